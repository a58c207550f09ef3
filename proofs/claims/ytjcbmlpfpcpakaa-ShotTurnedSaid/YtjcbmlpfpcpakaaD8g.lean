/- Layer 8 (disk): the image. -/
import Derived.Test.YtjcbmlpfpcpakaaD8f
namespace Go.Proofs.Ytjcbmlpfpcpakaa
open Go.RowKit
set_option linter.unusedVariables false
theorem Try.u36 : Try.prog.underlying 36 = some (.slice 5) := by kernel_rfl
theorem Try.info5 : (Try.prog.info? 5).map (fun i => (i.zero, i.size, i.bytes)) = some (some (.int .u8 0), 1, 1) := by kernel_rfl
theorem Rd.of_blk {w : World} {b : Nat} {l : List (BitVec 8)} {t : TypeId} {n c : Nat} (h : Blk w b (l.map cb).toArray t) (hn : n = l.length) (h0 : 0 < l.length) : Rd w cb (.slice (some ⟨b, 0, none⟩) n c) l := by
  refine Or.inr ⟨b, 0, c, n, rfl, hn, by omega, fun i hi => ?_⟩
  rw [h.cell]
  simp [hi]
theorem take_sec (S : List (BitVec 8)) (k : Nat) : S.take (64 * (k + 1)) = S.take (64 * k) ++ sec S k := by
  unfold sec
  rw [Nat.mul_succ, List.take_add]
set_option maxRecDepth 100000 in
set_option maxHeartbeats 2000000 in
theorem image_ok {w : World} {B g sb : Nat} {rv : Value} {d : Dk} (h : DB w B g sb rv d) :
    Calls Try.prog 31 #[.pointer (some ⟨g, 0, none⟩)] w fun e w' => ∃ v, e = .returned v ∧ Ext w w' ∧ Own w' w.heap.size 5 cb v d.S := by
  have c0 := h.cell0
  have hn2 : (d.n : Int) ≤ 65536 := by have := h.ok.n2; omega
  have HN2 := Lib.hid h.ok.n2
  have HSec := Lib.hid h.sec
  have HL := Lib.hid h.ok.s
  obtain ⟨i5, j1, j2, j3, j4⟩ := info_parts Try.info5
  clear h
  go_enter Try.func31, Try.ntmps31
  go_wp2_with fail
  go_loopw [3, 13] (fun ov iv wx => ∃ k : Nat, k ≤ d.n ∧ iv = ci k ∧ Hid (Ext w wx ∧ Own wx w.heap.size 5 cb ov (d.S.take (64 * k)))) (fun _ iv _ => ((d.n : Int) - intOf iv).toNat)
  case atStart => exact ⟨0, Nat.zero_le _, rfl, Ext.refl _, by rw [Nat.mul_zero, List.take_zero]; exact Own.nil⟩
  case round =>
    clear c0
    obtain ⟨k, hk, rfl, hU⟩ := hrel
    by_cases hlt : k < d.n
    · have hlt' : (k : Int) < d.n := by omega
      have hr' := Lib.hid (range_ext (HSec.out k hlt) hU.out.1)
      have hl := Lib.hid (sec_len HL.out hlt)
      have hXY : Hid (((d.S.take (64 * k)).length + (sec d.S k).length) * 1 ≤ 140737488355328 ∧ (d.S.take (64 * k)).length + (sec d.S k).length ≤ 9223372036854775807) := by
        have h1 := hl.out
        have h2 := HN2.out
        have h3 : (d.S.take (64 * k)).length ≤ 64 * k := by rw [List.length_take]; omega
        exact ⟨by omega, by omega⟩
      go_wp2_with (first
          | (guard_target =~ wpList _ _ _ (Oper.mk _ (.load 132 _) _ _ _ _ :: _) _ _; refine wpList_load_row A132 rfl _ rfl sb (k * 64) rfl ((sec d.S k).map cb) (by rw [List.length_map]; exact hl.out) hr'.out ?_)
          | (guard_target =~ wpList _ _ _ (Oper.mk _ (.alloc 132) _ _ _ _ :: _) _ _; refine wpList_make_row A132 rfl rfl rfl _ _ rfl rfl ((sec d.S k).map cb) (by rw [List.length_map]; exact hl.out) (cb_ones _) rfl ?_
             intro w2 E2 B2
             have HB2 := Lib.hid B2
             have HE2 := Lib.hid E2
             clear E2 B2)
          | (at_builtin; refine wpList_append_rd cb (fun _ => rfl) rfl _ _ 36 rfl w.heap.size 5 i5 0 1 Try.u36 j1 j2 j3 j4 rfl _ (d.S.take (64 * k)) rfl (HE2.out.own hU.out.2) _ (sec d.S k) rfl (Rd.of_blk HB2.out hl.out.symm (by rw [hl.out]; decide)) hXY.out.1 hXY.out.2 (hU.out.1.trans HE2.out).size ?_
             intro v3 w3 O3 G3
             have G3' : w2.grownBy w3 u3.ownBlock := G3
             clear G3)
          | fail)
      refine ⟨⟨k + 1, hlt, by simp, Lib.hid ⟨(hU.out.1.trans HE2.out).grown G3' (fun i hi => (hU.out.2.lt i hi).1), ?_⟩⟩, by simp only [intOf]; omega⟩
      rw [take_sec]
      exact O3
    · have hek : k = d.n := by omega
      subst hek
      go_wp2_with fail
      go_ret
      refine ⟨_, rfl, hU.out.1, ?_⟩
      have := hU.out.2
      rw [List.take_of_length_le (by rw [HL.out]; exact Nat.le_refl _)] at this
      exact this
end Go.Proofs.Ytjcbmlpfpcpakaa
