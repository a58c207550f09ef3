/- Layer 8 (disk): reads. -/
import Derived.Test.YtjcbmlpfpcpakaaD8u
import Derived.Test.YtjcbmlpfpcpakaaD8c
namespace Go.Proofs.Ytjcbmlpfpcpakaa
open Go.RowKit
set_option linter.unusedVariables false

/-- a sector as it was written last -/
def readS (at' : Nat) (s : List (BitVec 8)) (R : List (Nat × List (BitVec 8))) : List (BitVec 8) := R.foldl (fun s p => if p.1 = at' then p.2 else s) s
def Dk.read (d : Dk) (at' : Nat) : List (BitVec 8) := readS at' (sec d.S at') d.R
theorem readS_len (at' : Nat) (R : List (Nat × List (BitVec 8))) (s : List (BitVec 8)) (hs : s.length = 64) (h : ∀ p ∈ R, p.2.length = 64) : (readS at' s R).length = 64 := by
  unfold readS
  induction R generalizing s with
  | nil => exact hs
  | cons p r ih =>
    rw [List.foldl_cons]
    refine ih _ ?_ (fun q hq => h q (by simp [hq]))
    split
    · exact h p (by simp)
    · exact hs
theorem readS_step (at' : Nat) (s : List (BitVec 8)) (R : List (Nat × List (BitVec 8))) (k : Nat) (hk : k < R.length) : readS at' s (R.take (k + 1)) = if (R.getD k (0, [])).1 = at' then (R.getD k (0, [])).2 else readS at' s (R.take k) := by
  rw [List.take_succ_eq_append_getElem hk]
  unfold readS
  rw [List.foldl_append]
  simp [hk]
set_option maxRecDepth 100000 in
set_option maxHeartbeats 2000000 in
theorem read_ok {w : World} {B g sb : Nat} {rv : Value} {d : Dk} (h : DB w B g sb rv d) (at' : Nat) (hp : powP d = 0) (ha : at' < d.n) :
    Calls Try.prog 33 #[.pointer (some ⟨g, 0, none⟩), ci at'] w fun e w' => e = .returned (.tuple #[.slice (some ⟨w.heap.size, 0, none⟩) 64 64, ci 0]) ∧ Ext w w' ∧ Blk w' w.heap.size (V cb (d.read at')) 132 := by
  have H := Lib.hid (power_calls h)
  rw [hp] at H
  have c0 := h.cell0
  have c1 := h.cell1
  obtain ⟨a, c, hrv, hcap, hmx, hrow, hnil⟩ := h.row
  have hn2 : (d.n : Int) ≤ 65536 := by have := h.ok.n2; omega
  have ha' : (at' : Int) < d.n := by omega
  have hf1 : decide ((at' : Int) < 0) = false := decide_eq_false (by omega)
  have hf2 : decide (d.n ≤ at') = false := decide_eq_false (by omega)
  have HD := Lib.hid h
  have HS := Lib.hid (h.sec at' ha)
  have HL := Lib.hid (sec_len h.ok.s ha)
  have HRow := Lib.hid hrow
  have hmx' : (d.R.length : Int) ≤ 9223372036854775807 := by unfold maxLen at hmx; omega
  subst hrv
  clear h hp hrow hnil hcap hmx
  go_enter Try.func33, Try.ntmps33
  go_upto_region 6 with (first | (go_at_call 83; refine H.out.mono ?_; rintro e w1 ⟨rfl, rfl⟩) | fail)
  go_wp2_with (first
    | (guard_target =~ wpList _ _ _ (Oper.mk _ (.load 132 _) _ _ _ _ :: _) _ _; refine wpList_load_row A132 rfl _ rfl sb (at' * 64) rfl ((sec d.S at').map cb) (by rw [List.length_map]; exact HL.out) HS.out ?_)
    | (guard_target =~ wpList _ _ _ (Oper.mk _ (.alloc 132) _ _ _ _ :: _) _ _; refine wpList_make_row A132 rfl rfl rfl _ _ rfl rfl ((sec d.S at').map cb) (by rw [List.length_map]; exact HL.out) (cb_ones _) rfl ?_
       intro w1 E1 B1
       have c1' := E1.cell c1
       clear H c0 c1 HS)
    | fail)
  have HE := Lib.hid E1
  have HB := Lib.hid B1
  clear E1 B1
  go_loopw [38] (fun iv wx => ∃ k : Nat, k ≤ d.R.length ∧ iv = ci k ∧ Hid (Ext w wx ∧ Blk wx w.heap.size ((readS at' (sec d.S at') (d.R.take k)).map cb).toArray 132)) (fun iv _ => ((d.R.length : Int) - intOf iv).toNat)
  case atStart => exact ⟨0, Nat.zero_le _, rfl, HE.out, by rw [List.take_zero]; exact HB.out⟩
  case round =>
    clear HE HB c1'
    obtain ⟨k, hk, rfl, hU⟩ := hrel
    by_cases hlt : k < d.R.length
    · have hlt' : (k : Int) < d.R.length := by omega
      obtain ⟨x, rfl, hr⟩ := HRow.out k hlt
      obtain ⟨p, hpp⟩ : ∃ p, d.R.getD k (0, []) = p := ⟨_, rfl⟩
      have hpl : p.2.length = 64 := by
        rw [← hpp, List.getD_eq_getElem?_getD, List.getElem?_eq_getElem hlt]
        exact (HD.out.ok.r _ (List.getElem_mem hlt)).2
      have HP := Lib.hid hpp
      rw [hpp] at hr
      have hr' := Lib.hid (range_ext hr hU.out.1)
      have HPL := Lib.hid hpl
      clear hr hpp hpl
      by_cases he : p.1 = at'
      · subst he
        go_wp2_with (first
          | (guard_target =~ wpList _ _ _ (Oper.mk _ (.load 134 _) _ _ _ _ :: _) _ _; refine wpList_load_row A134 rfl _ rfl x (k * 65) rfl (pc p) (pc_len p HPL.out) hr'.out ?_)
          | (guard_target =~ wpList _ _ _ (Oper.mk _ (.alloc 134) _ _ _ _ :: _) _ _; refine wpList_make_row A134 rfl rfl rfl _ _ rfl rfl (pc p) (pc_len p HPL.out) (pc_one p) rfl ?_
             intro w2 E2 B2
             have c2 := pc_at B2
             have HB2 := Lib.hid B2
             have HE2 := Lib.hid E2
             clear E2 B2)
          | (guard_target =~ wpList _ _ _ (Oper.mk _ (.load 132 _) _ _ _ _ :: _) _ _; refine wpList_load_row A132 rfl _ rfl _ 1 rfl (p.2.map cb) (by rw [List.length_map]; exact HPL.out) (pc_data HB2.out) ?_)
          | (guard_target =~ wpList _ _ _ (Oper.mk _ (.store 132 _ _) _ _ _ _ :: _) _ _; refine wpList_store_blk A132 rfl _ _ rfl w.heap.size rfl _ _ (hU.out.2.ext HE2.out) ?hcs (p.2.map cb) (by rw [List.length_map]; exact HPL.out) (cb_ones _) rfl ?_
             rotate_left
             intro w3 B3 G3)
          | fail)
        · refine ⟨⟨k + 1, hlt, by simp, Lib.hid ⟨(hU.out.1.trans HE2.out).grown1 G3 (Nat.le_refl _), ?_⟩⟩, by simp only [intOf]; omega⟩
          rw [readS_step _ _ _ _ hlt, HP.out, if_pos rfl]
          exact B3
        · simpa using readS_len _ _ _ HL.out (fun q hq => (HD.out.ok.r q (List.mem_of_mem_take hq)).2)
      · have he' : ¬ ((p.1 : Int) = at') := by omega
        go_wp2_with (first
          | (guard_target =~ wpList _ _ _ (Oper.mk _ (.load 134 _) _ _ _ _ :: _) _ _; refine wpList_load_row A134 rfl _ rfl x (k * 65) rfl (pc p) (pc_len p HPL.out) hr'.out ?_)
          | (guard_target =~ wpList _ _ _ (Oper.mk _ (.alloc 134) _ _ _ _ :: _) _ _; refine wpList_make_row A134 rfl rfl rfl _ _ rfl rfl (pc p) (pc_len p HPL.out) (pc_one p) rfl ?_
             intro w2 E2 B2
             have c2 := pc_at B2
             have HE2 := Lib.hid E2
             clear E2 B2)
          | fail)
        refine ⟨⟨k + 1, hlt, by simp, Lib.hid ⟨hU.out.1.trans HE2.out, ?_⟩⟩, by simp only [intOf]; omega⟩
        rw [readS_step _ _ _ _ hlt, HP.out, if_neg he]
        exact hU.out.2.ext HE2.out
    · have hek : k = d.R.length := by omega
      subst hek
      go_wp2_with fail
      go_ret2
      refine ⟨rfl, hU.out.1, ?_⟩
      have := hU.out.2
      rw [List.take_length] at this
      rw [V_eq]
      exact this
end Go.Proofs.Ytjcbmlpfpcpakaa
