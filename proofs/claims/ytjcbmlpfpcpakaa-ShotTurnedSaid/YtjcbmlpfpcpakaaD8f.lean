/- Layer 8 (disk): syncs. -/
import Derived.Test.YtjcbmlpfpcpakaaD8e
namespace Go.Proofs.Ytjcbmlpfpcpakaa
open Go.RowKit
set_option linter.unusedVariables false
theorem Only.range {a b : World} {p : Nat → Prop} {x o : Nat} {cs : List Value} (h : Only a b p) (k : a.rangeAt x o cs) (hx : ¬ p x) : b.rangeAt x o cs := fun j v hv => by
  have hc := k j v hv
  have hlt := World.block_lt_of_cell? a _ hc
  unfold World.cell? at hc ⊢
  rw [h.block x hlt hx]
  exact hc
def applyW (S : List (BitVec 8)) (R : List (Nat × List (BitVec 8))) : List (BitVec 8) := R.foldl (fun S p => putS S p.1 p.2) S
theorem applyW_len {n : Nat} (R : List (Nat × List (BitVec 8))) (S : List (BitVec 8)) (hS : S.length = 64 * n) (h : ∀ p ∈ R, p.1 < n ∧ p.2.length = 64) : (applyW S R).length = 64 * n := by
  unfold applyW
  induction R generalizing S with
  | nil => exact hS
  | cons p r ih =>
    rw [List.foldl_cons]
    exact ih _ (putS_len hS (h p (by simp)).1 (h p (by simp)).2) (fun q hq => h q (by simp [hq]))
theorem applyW_step (S : List (BitVec 8)) (R : List (Nat × List (BitVec 8))) (k : Nat) (hk : k < R.length) : applyW S (R.take (k + 1)) = putS (applyW S (R.take k)) (R.getD k (0, [])).1 (R.getD k (0, [])).2 := by
  rw [List.take_succ_eq_append_getElem hk]
  unfold applyW
  rw [List.foldl_append]
  simp [hk]
def syncD (d : Dk) : Dk := ⟨d.n, applyW d.S d.R, [], d.fused, wrap64 (d.left - 1), d.c0, wrap64 (d.c1 + 1)⟩
theorem syncD_ok {d : Dk} (h : d.ok) : (syncD d).ok := ⟨h.n1, h.n2, applyW_len _ _ h.s h.r, fun p hp => by cases hp⟩
theorem follows_mixed : Try.prog.follows .mixedOrders = true := by kernel_rfl
set_option maxRecDepth 100000 in
set_option maxHeartbeats 2000000 in
theorem sync_ok {w : World} {B g sb : Nat} {rv : Value} {d : Dk} (h : DB w B g sb rv d) (hp : powP d = 0) (hB : B ≤ w.heap.size) :
    Calls Try.prog 29 #[.pointer (some ⟨g, 0, none⟩)] w fun e w' => e = .returned (ci 0) ∧ DB w' B g sb (.slice none 0 0) (syncD d) ∧ Only w w' (mine g sb rv) := by
  have H := Lib.hid (power_calls h)
  rw [hp] at H
  have c1 := h.cell1
  obtain ⟨a, c, hrv, hcap, hmx, hrow, hnil⟩ := h.row
  have hn2 : (d.n : Int) ≤ 65536 := by have := h.ok.n2; omega
  have HD := Lib.hid h
  have hmx' : (d.R.length : Int) ≤ 9223372036854775807 := by unfold maxLen at hmx; omega
  have HRow : Hid (∀ wx, Only w wx (fun i => i = sb) → ∀ j, j < d.R.length → ∃ x, a = some ⟨x, 0, none⟩ ∧ wx.rangeAt x (j * 65) (pc (d.R.getD j (0, [])))) := fun wx hO j hj => by
    obtain ⟨x, rfl, hr⟩ := hrow j hj
    refine ⟨x, rfl, hO.range hr ?_⟩
    rintro rfl
    subst hrv
    exact absurd rfl (row_type h.r h.s (by decide))
  have HF := Lib.hid (fun wx (hO : Only w wx (fun i => i = sb)) => (hO.blk h.b h.ne : Blk wx g (dc d sb rv) 130))
  have HN := Lib.hid h.ne
  have HO := Lib.hid h.ok
  have HBB := Lib.hid hB
  subst hrv
  clear h hp hrow hnil hcap hmx hB
  go_enter Try.func29, Try.ntmps29
  go_wp2_with (first | (go_at_call 83; refine H.out.mono ?_; rintro e w1 ⟨rfl, rfl⟩) | fail)
  go_loopw [16] (fun iv wx => ∃ k : Nat, k ≤ d.R.length ∧ iv = ci k ∧ Hid (Only w wx (fun i => i = sb) ∧ Blk wx sb (V cb (applyW d.S (d.R.take k))) 132)) (fun iv _ => ((d.R.length : Int) - intOf iv).toNat)
  case atStart => exact ⟨0, Nat.zero_le _, rfl, Only.refl _ _, by rw [List.take_zero]; exact HD.out.s⟩
  case round =>
    clear H c1
    obtain ⟨k, hk, rfl, hU⟩ := hrel
    by_cases hlt : k < d.R.length
    · have hlt' : (k : Int) < d.R.length := by omega
      obtain ⟨x, rfl, hr⟩ := HRow.out wr hU.out.1 k hlt
      obtain ⟨p, hpp⟩ : ∃ p, d.R.getD k (0, []) = p := ⟨_, rfl⟩
      have hpr : p.1 < d.n ∧ p.2.length = 64 := by
        rw [← hpp, List.getD_eq_getElem?_getD, List.getElem?_eq_getElem hlt]
        exact HO.out.r _ (List.getElem_mem hlt)
      have HP := Lib.hid hpp
      rw [hpp] at hr
      have hr' := Lib.hid hr
      have HPL := Lib.hid hpr.2
      have hpn : (p.1 : Int) < d.n := by have := hpr.1; omega
      have HPN := Lib.hid hpr.1
      have hpf : decide (d.n ≤ p.1) = false := decide_eq_false (by have := hpr.1; omega)
      have C0 : Hid (wr.cell? ⟨g, 0, none⟩ = some (.slice (some ⟨sb, 0, none⟩) d.n d.n)) := (HF.out wr hU.out.1).cell 0
      have hSl := Lib.hid (applyW_len (n := d.n) (d.R.take k) d.S HO.out.s (fun q hq => HO.out.r q (List.mem_of_mem_take hq)))
      clear hr hpp hpr
      go_upto_region 7 with (first
          | (guard_target =~ wpList _ _ _ (Oper.mk _ (.load 134 _) _ _ _ _ :: _) _ _; refine wpList_load_row A134 rfl _ rfl x (k * 65) rfl (pc p) (pc_len p HPL.out) hr'.out ?_)
          | (guard_target =~ wpList _ _ _ (Oper.mk _ (.alloc 134) _ _ _ _ :: _) _ _; refine wpList_make_row A134 rfl rfl rfl _ _ rfl rfl (pc p) (pc_len p HPL.out) (pc_one p) rfl ?_
             intro w2 E2 B2
             have c2 := pc_at B2
             have c3 := E2.cell C0.out
             have HB2 := Lib.hid B2
             have HE2 := Lib.hid E2
             clear E2 B2)
          | fail)
      refine wp_region_still_tail 9 follows_mixed (by kernel_rfl) ?_
      simp only [List.take_succ_cons, List.take_zero, List.drop_succ_cons, List.drop_zero]
      repeat (first | (refine wpStill_load_sec rfl _ rfl _ 1 rfl p.2 HPL.out (pc_data HB2.out) ?_) | still_step)
      refine wpStill_nil ?_
      change wpList _ _ _ _ _ (World.drew w2)
      refine wpList_store_sec rfl _ _ rfl sb p.1 rfl (applyW d.S (d.R.take k)) p.2 d.n rfl HPL.out (hU.out.2.ext HE2.out.drew) hSl.out HPN.out fun w3 B3 G3 => ?_
      clear c2 c3
      have HB3 := Lib.hid B3
      have HG3 := Lib.hid G3
      clear B3 G3
      go_wp2_with fail
      refine ⟨⟨k + 1, hlt, by simp, Lib.hid ⟨(hU.out.1.trans HE2.out.only).drew.grown HG3.out (fun i hi => (Option.some.inj hi).symm), ?_⟩⟩, by simp only [intOf]; omega⟩
      rw [applyW_step _ _ _ hlt, HP.out]
      exact HB3.out
    · have hek : k = d.R.length := by omega
      subst hek
      have k0 := HF.out wr hU.out.1
      have k1 : wr.cell? ⟨g, 1, none⟩ = some (.slice a d.R.length c) := k0.cell 1
      have k1f := k0.free 1
      have k5 : wr.cell? ⟨g, 5, none⟩ = some (ci d.c1) := k0.cell 5
      have k5f := k0.free 5
      have k3 : wr.cell? ⟨g, 3, none⟩ = some (ci d.left) := k0.cell 3
      have k3f := k0.free 3
      clear k0
      go_wp2_with fail
      go_region
      go_wp2_with fail
      go_ret
      have q0 := HF.out wr hU.out.1
      have q2 := hU.out.2
      rw [List.take_length] at q2
      have hs := HN.out.symm
      refine ⟨rfl, ⟨((q0.set 1 (.slice none 0 0)).set 5 (ci (wrap64 (d.c1 + 1)))).set 3 (ci (wrap64 (d.left - 1))), ((q2.far ⟨g, 1, none⟩ hs _).far ⟨g, 5, none⟩ hs _).far ⟨g, 3, none⟩ hs _, ⟨by simp [pcs, syncD], Or.inl ⟨rfl, rfl⟩⟩, syncD_ok HO.out⟩, ?_⟩
      have hO : Only w wr (mine g sb (.slice a d.R.length c)) := hU.out.1.mono (fun i hi => Or.inr (Or.inl hi))
      exact (((hO.set (Or.inl rfl) _).set (Or.inl rfl) _).set (Or.inl rfl) _).drew
end Go.Proofs.Ytjcbmlpfpcpakaa
