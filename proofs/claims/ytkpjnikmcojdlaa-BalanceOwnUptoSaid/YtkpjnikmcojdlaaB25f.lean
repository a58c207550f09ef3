/- BalanceApplies: the walk of the law. -/
import Derived.Test.YtkpjnikmcojdlaaB25e
namespace Go.Proofs.Ytkpjnikmcojdlaa
open Go.RowKit
set_option linter.unusedVariables false

def resC (R : Option (List Int)) : Int := if R.isSome then 0 else 250
def resL (R : Option (List Int)) : List Int := R.getD []
theorem Res.use {B : Nat} {R : Option (List Int)} {e : Ending} {w' : World} (h : Res B R e w') : ∃ v, e = .returned (.tuple #[v, ci (resC R)]) ∧ Rd w' ci v (resL R) := by
  rcases h with ⟨rfl, h⟩ | ⟨L, v', rfl, h, o⟩
  · exact ⟨_, h, Or.inl ⟨none, 0, rfl, rfl, fun _ => rfl⟩⟩
  · exact ⟨_, h, o.rd⟩
theorem applyAll_len (s : Int) : ∀ (ms : List Mv) (l L : List Int), applyAll s l ms = some L → L.length = l.length
  | [], l, L, h => by rw [applyAll_nil] at h; cases h; rfl
  | m :: r, l, L, h => by
    rw [applyAll_cons] at h
    split at h
    · have := applyAll_len s r _ L h
      rw [List.length_set] at this; exact this
    · cases h
theorem resL_len (l : List Int) (s : Int) (ms : List Mv) : (resL (applied l s ms)).length ≤ l.length := by
  unfold resL applied
  split
  · cases h : applyAll s l ms with
    | none => simp
    | some L => have := applyAll_len s ms l L h; simp [this]
  · simp
/-- a row of moves in a block -/
def HasM (w : World) (g : Nat) (l : List Mv) : Prop := ∃ cur : Array Value, w.heap[g]? = some (.cells cur 29 (0, 0)) ∧ ∀ (j : Nat) (u : Value), (l.flatMap f3)[j]? = some u → cur[j]? = some u
theorem HasM.ext {w w' : World} {g : Nat} {l : List Mv} (h : HasM w g l) (e : Ext w w') : HasM w' g l := by
  obtain ⟨cur, h1, h2⟩ := h
  exact ⟨cur, e.heap h1, h2⟩
theorem HasM.rd {w : World} {g : Nat} {l m : List Mv} (h : HasM w g (l ++ m)) {n c : Nat} (hn : n = l.length) : RdM w (.slice (some ⟨g, 0, none⟩) n c) l := by
  subst hn
  obtain ⟨cur, h1, h2⟩ := h
  rcases Nat.eq_zero_or_pos l.length with h0 | h0
  · have e : l = [] := List.eq_nil_of_length_eq_zero h0
    subst e
    exact Or.inl ⟨_, _, rfl, rfl, fun h => by cases h⟩
  · refine Or.inr ⟨g, 0, c, _, rfl, rfl, h0, fun j u hj => ?_⟩
    rw [Nat.zero_add, cell_of_row w g j cur 29 (0, 0) h1]
    refine h2 j u ?_
    rw [List.flatMap_append, List.getElem?_append_left (List.getElem?_eq_some_iff.1 hj).1]
    exact hj
theorem HasM.cell {w : World} {g : Nat} {l : List Mv} (h : HasM w g l) (i : Nat) (hi : i < l.length) : w.cell? ⟨g, i * 3, none⟩ = some (ci l[i].1) := by
  obtain ⟨cur, h1, h2⟩ := h
  rw [cell_of_row w g _ cur 29 (0, 0) h1]; exact h2 _ _ (f3_at l i hi).1
theorem lent_one (w : World) (m : Mv) : RdM (w.alloc (.cells #[ci m.1, ci m.2.1, ci m.2.2] 29)) (.slice (some ⟨w.heap.size, 0, none⟩) 1 1) [m] := by
  refine Or.inr ⟨_, 0, _, 1, rfl, rfl, by omega, fun j u hj => ?_⟩
  rw [Nat.zero_add, World.cell?_alloc_new]
  simpa [f3] using hj
theorem ext_drewN {w w' : World} {k : Nat} (h : w.drewN k = w') : Ext w w' := by subst h; exact (Ext.refl w).drewN k
set_option maxHeartbeats 2000000 in
theorem applies_walk (sv : Value) (l : List Int) (s : Int) (mv : Value) (ms : List Mv) (W : World) (hl : Rd W ci sv l) (hm : l.length * 8 ≤ 140737488351232) (hs : -9223372036854775808 ≤ s ∧ s ≤ 9223372036854775807) (hms : RdM W mv ms) (hmm : ms.length * 24 ≤ 140737488351232) :
    Calls Try.prog 3 #[sv, ci s, mv] W fun e w' => e = .returned (.bool true) ∧ Ext W w' := by
  have hmm' : (ms.length : Int) ≤ 5864062014634 := by omega
  have H11 := Lib.hid (rapply_calls sv l s mv ms W hl hm hs hms hmm)
  have HL := Lib.hid hl
  have HM := Lib.hid hm
  have HS := Lib.hid hs
  have HMS := Lib.hid hms
  have HMM := Lib.hid hmm
  obtain ⟨ad, c, rfl, hat⟩ := hms.at
  obtain ⟨ad0, c0, rfl, hat0⟩ := hl.at
  have hlen := Lib.hid (resL_len l s ms)
  clear hat hat0 hl hm hs hms hmm
  obtain ⟨R, hR⟩ : ∃ R, applied l s ms = R := ⟨_, rfl⟩
  have HR := Lib.hid hR
  rw [hR] at H11 hlen
  clear hR
  obtain ⟨C, hC⟩ : ∃ c, resC R = c := ⟨_, rfl⟩
  obtain ⟨X, hX⟩ : ∃ c, resL R = c := ⟨_, rfl⟩
  have HC := Lib.hid hC
  have HX := Lib.hid hX
  rw [hX] at hlen
  clear hC hX
  go_enter Try.func3, Try.ntmps3
  go_wp2_with (first
    | (go_at_call 11; refine H11.out.mono ?_; clear H11; rintro e w1 ⟨hres, e1⟩
       obtain ⟨xv, rfl, hx⟩ := hres.use
       rw [HC.out]
       rw [HX.out] at hx
       have XV := Lib.hid hx
       have E1 := Lib.hid e1
       have H12 := Lib.hid (ints_calls _ l w1 (e1.rd HL.out) HM.out)
       clear hres hx e1)
    | (go_at_call 12; refine H12.out.mono ?_; clear H12; rintro e w2 ⟨g, cc, rfl, hc1, hc2, -, -, hrow, e2⟩
       have HC1 := Lib.hid hc1
       have HC2 := Lib.hid hc2
       have ROW := Lib.hid hrow
       have E2 := Lib.hid (E1.out.trans e2)
       have F2 := Lib.hid e2
       have O2 : Hid (OwnM (w2.alloc (.cells #[] 29)) w2.heap.size (.slice (some ⟨w2.heap.size, 0, none⟩) 0 0) []) := OwnM.made (Nat.le_refl _)
       have M2 := Lib.hid (HMS.out.ext (E2.out.alloc (.cells #[] 29)))
       have S2 : Hid (w2.heap.size ≤ (w2.alloc (.cells #[] 29)).heap.size) := by show _ ≤ _; simp
       have B2 : Hid ((([] : List Mv).length + ms.length) * 24 ≤ 140737488355328) := by show _ ≤ _; have := HMM.out; simp; omega
       clear hc1 hc2 hrow e2)
    | (at_builtin; refine wpList_append_moves rfl (.tmp 22) (.tmp 23) rfl w2.heap.size _ [] rfl O2.out _ ms rfl M2.out B2.out S2.out ?_
       intro v3 w3 ho3 hg3 hb3
       rw [List.nil_append] at ho3
       have E3 := Lib.hid ((Ext.of_alloc (w := w2) (.cells #[] 29)).grown hg3 (fun k hk => by cases hk; exact Nat.le_refl _))
       have O3 := Lib.hid (ho3.ext (Ext.of_alloc (w := w3) (.cells #[ci (-99), ci 0, ci 0] 29)))
       have M3 := Lib.hid (lent_one w3 (-99, 0, 0))
       have S3 := Lib.hid ((E3.out.alloc (.cells #[ci (-99), ci 0, ci 0] 29)).size)
       have B3 : Hid ((ms.length + [((-99, 0, 0) : Mv)].length) * 24 ≤ 140737488355328) := by show _ ≤ _; have := HMM.out; simp; omega
       clear ho3 hg3 hb3 O2 M2 S2 B2)
    | (at_builtin; refine wpList_append_moves rfl (.tmp 25) (.tmp 27) rfl w2.heap.size _ ms rfl O3.out _ [(-99, 0, 0)] rfl M3.out B3.out S3.out ?_
       intro v4 w4 ho4 hg4 hb4
       have E4 := Lib.hid ((E3.out.alloc (.cells #[ci (-99), ci 0, ci 0] 29)).grown hg4 (fun k hk => (World.ownsRow.lt O3.out k hk).1))
       obtain ⟨g4, c4, cur, hv4, -, hg4', hc4, hm4, hcur⟩ := ho4.has (by simp)
       simp only [List.length_append, List.length_singleton] at hv4 hc4
       subst hv4
       have P4 : Hid (HasM w4 g4 (ms ++ [(-99, 0, 0)])) := ⟨cur, hg4', hcur⟩
       have hk1 : (ms.length : Int) ≤ c4 := by omega
       have hk2 : (c4 : Int) ≤ 9223372036854775807 := by simp only [maxLen] at hm4; omega
       have hk3 : ms.length < ms.length + 1 := by omega
       have EW4 := Lib.hid (E2.out.trans E4.out)
       have H13 := Lib.hid (apply_calls (.slice (some ⟨g, 0, none⟩) l.length cc) l s (.slice (some ⟨g4, 0, none⟩) ms.length c4) ms w4 ((ROW.out.ext E4.out).rd rfl) HM.out HS.out (P4.out.rd rfl) HMM.out)
       rw [HR.out] at H13
       clear ho4 hg4 hb4 hg4' hc4 hm4 hcur O3 M3 S3 B3)
    | (go_at_call 13; refine H13.out.mono ?_; clear H13; rintro e w5 ⟨hres, e5⟩
       obtain ⟨yv, rfl, hy⟩ := hres.use
       rw [HC.out]
       rw [HX.out] at hy
       have YV := Lib.hid hy
       have E5 := Lib.hid e5
       have H14 := Lib.hid (keptInts_calls g cc _ l w5 (ROW.out.ext (E4.out.trans e5)) HC1.out HC2.out ((EW4.out.trans e5).rd HL.out))
       clear hres hy e5)
    | (go_at_call 14; refine H14.out.mono ?_; clear H14; rintro e w6 ⟨rfl, k6, h6⟩
       have E6 := Lib.hid (E5.out.trans (ext_drewN h6))
       have F6 := Lib.hid (ext_drewN h6)
       have H15 := Lib.hid (sameMoves_calls (.slice (some ⟨g4, 0, none⟩) ms.length c4) _ ms w6 ((P4.out.ext E6.out).rd rfl) (HMS.out.ext (EW4.out.trans E6.out)) (by have := HMM.out; omega))
       clear h6)
    | (go_at_call 15; refine H15.out.mono ?_; clear H15; rintro e w7 ⟨rfl, k7, h7⟩
       have E7 := Lib.hid (E6.out.trans (ext_drewN h7))
       have F7 := Lib.hid (F6.out.trans (ext_drewN h7))
       have c7 : w7.cell? ⟨g4, ms.length * 3, none⟩ = some (ci (-99)) := by
         have h := (P4.out.ext E7.out).cell ms.length (by simp)
         rw [h]; simp
       have H16 := Lib.hid (same_calls xv yv X X w7 ((F2.out.trans (E4.out.trans E7.out)).rd XV.out) (F7.out.rd YV.out) (by have := hlen.out; have := HM.out; omega) (by have := hlen.out; have := HM.out; omega))
       rw [show decide (X = X) = true by simp] at H16
       clear h7)
    | (go_at_call 16; refine H16.out.mono ?_; clear H16; rintro e w8 ⟨rfl, k8, h8⟩
       have E8 := Lib.hid (E7.out.trans (ext_drewN h8))
       clear h8)
    | fail)
  go_ret
  exact ⟨rfl, EW4.out.trans E8.out⟩
theorem applies_walk' (sv : Value) (l : List Int) (s : Int) (mv : Value) (ms : List Mv) (W : World) (hl : Rd W ci sv l) (hm : l.length * 8 ≤ 140737488351232) (hs : -9223372036854775808 ≤ s ∧ s ≤ 9223372036854775807) (hms : RdM W mv ms) (hmm : ms.length * 24 ≤ 140737488351232) :
    Calls Try.prog 3 #[sv, ci s, mv] W fun e w' => e = .returned (.bool true) ∧ Below W.heap.size W w' :=
  (applies_walk sv l s mv ms W hl hm hs hms hmm).mono fun e w' h => ⟨h.1, h.2.to⟩
end Go.Proofs.Ytkpjnikmcojdlaa
