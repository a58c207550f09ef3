/- Layer 25 (balance): numbers lent with a mark behind them; rows of moves. -/
import Derived.Test.YtkpjnikmcojdlaaB25a
namespace Go.Proofs.Ytkpjnikmcojdlaa
open Go.RowKit
set_option linter.unusedVariables false

theorem ints_calls (sv : Value) (l : List Int) (w : World) (hl : Rd w ci sv l) (hm : l.length * 8 ≤ 140737488351232) :
    Calls Try.prog 12 #[sv] w fun e w' => ∃ g c, e = .returned (.slice (some ⟨g, 0, none⟩) l.length c) ∧ l.length + 1 ≤ c ∧ c ≤ maxLen ∧ w.heap.size ≤ g ∧ Own w' w.heap.size 3 ci (.slice (some ⟨g, 0, none⟩) (l.length + 1) c) (l ++ [-77]) ∧ HasRow w' ci 3 g (l ++ [-77]) ∧ Ext w w' := by
  obtain ⟨i3, j1, j2, j3, j4⟩ := info_parts Try.info3
  have hz : i3.zero = some (ci 0) := j2
  obtain ⟨ad, c, rfl, hat⟩ := hl.at
  have e1 := Ext.of_alloc (w := w) (.cells #[] 3)
  have HL := Lib.hid (e1.rd hl)
  have O1 : Hid (Own (w.alloc (.cells #[] 3)) w.heap.size 3 ci (.slice (some ⟨w.heap.size, 0, none⟩) 0 0) []) := Own.made (Nat.le_refl _)
  have S1 := Lib.hid e1.size
  have B1 : Hid ((([] : List Int).length + l.length) * 8 ≤ 140737488355328) := by show _ ≤ _; simp; omega
  have M1 : Hid ((([] : List Int).length + l.length) ≤ 9223372036854775807) := by show _ ≤ _; simp; omega
  have B2 : Hid ((([] ++ l).length + 1) * 8 ≤ 140737488355328) := by show _ ≤ _; simp; omega
  have M2 : Hid ((([] ++ l).length + 1) ≤ 9223372036854775807) := by show _ ≤ _; simp; omega
  have E1 := Lib.hid e1
  have hm' : (l.length : Int) ≤ 17592186043904 := by omega
  clear hat hl e1 hm
  go_enter Try.func12, Try.ntmps12
  go_wp2_with (first
    | (at_builtin; refine wpList_append_rd ci ci_one rfl (.tmp 4) (.tmp 5) 22 rfl w.heap.size 3 i3 0 8 Try.u22 j1 hz j3 j4 rfl (.slice (some ⟨w.heap.size, 0, none⟩) 0 0) [] rfl O1.out _ l rfl HL.out B1.out M1.out S1.out ?_
       clear O1 HL B1 M1
       intro v1 w1 ho1 hg1
       have E2 := Lib.hid (E1.out.grown hg1 (fun k hk => by cases hk; exact Nat.le_refl _))
       have O2 := Lib.hid ((Ext.of_alloc (w := w1) (.cells #[ci (-77)] 3)).own ho1)
       have X2 : Hid ((w1.alloc (.cells #[ci (-77)] 3)).cell? ⟨w1.heap.size, 0, none⟩ = some (ci (-77))) := by show _ = _; rw [World.cell?_alloc_new]; rfl
       have S2 := Lib.hid ((E2.out.alloc (.cells #[ci (-77)] 3)).size)
       clear ho1 hg1 E1)
    | (at_builtin; refine wpList_append_one ci rfl (.tmp 7) (.tmp 8) 22 rfl w.heap.size 3 i3 (ci 0) 8 Try.u22 j1 hz j3 j4 rfl _ ([] ++ l) rfl O2.out w1.heap.size 1 _ rfl X2.out rfl B2.out M2.out S2.out ?_
       intro v2 w2 ho2 hg2 hb2
       have E3 := Lib.hid ((E2.out.alloc (.cells #[ci (-77)] 3)).grown hg2 (fun k hk => (O2.out.lt k hk).1))
       rw [List.nil_append] at ho2
       obtain ⟨g, cc, hv2, hB, hr, hcc, hcm⟩ := ho2.has (by simp)
       simp only [List.length_append, List.length_singleton] at hv2 hcc
       subst hv2
       have P := Lib.hid (And.intro hB (And.intro ho2 hr))
       have HC := Lib.hid (And.intro hcc hcm)
       have hc1 : (l.length : Int) ≤ cc := by omega
       have hc2 : (cc : Int) ≤ 9223372036854775807 := by simp only [maxLen] at hcm; omega
       clear ho2 hg2 hb2 hB hr hcc hcm O2 X2 S2 B2 M2)
    | fail)
  go_ret
  exact ⟨g, cc, rfl, HC.out.1, HC.out.2, P.out.1, P.out.2.1, P.out.2.2, E3.out⟩
theorem keptInts_calls (g c : Nat) (sv : Value) (l : List Int) (w : World) (hg : HasRow w ci 3 g (l ++ [-77])) (hc : l.length + 1 ≤ c) (hcm : c ≤ maxLen) (hl : Rd w ci sv l) :
    Calls Try.prog 14 #[.slice (some ⟨g, 0, none⟩) l.length c, sv] w fun e w' => e = .returned (.bool true) ∧ ∃ n, w.drewN n = w' := by
  have hlm : l.length ≤ 9223372036854775807 := by simp only [maxLen] at hcm; omega
  have H := same_calls (.slice (some ⟨g, 0, none⟩) l.length c) sv l l w (hg.rd rfl) hl hlm hlm
  rw [show decide (l = l) = true by simp] at H
  have HS := Lib.hid H
  have C0 : Hid (∀ n, (w.drewN n).cell? ⟨g, l.length, none⟩ = some (ci (-77))) := fun n => by
    have h := hg.cell l.length (by simp)
    rw [show (w.drewN n).cell? ⟨g, l.length, none⟩ = w.cell? ⟨g, l.length, none⟩ from rfl, h]
    simp
  obtain ⟨ad, c', rfl, hat⟩ := hl.at
  have hc1 : (l.length : Int) + 1 ≤ c := by omega
  have hc2 : (c : Int) ≤ 9223372036854775807 := by simp only [maxLen] at hcm; omega
  have hlm' : (l.length : Int) + 1 ≤ 9223372036854775807 := by omega
  clear hat hl hg hc hcm H hlm
  generalize l.length = n at *
  go_enter Try.func14, Try.ntmps14
  go_wp2_with (first
    | (go_at_call 16; refine HS.out.mono ?_; clear HS; rintro e w' ⟨rfl, k, rfl⟩; have c0 := C0.out k)
    | fail)
  go_ret
  exact ⟨rfl, _, rfl⟩
end Go.Proofs.Ytkpjnikmcojdlaa
