/- Layer 9 (load): the meter that the document names. -/
import Derived.Test.YtjgdeijodjihlaaD9f
namespace Go.Proofs.Ytjgdeijodjihlaa
open Go.RowKit
set_option linter.unusedVariables false

def ka : Mt := (hitP (newM 3 10) 0 0 4620693217682128896).2
def kb : Mt := (hitP ka 2 5 4616189618054758400).2
def kc : Mt := (hitP kb 0 9 4607182418800017408).2
def kd : Mt := (onP kc 10).2
theorem km1 : (hitP (newM 3 10) 0 0 4620693217682128896).1 = 0 := by kernel_rfl
theorem km2 : (hitP ka 2 5 4616189618054758400).1 = 0 := by kernel_rfl
theorem km3 : (hitP kb 0 9 4607182418800017408).1 = 0 := by kernel_rfl
theorem km4 : (onP kc 10).1 = 0 := by kernel_rfl
theorem kv : V cf ([4616752568008179712, 0, 4611686018427387904] ++ []) = #[.float .f64 4616752568008179712, .float .f64 0, .float .f64 4611686018427387904] := by
  apply Array.ext'; rw [V_toList]; rfl
theorem kmL : kd.L = [4616752568008179712, 0, 4611686018427387904] := by kernel_rfl
theorem kmS : sumF 0 kd.L = 4619004367821864960 := by kernel_rfl
theorem kmT : topF kd.L (-1) 0 kd.L = 0 := by kernel_rfl
theorem kmO : (FloatKind.f64.format.order 4619004367821864960 4619004367821864960 == some .eq) = true := by kernel_rfl
set_option maxHeartbeats 2000000 in
theorem known_calls (w : World) : Calls Try.prog 9 #[] w fun e w' => e = .returned (.bool true) ∧ Ext w w' := by
  have HNW := Lib.hid (new_fit 3 10 w (by decide))
  have HN := Lib.hid num_calls
  have HO := kmO
  go_enter Try.func9, Try.ntmps9
  go_wp2_with (first
    | (go_at_call 16; refine HNW.out.mono ?_; clear HNW; rintro e w1 ⟨g, lb, rfl, h1, h2, h3, h4⟩
       have LO := Lib.hid (And.intro h1 h2)
       have E1 := Lib.hid h4
       have H1 := Lib.hid (hit_calls g lb (newM 3 10) 0 0 4620693217682128896 w1 h3 (by omega))
       rw [km1] at H1
       clear h1 h2 h3 h4)
    | (go_at_call 14; refine H1.out.mono ?_; clear H1; rintro e w2 ⟨rfl, k1, k2⟩
       have E2 := Lib.hid (E1.out.grw2 k2 LO.out.1 LO.out.2)
       have k1' : MB w2 g lb ka := k1
       have H2 := Lib.hid (hit_calls g lb ka 2 5 4616189618054758400 w2 k1' (by omega))
       rw [km2] at H2
       clear k1 k2 k1')
    | (go_at_call 14; refine H2.out.mono ?_; clear H2; rintro e w3 ⟨rfl, k1, k2⟩
       have E3 := Lib.hid (E2.out.grw2 k2 LO.out.1 LO.out.2)
       have k1' : MB w3 g lb kb := k1
       have H3 := Lib.hid (hit_calls g lb kb 0 9 4607182418800017408 w3 k1' (by omega))
       rw [km3] at H3
       clear k1 k2 k1')
    | (go_at_call 14; refine H3.out.mono ?_; clear H3; rintro e w4 ⟨rfl, k1, k2⟩
       have E4 := Lib.hid (E3.out.grw2 k2 LO.out.1 LO.out.2)
       have k1' : MB w4 g lb kc := k1
       have H4 := Lib.hid (go_calls g lb kc 10 w4 k1')
       rw [km4] at H4
       clear k1 k2 k1')
    | (go_at_call 22; refine H4.out.mono ?_; clear H4; rintro e w5 ⟨rfl, k1, k2⟩
       have E5 := Lib.hid (E4.out.grw2 k2 LO.out.1 LO.out.2)
       have k1' : MB w5 g lb kd := k1
       have M5 := Lib.hid k1'
       have H5 := Lib.hid (row_calls g lb kd w5 k1')
       clear k1 k2 k1')
    | (go_at_call 13; refine (HN.out _ _).mono ?_; rintro e w2 ⟨rfl, rfl⟩)
    | (go_at_call 12; refine H5.out.mono ?_; clear H5; rintro e w6 ⟨v6, rfl, h1, h2⟩
       rw [kmL] at h1
       have x7 := Ext.of_alloc (w := w6) (.cells #[.float .f64 4616752568008179712, .float .f64 0, .float .f64 4611686018427387904] 33)
       have r7 := Rd.new (w := w6) (f := cf) (l := [4616752568008179712, 0, 4611686018427387904]) (m := []) (T := 33) (b := w6.heap.size) (n := 3) (c := 3) rfl rfl
       rw [kv] at r7
       have H15 := Lib.hid (rows_calls v6 (.slice (some ⟨w6.heap.size, 0, none⟩) 3 3) [4616752568008179712, 0, 4611686018427387904] _ (x7.rd h1.rd) r7 (by decide))
       have E7 := Lib.hid ((E5.out.trans h2).trans x7)
       have M7 := Lib.hid ((M5.out.ext h2).ext x7)
       clear h1 h2 x7 r7)
    | (go_at_call 15; refine H15.out.mono ?_; clear H15; rintro e w8 ⟨rfl, n8, h8⟩
       have x8 := (Ext.refl (w6.alloc (.cells #[.float .f64 4616752568008179712, .float .f64 0, .float .f64 4611686018427387904] 33))).drewN n8
       rw [h8] at x8
       have E8 := Lib.hid (E7.out.trans x8)
       have M8 := Lib.hid (M7.out.ext x8)
       have H27 := Lib.hid (sum_calls g lb kd w8 M8.out)
       rw [kmS] at H27
       clear h8 x8)
    | (go_at_call 27; refine H27.out.mono ?_; clear H27; rintro e w9 ⟨rfl, h9⟩
       have E9 := Lib.hid (E8.out.trans h9)
       have H29 := Lib.hid (top_calls g lb kd w9 (M8.out.ext h9))
       rw [kmT] at H29
       clear h9)
    | (go_at_call 29; refine H29.out.mono ?_; clear H29; rintro e w10 ⟨rfl, h10⟩
       have E10 := Lib.hid (E9.out.trans h10)
       clear h10)
    | fail)
  go_ret
  exact ⟨rfl, E10.out⟩
end Go.Proofs.Ytjgdeijodjihlaa
