/- intsApart: two rows of numbers share no memory. Printed by apart.py. -/
import Derived.Test.YtkpjnikmcojdlaaTwo
import Derived.Test.YtkpjnikmcojdlaaB25w
import Derived.Test.YtkpjnikmcojdlaaB25g
namespace Go.Proofs.Ytkpjnikmcojdlaa
open Go.RowKit Ieee
set_option linter.unusedVariables false

set_option maxHeartbeats 4000000 in
set_option maxRecDepth 100000 in
theorem intsApart_calls (a b : Value) (na nb : Nat) (xa xb : List Value) (W : World) (ha : Rw W 3 1 a na xa) (hb : Rw W 3 1 b nb xb) (hab : Aprt a b) (hna : na ≤ 64) (hnb : nb ≤ 64) :
    Calls Try.prog 31 #[a, b] W fun e w' => e = .returned (.bool true) ∧ Bar W w' a b := by
  obtain ⟨i3, j1, j2, j3, j4⟩ := info_parts Try.info3
  have hz : i3.zero = some (ci 0) := j2
  obtain ⟨qa, ca, rfl, hca, hma, -⟩ := ha.form
  obtain ⟨qb, cb, rfl, hcb, hmb, -⟩ := hb.form
  have T0 := Lib.hid (Two.start ha hb hab)
  have hca' : (na : Int) ≤ ca := by omega
  have hcb' : (nb : Int) ≤ cb := by omega
  have hma' : (ca : Int) ≤ 9223372036854775807 := by simp only [maxLen] at hma; omega
  have hmb' : (cb : Int) ≤ 9223372036854775807 := by simp only [maxLen] at hmb; omega
  have hna' : (na : Int) ≤ 64 := by omega
  have hnb' : (nb : Int) ≤ 64 := by omega
  have XA : xa.length = na := by rw [ha.1, Nat.mul_one]
  have XB : xb.length = nb := by rw [hb.1, Nat.mul_one]
  have XA := Lib.hid XA
  have XB := Lib.hid XB
  clear ha hb hab hma hmb
  go_enter Try.func31, Try.ntmps31
  go_wp2_with fail
  go_loopw [5] (fun iv wr => ∃ (k : Nat) (ya : List Value), k ≤ na ∧ iv = .int .i64 k ∧ Hid (Two W wr 3 1 (.slice qa na ca) (.slice qb nb cb) (.slice qa na ca) (.slice qb nb cb) na nb na nb ya xb ya xb ∧ ya.length = na ∧ ∀ q, q < k → ya[q]? = some (ci (100 + (q : Int))))) (fun iv _ => (na - (intOf iv).toNat))
  case atStart => exact ⟨0, xa, by omega, rfl, T0.out, XA.out, fun q hq => by omega⟩
  case round =>
    clear T0
    obtain ⟨k, ya, hk, rfl, hT⟩ := hrel
    by_cases hlt : k < na
    · have hlt' : (k : Int) < na := by omega
      obtain ⟨g, u0, rfl, hc, hfz⟩ := hT.out.1.fa.has1 k hlt
      have hw1 : IntKind.i64.wrap (100 + (k : Int)) = 100 + (k : Int) := wrapi (by omega)
      skip
      have HS := Lib.hid (hT.out.1.put rfl (grown_set wr g k (ci (100 + (k : Int)))) (hT.out.1.fa.set1 k hlt (ci (100 + (k : Int)))))
      have HF : Hid (∀ q, q < k + 1 → (ya.set k (ci (100 + (k : Int))))[q]? = some (ci (100 + (q : Int)))) := fill1 (F := fun q => ci (100 + (q : Int))) hT.out.2.2 (by rw [hT.out.2.1]; exact hlt)
      have HL : Hid ((ya.set k (ci (100 + (k : Int)))).length = na) := by show _ = _; rw [List.length_set]; exact hT.out.2.1
      clear hT
      go_wp2_with fail
      go_roundw
      case measure => simp only [intOf]; omega
      case rel => exact ⟨k + 1, _, by omega, by go_num, HS.out, HL.out, HF.out⟩
    · obtain rfl : na = k := by omega
      have T1 := Lib.hid hT.out
      clear hT hk hlt XA
      go_wp2_with fail
      go_loopw [6] (fun iv wr => ∃ (j : Nat) (yb : List Value), j ≤ nb ∧ iv = .int .i64 j ∧ Hid (Two W wr 3 1 (.slice qa na ca) (.slice qb nb cb) (.slice qa na ca) (.slice qb nb cb) na nb na nb ya yb ya yb ∧ yb.length = nb ∧ ∀ q, q < j → yb[q]? = some (ci (200 + (q : Int))))) (fun iv _ => (nb - (intOf iv).toNat))
      case atStart => exact ⟨0, xb, by omega, rfl, T1.out.1, XB.out, fun q hq => by omega⟩
      case round =>
        obtain ⟨j, yb, hj, rfl, hT⟩ := hrel
        by_cases hlt : j < nb
        · have hlt' : (j : Int) < nb := by omega
          obtain ⟨g, u0, rfl, hc, hfz⟩ := hT.out.1.fb.has1 j hlt
          have hw1 : IntKind.i64.wrap (200 + (j : Int)) = 200 + (j : Int) := wrapi (by omega)
          skip
          have HS := Lib.hid (hT.out.1.swap.put rfl (grown_set wr g j (ci (200 + (j : Int)))) (hT.out.1.fb.set1 j hlt (ci (200 + (j : Int))))).swap
          have HF : Hid (∀ q, q < j + 1 → (yb.set j (ci (200 + (j : Int))))[q]? = some (ci (200 + (q : Int)))) := fill1 (F := fun q => ci (200 + (q : Int))) hT.out.2.2 (by rw [hT.out.2.1]; exact hlt)
          have HL : Hid ((yb.set j (ci (200 + (j : Int)))).length = nb) := by show _ = _; rw [List.length_set]; exact hT.out.2.1
          clear hT
          go_wp2_with fail
          go_roundw
          case measure => simp only [intOf]; omega
          case rel => exact ⟨j + 1, _, by omega, by go_num, HS.out, HL.out, HF.out⟩
        · obtain rfl : nb = j := by omega
          have T2 := Lib.hid (And.intro hT.out.1 (And.intro T1.out.2 hT.out.2))
          clear hT hj hlt XB T1
          go_wp2_with fail
          go_loopw [7, 9] (fun cv kv wr => ∃ (q : Nat) (tc : List Value) (c0 : Value), q ≤ 80 ∧ kv = .int .i64 q ∧ c0 = cv ∧ Hid (Two W wr 3 1 (.slice qa na ca) (.slice qb nb cb) c0 (.slice qb nb cb) na nb (na + q) nb ya yb (ya ++ tc) yb ∧ tc.length = q ∧ ∀ x, x < q → tc[x]? = some (ci (300 + (x : Int))))) (fun _ kv _ => (80 - (intOf kv).toNat))
          case atStart => exact ⟨0, [], _, by omega, rfl, rfl, by rw [List.append_nil]; exact T2.out.1, rfl, fun x hx => by omega⟩
          case round =>
            obtain ⟨q, tc, c0, hq, rfl, rfl, hT⟩ := hrel
            by_cases hlt : q < 80
            · have hlt' : (q : Int) < 80 := by omega
              have hw1 : IntKind.i64.wrap (300 + (q : Int)) = 300 + (q : Int) := wrapi (by omega)
              skip
              have T3 := Lib.hid (hT.out.1.ext (Ext.of_alloc (w := wr) (.cells #[ci (300 + (q : Int))] 3)))
              have X3 : Hid (∀ x u, [ci (300 + (q : Int))][x]? = some u → (wr.alloc (.cells #[ci (300 + (q : Int))] 3)).cell? ((⟨wr.heap.size, 0, none⟩ : Addr).add x) = some u) := cell_one_new _ _ _
              have BX : Hid ((na + q + 1) * 8 ≤ 140737488355328) := by show _ ≤ _; omega
              have MX : Hid (na + q + 1 ≤ 9223372036854775807) := by show _ ≤ _; omega
              have HO : Hid (∀ u ∈ [ci (300 + (q : Int))], u.oneCell' = true) := fun u hu => by simp at hu; subst hu; rfl
              have HF : Hid (∀ x, x < q + 1 → (tc ++ [ci (300 + (q : Int))])[x]? = some (ci (300 + (x : Int)))) := more1 (F := fun q => ci (300 + (q : Int))) hT.out.2.1 hT.out.2.2
              have HL : Hid ((tc ++ [ci (300 + (q : Int))]).length = q + 1) := by show _ = _; rw [List.length_append, hT.out.2.1]; rfl
              clear hT T2
              go_wp2_with (first
                | (at_builtin; refine wpList_append_row rfl (.tmp 43) (.tmp 46) 22 rfl 3 i3 (ci 0) 1 8 Try.u22 j1 hz j3 j4 rfl (by decide) _ (na + q) (ya ++ tc) rfl T3.out.fc wr.heap.size 1 [ci (300 + (q : Int))] rfl rfl X3.out HO.out BX.out MX.out ?_
                   intro v' w' p1 p2 p3 p4
                   have T4 := Lib.hid (T3.out.app p1 p2 p3 p4)
                   clear p1 p2 p3 p4 T3 X3 BX MX HO)
                | fail)
              go_roundw
              case measure => simp only [intOf]; omega
              case rel => exact ⟨q + 1, tc ++ [ci (300 + (q : Int))], _, by omega, by go_num, rfl, by rw [← List.append_assoc]; exact T4.out, HL.out, HF.out⟩
            · obtain rfl : q = 80 := by omega
              rw [show ((80 : Nat) : Int) = 80 from rfl]
              have T3 := Lib.hid (And.intro hT.out.1 (And.intro T2.out.2 hT.out.2))
              clear hT hq hlt T2
              go_wp2_with fail
              go_loopw [8, 10] (fun dv kv wr => ∃ (q : Nat) (td : List Value) (d0 : Value), q ≤ 80 ∧ kv = .int .i64 q ∧ d0 = dv ∧ Hid (Two W wr 3 1 (.slice qa na ca) (.slice qb nb cb) c0 d0 na nb (na + 80) (nb + q) ya yb (ya ++ tc) (yb ++ td) ∧ td.length = q ∧ ∀ x, x < q → td[x]? = some (ci (400 + (x : Int))))) (fun _ kv _ => (80 - (intOf kv).toNat))
              case atStart => exact ⟨0, [], _, by omega, rfl, rfl, by rw [List.append_nil]; exact T3.out.1, rfl, fun x hx => by omega⟩
              case round =>
                obtain ⟨q, td, d0, hq, rfl, rfl, hT⟩ := hrel
                by_cases hlt : q < 80
                · have hlt' : (q : Int) < 80 := by omega
                  have hw1 : IntKind.i64.wrap (400 + (q : Int)) = 400 + (q : Int) := wrapi (by omega)
                  skip
                  have T4 := Lib.hid (hT.out.1.ext (Ext.of_alloc (w := wr) (.cells #[ci (400 + (q : Int))] 3)))
                  have X3 : Hid (∀ x u, [ci (400 + (q : Int))][x]? = some u → (wr.alloc (.cells #[ci (400 + (q : Int))] 3)).cell? ((⟨wr.heap.size, 0, none⟩ : Addr).add x) = some u) := cell_one_new _ _ _
                  have BX : Hid ((nb + q + 1) * 8 ≤ 140737488355328) := by show _ ≤ _; omega
                  have MX : Hid (nb + q + 1 ≤ 9223372036854775807) := by show _ ≤ _; omega
                  have HO : Hid (∀ u ∈ [ci (400 + (q : Int))], u.oneCell' = true) := fun u hu => by simp at hu; subst hu; rfl
                  have HF : Hid (∀ x, x < q + 1 → (td ++ [ci (400 + (q : Int))])[x]? = some (ci (400 + (x : Int)))) := more1 (F := fun q => ci (400 + (q : Int))) hT.out.2.1 hT.out.2.2
                  have HL : Hid ((td ++ [ci (400 + (q : Int))]).length = q + 1) := by show _ = _; rw [List.length_append, hT.out.2.1]; rfl
                  clear hT T3
                  go_wp2_with (first
                    | (at_builtin; refine wpList_append_row rfl (.tmp 52) (.tmp 55) 22 rfl 3 i3 (ci 0) 1 8 Try.u22 j1 hz j3 j4 rfl (by decide) _ (nb + q) (yb ++ td) rfl T4.out.fd wr.heap.size 1 [ci (400 + (q : Int))] rfl rfl X3.out HO.out BX.out MX.out ?_
                       intro v' w' p1 p2 p3 p4
                       have T5 := Lib.hid (T4.out.swap.app p1 p2 p3 p4).swap
                       clear p1 p2 p3 p4 T4 X3 BX MX HO)
                    | fail)
                  go_roundw
                  case measure => simp only [intOf]; omega
                  case rel => exact ⟨q + 1, td ++ [ci (400 + (q : Int))], _, by omega, by go_num, rfl, by rw [← List.append_assoc]; exact T5.out, HL.out, HF.out⟩
                · obtain rfl : q = 80 := by omega
                  rw [show ((80 : Nat) : Int) = 80 from rfl]
                  have BR := Lib.hid hT.out.1.bar
                  have FA : Hid (∀ x, x < na → ∃ g, qa = some ⟨g, 0, none⟩ ∧ wr.cell? ⟨g, x, none⟩ = some (ci (100 + (x : Int)))) := fun x hx => by
                    obtain ⟨g, h1, h2, _⟩ := hT.out.1.fa.at1 x hx (T3.out.2.1.1.2 x hx)
                    exact ⟨g, h1, h2⟩
                  have FB : Hid (∀ x, x < nb → ∃ g, qb = some ⟨g, 0, none⟩ ∧ wr.cell? ⟨g, x, none⟩ = some (ci (200 + (x : Int)))) := fun x hx => by
                    obtain ⟨g, h1, h2, _⟩ := hT.out.1.fb.at1 x hx (T3.out.2.1.2.2 x hx)
                    exact ⟨g, h1, h2⟩
                  have LA := Lib.hid T3.out.2.1.1.1
                  have LB := Lib.hid T3.out.2.1.2.1
                  obtain ⟨qc, cc, e1, hcc, hmc, -⟩ := hT.out.1.fc.form
                  obtain ⟨qd, cd, e2, hcd, hmd, -⟩ := hT.out.1.fd.form
                  have TC := hT.out.1.fc
                  have TD := hT.out.1.fd
                  rw [e1] at TC
                  rw [e2] at TD
                  have FC : Hid (∀ x, x < 80 → ∃ g, qc = some ⟨g, 0, none⟩ ∧ wr.cell? ⟨g, na + x, none⟩ = some (ci (300 + (x : Int)))) := fun x hx => by
                    obtain ⟨g, h1, h2, _⟩ := TC.at1 (na + x) (by omega) (right1 (F := fun q => ci (300 + (q : Int))) LA.out T3.out.2.2.2 x hx)
                    exact ⟨g, h1, h2⟩
                  have FD : Hid (∀ x, x < 80 → ∃ g, qd = some ⟨g, 0, none⟩ ∧ wr.cell? ⟨g, nb + x, none⟩ = some (ci (400 + (x : Int)))) := fun x hx => by
                    obtain ⟨g, h1, h2, _⟩ := TD.at1 (nb + x) (by omega) (right1 (F := fun q => ci (400 + (q : Int))) LB.out hT.out.2.2 x hx)
                    exact ⟨g, h1, h2⟩
                  rw [e1, e2]
                  have hcc' : (na : Int) + 80 ≤ cc := by omega
                  have hcd' : (nb : Int) + 80 ≤ cd := by omega
                  have hmc' : (cc : Int) ≤ 9223372036854775807 := by simp only [maxLen] at hmc; omega
                  have hmd' : (cd : Int) ≤ 9223372036854775807 := by simp only [maxLen] at hmd; omega
                  clear hT hq hlt T3 LA LB TC TD e1 e2 hmc hmd
                  go_wp2_with fail
                  go_loopw [11, 12] (fun ov iv wx => ∃ (x n : Nat), x ≤ na ∧ ov = .bool true ∧ iv = .int .i64 x ∧ wx = wr.drewN n) (fun _ iv _ => (na - (intOf iv).toNat))
                  case atStart => exact ⟨0, 0, by omega, rfl, rfl, rfl⟩
                  case round =>
                    obtain ⟨x, n, hx, rfl, rfl, rfl⟩ := hrel
                    by_cases hlt : x < na
                    · have hlt' : (x : Int) < na := by omega
                      obtain ⟨g, rfl, hc⟩ := FA.out x hlt
                      have hw1 : IntKind.i64.wrap (100 + (x : Int)) = 100 + (x : Int) := wrapi (by omega)
                      skip
                      skip
                      go_wp2_with fail
                      go_roundw
                      case measure => simp only [intOf]; omega
                      case rel => exact ⟨x + 1, _, by omega, rfl, by go_num, rfl⟩
                    · obtain rfl : na = x := by omega
                      clear hx hlt
                      go_wp2_with fail
                      go_loopw [11, 13] (fun ov iv wx => ∃ (y m : Nat), y ≤ nb ∧ ov = .bool true ∧ iv = .int .i64 y ∧ wx = wr.drewN m) (fun _ iv _ => (nb - (intOf iv).toNat))
                      case atStart => exact ⟨0, n, by omega, rfl, rfl, rfl⟩
                      case round =>
                        obtain ⟨y, m, hy, rfl, rfl, rfl⟩ := hrel
                        by_cases hlt : y < nb
                        · have hlt' : (y : Int) < nb := by omega
                          obtain ⟨g, rfl, hc⟩ := FB.out y hlt
                          have hw1 : IntKind.i64.wrap (200 + (y : Int)) = 200 + (y : Int) := wrapi (by omega)
                          skip
                          skip
                          go_wp2_with fail
                          go_roundw
                          case measure => simp only [intOf]; omega
                          case rel => exact ⟨y + 1, _, by omega, rfl, by go_num, rfl⟩
                        · obtain rfl : nb = y := by omega
                          clear hy hlt
                          go_wp2_with fail
                          go_loopw [11, 14] (fun ov iv wx => ∃ (z m : Nat), z ≤ 80 ∧ ov = .bool true ∧ iv = .int .i64 z ∧ wx = wr.drewN m) (fun _ iv _ => (80 - (intOf iv).toNat))
                          case atStart => exact ⟨0, m, by omega, rfl, rfl, rfl⟩
                          case round =>
                            obtain ⟨z, m, hz', rfl, rfl, rfl⟩ := hrel
                            by_cases hlt : z < 80
                            · have hlt' : (z : Int) < 80 := by omega
                              obtain ⟨g, rfl, hc⟩ := FC.out z hlt
                              obtain ⟨g2, rfl, hc2⟩ := FD.out z hlt
                              have hw1 : IntKind.i64.wrap (300 + (z : Int)) = 300 + (z : Int) := wrapi (by omega)
                              have hw2 : IntKind.i64.wrap (400 + (z : Int)) = 400 + (z : Int) := wrapi (by omega)
                              have hw3 : IntKind.i64.wrap ((na : Int) + (z : Int)) = (na : Int) + (z : Int) := wrapi (by omega)
                              have hw4 : IntKind.i64.wrap ((nb : Int) + (z : Int)) = (nb : Int) + (z : Int) := wrapi (by omega)
                              skip
                              skip
                              skip
                              skip
                              go_wp2_with fail
                              go_roundw
                              case measure => simp only [intOf]; omega
                              case rel => exact ⟨z + 1, _, by omega, rfl, by go_num, rfl⟩
                            · obtain rfl : z = 80 := by omega
                              rw [show ((80 : Nat) : Int) = 80 from rfl]
                              go_wp2_with fail
                              go_ret
                              exact ⟨rfl, BR.out.drewN _⟩

end Go.Proofs.Ytkpjnikmcojdlaa
