/- movesApart: two rows of moves share no memory. Printed by apart.py. -/
import Derived.Test.YtkpjnikmcojdlaaTwo
import Derived.Test.YtkpjnikmcojdlaaB25wi
import Derived.Test.YtkpjnikmcojdlaaB25c
namespace Go.Proofs.Ytkpjnikmcojdlaa
open Go.RowKit Ieee
set_option linter.unusedVariables false

theorem Try.size29 : (Try.prog.info? 29).map (·.size) = some 3 := by kernel_rfl
theorem cells_new (w : World) (c : List Value) (T : TypeId) : ∀ (j : Nat) (u : Value), c[j]? = some u → (w.alloc (.cells c.toArray T)).cell? ((⟨w.heap.size, 0, none⟩ : Addr).add j) = some u := fun j u hj => by
  rw [Addr.add_mid, Nat.zero_add, (Blk.new w c.toArray T).cell]
  simpa using hj

set_option maxHeartbeats 4000000 in
set_option maxRecDepth 100000 in
theorem movesApart_calls (a b : Value) (na nb : Nat) (xa xb : List Value) (W : World) (ha : Rw W 29 3 a na xa) (hb : Rw W 29 3 b nb xb) (hab : Aprt a b) (hna : na ≤ 400) (hnb : nb ≤ 400) :
    Calls Try.prog 32 #[a, b] W fun e w' => e = .returned (.bool true) ∧ Bar W w' a b := by
  obtain ⟨i29, j1, j2, j3, j4⟩ := info_parts Try.info29
  have hz : i29.zero = some (.agg #[.int .i64 0, .int .i64 0, .int .i64 0]) := j2
  obtain ⟨qa, ca, rfl, hca, hma, -⟩ := ha.form
  obtain ⟨qb, cb, rfl, hcb, hmb, -⟩ := hb.form
  have T0 := Lib.hid (Two.start ha hb hab)
  have hca' : (na : Int) ≤ ca := by omega
  have hcb' : (nb : Int) ≤ cb := by omega
  have hma' : (ca : Int) ≤ 9223372036854775807 := by simp only [maxLen] at hma; omega
  have hmb' : (cb : Int) ≤ 9223372036854775807 := by simp only [maxLen] at hmb; omega
  have hna' : (na : Int) ≤ 400 := by omega
  have hnb' : (nb : Int) ≤ 400 := by omega
  have XA : xa.length = na * 3 := ha.1
  have XB : xb.length = nb * 3 := hb.1
  have XA := Lib.hid XA
  have XB := Lib.hid XB
  clear ha hb hab hma hmb
  go_enter Try.func32, Try.ntmps32
  go_wp2_with fail
  go_loopw [5] (fun iv wr => ∃ (k : Nat) (ya : List Value), k ≤ na ∧ iv = .int .i64 k ∧ Hid (Two W wr 29 3 (.slice qa na ca) (.slice qb nb cb) (.slice qa na ca) (.slice qb nb cb) na nb na nb ya xb ya xb ∧ ya.length = na * 3 ∧ ∀ q, q < k → ya[q * 3]? = some (ci (1000 + (q : Int))))) (fun iv _ => (na - (intOf iv).toNat))
  case atStart => exact ⟨0, xa, by omega, rfl, T0.out, XA.out, fun q hq => by omega⟩
  case round =>
    clear T0
    obtain ⟨k, ya, hk, rfl, hT⟩ := hrel
    by_cases hlt : k < na
    · have hlt' : (k : Int) < na := by omega
      obtain ⟨g, rfl⟩ := hT.out.1.fa.blkS k hlt
      have hw1 : IntKind.i64.wrap (1000 + (k : Int)) = 1000 + (k : Int) := wrapi (by omega)
      skip
      have R1 := Lib.hid hT.out.1
      have HO : Hid (∀ u ∈ [ci (1000 + (k : Int)), ci 0, ci 0], u.oneCell' = true) := fun u hu => by simp at hu; rcases hu with rfl | rfl | rfl <;> rfl
      have HF : Hid (∀ q, q < k + 1 → (ya.take (k * 3) ++ [ci (1000 + (k : Int)), ci 0, ci 0] ++ ya.drop (k * 3 + 3))[q * 3]? = some (ci (1000 + (q : Int)))) := fillS (F := fun q => ci (1000 + (q : Int))) (by decide) hT.out.2.2 rfl rfl (by rw [hT.out.2.1]; omega)
      have HL : Hid ((ya.take (k * 3) ++ [ci (1000 + (k : Int)), ci 0, ci 0] ++ ya.drop (k * 3 + 3)).length = na * 3) := lenS hT.out.2.1 rfl hlt
      clear hT
      go_wp2_with (first
        | (guard_target =~ wpList _ _ _ (Oper.mk _ (.store 29 _ _) _ _ _ _ :: _) _ _; refine wpList_store_elem rfl 29 3 Try.size29 (.tmp 26) (.tmp 25) rfl g _ k na ca ya [ci (1000 + (k : Int)), ci 0, ci 0] rfl (by first | rfl | omega) rfl rfl HO.out R1.out.fa hlt ?_
           intro w' p1 p2
           have HS := Lib.hid (R1.out.put rfl p2 p1)
           clear p1 p2 R1 HO)
        | fail)
      go_roundw
      case measure => simp only [intOf]; omega
      case rel => exact ⟨k + 1, _, by omega, by go_num, HS.out, HL.out, HF.out⟩
    · obtain rfl : na = k := by omega
      have T1 := Lib.hid hT.out
      clear hT hk hlt XA
      go_wp2_with fail
      go_loopw [6] (fun iv wr => ∃ (j : Nat) (yb : List Value), j ≤ nb ∧ iv = .int .i64 j ∧ Hid (Two W wr 29 3 (.slice qa na ca) (.slice qb nb cb) (.slice qa na ca) (.slice qb nb cb) na nb na nb ya yb ya yb ∧ yb.length = nb * 3 ∧ ∀ q, q < j → yb[q * 3]? = some (ci (2000 + (q : Int))))) (fun iv _ => (nb - (intOf iv).toNat))
      case atStart => exact ⟨0, xb, by omega, rfl, T1.out.1, XB.out, fun q hq => by omega⟩
      case round =>
        obtain ⟨j, yb, hj, rfl, hT⟩ := hrel
        by_cases hlt : j < nb
        · have hlt' : (j : Int) < nb := by omega
          obtain ⟨g, rfl⟩ := hT.out.1.fb.blkS j hlt
          have hw1 : IntKind.i64.wrap (2000 + (j : Int)) = 2000 + (j : Int) := wrapi (by omega)
          skip
          have R1 := Lib.hid hT.out.1
          have HO : Hid (∀ u ∈ [ci (2000 + (j : Int)), ci 0, ci 0], u.oneCell' = true) := fun u hu => by simp at hu; rcases hu with rfl | rfl | rfl <;> rfl
          have HF : Hid (∀ q, q < j + 1 → (yb.take (j * 3) ++ [ci (2000 + (j : Int)), ci 0, ci 0] ++ yb.drop (j * 3 + 3))[q * 3]? = some (ci (2000 + (q : Int)))) := fillS (F := fun q => ci (2000 + (q : Int))) (by decide) hT.out.2.2 rfl rfl (by rw [hT.out.2.1]; omega)
          have HL : Hid ((yb.take (j * 3) ++ [ci (2000 + (j : Int)), ci 0, ci 0] ++ yb.drop (j * 3 + 3)).length = nb * 3) := lenS hT.out.2.1 rfl hlt
          clear hT
          go_wp2_with (first
            | (guard_target =~ wpList _ _ _ (Oper.mk _ (.store 29 _ _) _ _ _ _ :: _) _ _; refine wpList_store_elem rfl 29 3 Try.size29 (.tmp 38) (.tmp 37) rfl g _ j nb cb yb [ci (2000 + (j : Int)), ci 0, ci 0] rfl (by first | rfl | omega) rfl rfl HO.out R1.out.fb hlt ?_
               intro w' p1 p2
               have HS := Lib.hid (R1.out.swap.put rfl p2 p1).swap
               clear p1 p2 R1 HO)
            | fail)
          go_roundw
          case measure => simp only [intOf]; omega
          case rel => exact ⟨j + 1, _, by omega, by go_num, HS.out, HL.out, HF.out⟩
        · obtain rfl : nb = j := by omega
          have T2 := Lib.hid (And.intro hT.out.1 (And.intro T1.out.2 hT.out.2))
          clear hT hj hlt XB T1
          go_wp2_with fail
          go_loopw [7, 9] (fun cv kv wr => ∃ (q : Nat) (tc : List Value) (c0 : Value), q ≤ 80 ∧ kv = .int .i64 q ∧ c0 = cv ∧ Hid (Two W wr 29 3 (.slice qa na ca) (.slice qb nb cb) c0 (.slice qb nb cb) na nb (na + q) nb ya yb (ya ++ tc) yb ∧ tc.length = q * 3 ∧ ∀ x, x < q → tc[x * 3]? = some (ci (3000 + (x : Int))))) (fun _ kv _ => (80 - (intOf kv).toNat))
          case atStart => exact ⟨0, [], _, by omega, rfl, rfl, by rw [List.append_nil]; exact T2.out.1, rfl, fun x hx => by omega⟩
          case round =>
            obtain ⟨q, tc, c0, hq, rfl, rfl, hT⟩ := hrel
            by_cases hlt : q < 80
            · have hlt' : (q : Int) < 80 := by omega
              have hw1 : IntKind.i64.wrap (3000 + (q : Int)) = 3000 + (q : Int) := wrapi (by omega)
              skip
              have T3 := Lib.hid (hT.out.1.ext (Ext.of_alloc (w := wr) (.cells #[ci (3000 + (q : Int)), ci 0, ci 0] 29)))
              have X3 : Hid (∀ x u, [ci (3000 + (q : Int)), ci 0, ci 0][x]? = some u → (wr.alloc (.cells #[ci (3000 + (q : Int)), ci 0, ci 0] 29)).cell? ((⟨wr.heap.size, 0, none⟩ : Addr).add x) = some u) := cells_new _ _ _
              have BX : Hid ((na + q + 1) * 24 ≤ 140737488355328) := by show _ ≤ _; omega
              have MX : Hid (na + q + 1 ≤ 9223372036854775807) := by show _ ≤ _; omega
              have HO : Hid (∀ u ∈ [ci (3000 + (q : Int)), ci 0, ci 0], u.oneCell' = true) := fun u hu => by simp at hu; rcases hu with rfl | rfl | rfl <;> rfl
              have HF : Hid (∀ x, x < q + 1 → (tc ++ [ci (3000 + (q : Int)), ci 0, ci 0])[x * 3]? = some (ci (3000 + (x : Int)))) := moreS (F := fun q => ci (3000 + (q : Int))) (by decide) hT.out.2.1 rfl rfl hT.out.2.2
              have HL : Hid ((tc ++ [ci (3000 + (q : Int)), ci 0, ci 0]).length = (q + 1) * 3) := by show _ = _; rw [List.length_append, hT.out.2.1, Nat.add_mul]; rfl
              clear hT T2
              go_wp2_with (first
                | (at_builtin; refine wpList_append_row rfl (.tmp 45) (.tmp 49) 23 rfl 29 i29 (.agg #[.int .i64 0, .int .i64 0, .int .i64 0]) 3 24 Try.u23 j1 hz j3 j4 rfl (by decide) _ (na + q) (ya ++ tc) rfl T3.out.fc wr.heap.size 1 [ci (3000 + (q : Int)), ci 0, ci 0] rfl rfl X3.out HO.out BX.out MX.out ?_
                   intro v' w' p1 p2 p3 p4
                   have T4 := Lib.hid (T3.out.app p1 p2 p3 p4)
                   clear p1 p2 p3 p4 T3 X3 BX MX HO)
                | fail)
              go_roundw
              case measure => simp only [intOf]; omega
              case rel => exact ⟨q + 1, tc ++ [ci (3000 + (q : Int)), ci 0, ci 0], _, by omega, by go_num, rfl, by rw [← List.append_assoc]; exact T4.out, HL.out, HF.out⟩
            · obtain rfl : q = 80 := by omega
              rw [show ((80 : Nat) : Int) = 80 from rfl]
              have T3 := Lib.hid (And.intro hT.out.1 (And.intro T2.out.2 hT.out.2))
              clear hT hq hlt T2
              go_wp2_with fail
              go_loopw [8, 10] (fun dv kv wr => ∃ (q : Nat) (td : List Value) (d0 : Value), q ≤ 80 ∧ kv = .int .i64 q ∧ d0 = dv ∧ Hid (Two W wr 29 3 (.slice qa na ca) (.slice qb nb cb) c0 d0 na nb (na + 80) (nb + q) ya yb (ya ++ tc) (yb ++ td) ∧ td.length = q * 3 ∧ ∀ x, x < q → td[x * 3]? = some (ci (4000 + (x : Int))))) (fun _ kv _ => (80 - (intOf kv).toNat))
              case atStart => exact ⟨0, [], _, by omega, rfl, rfl, by rw [List.append_nil]; exact T3.out.1, rfl, fun x hx => by omega⟩
              case round =>
                obtain ⟨q, td, d0, hq, rfl, rfl, hT⟩ := hrel
                by_cases hlt : q < 80
                · have hlt' : (q : Int) < 80 := by omega
                  have hw1 : IntKind.i64.wrap (4000 + (q : Int)) = 4000 + (q : Int) := wrapi (by omega)
                  skip
                  have T4 := Lib.hid (hT.out.1.ext (Ext.of_alloc (w := wr) (.cells #[ci (4000 + (q : Int)), ci 0, ci 0] 29)))
                  have X3 : Hid (∀ x u, [ci (4000 + (q : Int)), ci 0, ci 0][x]? = some u → (wr.alloc (.cells #[ci (4000 + (q : Int)), ci 0, ci 0] 29)).cell? ((⟨wr.heap.size, 0, none⟩ : Addr).add x) = some u) := cells_new _ _ _
                  have BX : Hid ((nb + q + 1) * 24 ≤ 140737488355328) := by show _ ≤ _; omega
                  have MX : Hid (nb + q + 1 ≤ 9223372036854775807) := by show _ ≤ _; omega
                  have HO : Hid (∀ u ∈ [ci (4000 + (q : Int)), ci 0, ci 0], u.oneCell' = true) := fun u hu => by simp at hu; rcases hu with rfl | rfl | rfl <;> rfl
                  have HF : Hid (∀ x, x < q + 1 → (td ++ [ci (4000 + (q : Int)), ci 0, ci 0])[x * 3]? = some (ci (4000 + (x : Int)))) := moreS (F := fun q => ci (4000 + (q : Int))) (by decide) hT.out.2.1 rfl rfl hT.out.2.2
                  have HL : Hid ((td ++ [ci (4000 + (q : Int)), ci 0, ci 0]).length = (q + 1) * 3) := by show _ = _; rw [List.length_append, hT.out.2.1, Nat.add_mul]; rfl
                  clear hT T3
                  go_wp2_with (first
                    | (at_builtin; refine wpList_append_row rfl (.tmp 55) (.tmp 59) 23 rfl 29 i29 (.agg #[.int .i64 0, .int .i64 0, .int .i64 0]) 3 24 Try.u23 j1 hz j3 j4 rfl (by decide) _ (nb + q) (yb ++ td) rfl T4.out.fd wr.heap.size 1 [ci (4000 + (q : Int)), ci 0, ci 0] rfl rfl X3.out HO.out BX.out MX.out ?_
                       intro v' w' p1 p2 p3 p4
                       have T5 := Lib.hid (T4.out.swap.app p1 p2 p3 p4).swap
                       clear p1 p2 p3 p4 T4 X3 BX MX HO)
                    | fail)
                  go_roundw
                  case measure => simp only [intOf]; omega
                  case rel => exact ⟨q + 1, td ++ [ci (4000 + (q : Int)), ci 0, ci 0], _, by omega, by go_num, rfl, by rw [← List.append_assoc]; exact T5.out, HL.out, HF.out⟩
                · obtain rfl : q = 80 := by omega
                  rw [show ((80 : Nat) : Int) = 80 from rfl]
                  have BR := Lib.hid hT.out.1.bar
                  have FA : Hid (∀ x, x < na → ∃ g, qa = some ⟨g, 0, none⟩ ∧ wr.cell? ⟨g, x * 3, none⟩ = some (ci (1000 + (x : Int)))) := fun x hx => by
                    obtain ⟨g, h1, h2⟩ := hT.out.1.fa.atS x hx (x * 3) (T3.out.2.1.1.2 x hx)
                    exact ⟨g, h1, h2⟩
                  have FB : Hid (∀ x, x < nb → ∃ g, qb = some ⟨g, 0, none⟩ ∧ wr.cell? ⟨g, x * 3, none⟩ = some (ci (2000 + (x : Int)))) := fun x hx => by
                    obtain ⟨g, h1, h2⟩ := hT.out.1.fb.atS x hx (x * 3) (T3.out.2.1.2.2 x hx)
                    exact ⟨g, h1, h2⟩
                  have LA := Lib.hid T3.out.2.1.1.1
                  have LB := Lib.hid T3.out.2.1.2.1
                  obtain ⟨qc, cc, e1, hcc, hmc, -⟩ := hT.out.1.fc.form
                  obtain ⟨qd, cd, e2, hcd, hmd, -⟩ := hT.out.1.fd.form
                  have TC := hT.out.1.fc
                  have TD := hT.out.1.fd
                  rw [e1] at TC
                  rw [e2] at TD
                  have FC : Hid (∀ x, x < 80 → ∃ g, qc = some ⟨g, 0, none⟩ ∧ wr.cell? ⟨g, (na + x) * 3, none⟩ = some (ci (3000 + (x : Int)))) := fun x hx => by
                    obtain ⟨g, h1, h2⟩ := TC.atS (na + x) (by omega) ((na + x) * 3) (rightS (F := fun q => ci (3000 + (q : Int))) LA.out T3.out.2.2.2 x hx)
                    exact ⟨g, h1, h2⟩
                  have FD : Hid (∀ x, x < 80 → ∃ g, qd = some ⟨g, 0, none⟩ ∧ wr.cell? ⟨g, (nb + x) * 3, none⟩ = some (ci (4000 + (x : Int)))) := fun x hx => by
                    obtain ⟨g, h1, h2⟩ := TD.atS (nb + x) (by omega) ((nb + x) * 3) (rightS (F := fun q => ci (4000 + (q : Int))) LB.out hT.out.2.2 x hx)
                    exact ⟨g, h1, h2⟩
                  rw [e1, e2]
                  have hcc' : (na : Int) + 80 ≤ cc := by omega
                  have hcd' : (nb : Int) + 80 ≤ cd := by omega
                  have hmc' : (cc : Int) ≤ 9223372036854775807 := by simp only [maxLen] at hmc; omega
                  have hmd' : (cd : Int) ≤ 9223372036854775807 := by simp only [maxLen] at hmd; omega
                  clear hT hq hlt T3 LA LB TC TD e1 e2 hmc hmd
                  go_wp2_with fail
                  go_loopw [11, 12] (fun ov iv wx => ∃ (x n : Nat), x ≤ na ∧ ov = .bool true ∧ iv = .int .i64 x ∧ wx = wr.drewN n) (fun _ iv _ => (na - (intOf iv).toNat))
                  case atStart => exact ⟨0, 0, by omega, rfl, rfl, rfl⟩
                  case round =>
                    obtain ⟨x, n, hx, rfl, rfl, rfl⟩ := hrel
                    by_cases hlt : x < na
                    · have hlt' : (x : Int) < na := by omega
                      obtain ⟨g, rfl, hc⟩ := FA.out x hlt
                      have hw1 : IntKind.i64.wrap (1000 + (x : Int)) = 1000 + (x : Int) := wrapi (by omega)
                      skip
                      skip
                      go_wp2_with fail
                      go_roundw
                      case measure => simp only [intOf]; omega
                      case rel => exact ⟨x + 1, _, by omega, rfl, by go_num, rfl⟩
                    · obtain rfl : na = x := by omega
                      clear hx hlt
                      go_wp2_with fail
                      go_loopw [11, 13] (fun ov iv wx => ∃ (y m : Nat), y ≤ nb ∧ ov = .bool true ∧ iv = .int .i64 y ∧ wx = wr.drewN m) (fun _ iv _ => (nb - (intOf iv).toNat))
                      case atStart => exact ⟨0, n, by omega, rfl, rfl, rfl⟩
                      case round =>
                        obtain ⟨y, m, hy, rfl, rfl, rfl⟩ := hrel
                        by_cases hlt : y < nb
                        · have hlt' : (y : Int) < nb := by omega
                          obtain ⟨g, rfl, hc⟩ := FB.out y hlt
                          have hw1 : IntKind.i64.wrap (2000 + (y : Int)) = 2000 + (y : Int) := wrapi (by omega)
                          skip
                          skip
                          go_wp2_with fail
                          go_roundw
                          case measure => simp only [intOf]; omega
                          case rel => exact ⟨y + 1, _, by omega, rfl, by go_num, rfl⟩
                        · obtain rfl : nb = y := by omega
                          clear hy hlt
                          go_wp2_with fail
                          go_loopw [11, 14] (fun ov iv wx => ∃ (z m : Nat), z ≤ 80 ∧ ov = .bool true ∧ iv = .int .i64 z ∧ wx = wr.drewN m) (fun _ iv _ => (80 - (intOf iv).toNat))
                          case atStart => exact ⟨0, m, by omega, rfl, rfl, rfl⟩
                          case round =>
                            obtain ⟨z, m, hz', rfl, rfl, rfl⟩ := hrel
                            by_cases hlt : z < 80
                            · have hlt' : (z : Int) < 80 := by omega
                              obtain ⟨g, rfl, hc⟩ := FC.out z hlt
                              obtain ⟨g2, rfl, hc2⟩ := FD.out z hlt
                              have hw1 : IntKind.i64.wrap (3000 + (z : Int)) = 3000 + (z : Int) := wrapi (by omega)
                              have hw2 : IntKind.i64.wrap (4000 + (z : Int)) = 4000 + (z : Int) := wrapi (by omega)
                              have hw3 : IntKind.i64.wrap ((na : Int) + (z : Int)) = (na : Int) + (z : Int) := wrapi (by omega)
                              have hw4 : IntKind.i64.wrap ((nb : Int) + (z : Int)) = (nb : Int) + (z : Int) := wrapi (by omega)
                              skip
                              skip
                              skip
                              skip
                              go_wp2_with fail
                              go_roundw
                              case measure => simp only [intOf]; omega
                              case rel => exact ⟨z + 1, _, by omega, rfl, by go_num, rfl⟩
                            · obtain rfl : z = 80 := by omega
                              rw [show ((80 : Nat) : Int) = 80 from rfl]
                              go_wp2_with fail
                              go_ret
                              exact ⟨rfl, BR.out.drewN _⟩

end Go.Proofs.Ytkpjnikmcojdlaa
