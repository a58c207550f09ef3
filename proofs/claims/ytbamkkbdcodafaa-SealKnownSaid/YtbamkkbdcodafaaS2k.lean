/- The walks of layer 2 (seal): matrices over bits. -/
import Derived.Test.YtbamkkbdcodafaaP2d
import Derived.Test.YtbamkkbdcodafaaEqa
import Derived.Test.YtbamkkbdcodafaaS2h
namespace Go.Proofs.Ytbamkkbdcodafaa
open Go.RowKit
set_option linter.unusedVariables false

theorem of_calls (g : Nat) (ms : List (BitVec 32)) (hms : ms.length = 32) (v : BitVec 32) (w : World) (hb : Blk w g (V c32 ms) 66) : Calls Try.prog 44 #[.pointer (some ⟨g, 0, none⟩), c32 v] w fun e w' => e = .returned (c32 (mofK ms v 32)) ∧ ∃ n, w.drewN n = w' := by
  have HC : Hid (∀ n k, k < 32 → (w.drewN n).cell? ⟨g, k, none⟩ = some (c32 (ms.getD k 0#32))) := fun n k hk => by
    have h := hb.cell k
    rw [V_at _ _ _ 0#32 (by omega)] at h
    exact h
  obtain ⟨r, hr⟩ : ∃ r, mofK ms v 32 = r := ⟨_, rfl⟩
  have HR := Lib.hid hr
  rw [hr]
  have H0 := Lib.hid (show Value.int .u32 0 = c32 (mofK ms v 0) by rw [mofK_zero]; rfl)
  clear hr hb hms
  go_enter Try.func44, Try.ntmps44
  go_wp2_with fail
  go_loopw [5, 9] (fun o i wr => ∃ (k n : Nat), k ≤ 32 ∧ i = .int .i64 k ∧ o = c32 (mofK ms v k) ∧ wr = w.drewN n) (fun _ i _ => (32 - intOf i).toNat)
  case atStart => exact ⟨0, 0, by omega, rfl, H0.out, rfl⟩
  case round =>
    clear H0
    obtain ⟨k, n, hk, rfl, rfl, rfl⟩ := hrel
    by_cases hlt : k < 32
    · have hc := HC.out n k hlt
      have hc0 : w.cell? ⟨g, k, none⟩ = some (c32 (ms.getD k 0#32)) := hc
      clear hc
      have hs := Lib.hid (mofK_succ ms v k)
      generalize ms.getD k 0#32 = y at *
      generalize mofK ms v k = o at *
      go_wp2_with fail
      go_region
      go_wp2_with fail
      go_roundw
      case measure => simp only [intOf]; omega
      case rel => exact ⟨k + 1, _, by omega, by go_num, by rw [hs.out], rfl⟩
    · obtain rfl : k = 32 := by omega
      have hr := HR.out
      rw [hr]
      go_wp2_with fail
      go_ret
      exact ⟨rfl, n, rfl⟩
theorem Try.size66 : (Try.prog.info? 66).map (·.size) = some 32 := by kernel_rfl
theorem zero32 : (#[.int .u32 0, .int .u32 0, .int .u32 0, .int .u32 0, .int .u32 0, .int .u32 0, .int .u32 0, .int .u32 0, .int .u32 0, .int .u32 0, .int .u32 0, .int .u32 0, .int .u32 0, .int .u32 0, .int .u32 0, .int .u32 0, .int .u32 0, .int .u32 0, .int .u32 0, .int .u32 0, .int .u32 0, .int .u32 0, .int .u32 0, .int .u32 0, .int .u32 0, .int .u32 0, .int .u32 0, .int .u32 0, .int .u32 0, .int .u32 0, .int .u32 0, .int .u32 0] : Array Value) = V c32 (List.replicate 32 0#32) := by
  unfold V; rfl
theorem unit_calls (w : World) : Calls Try.prog 43 #[] w fun e w' => e = .returned (.agg (V c32 (mat 0))) ∧ Ext w w' := by
  go_enter Try.func43, Try.ntmps43
  go_wp2_with fail
  rw [zero32, ← matK_zero 0]
  go_loopw [3] (fun i wr => ∃ (k : Nat), k ≤ 32 ∧ i = .int .i64 k ∧ wr = (w.alloc (.cells (V c32 (matK 0 0)) 66)).alloc (.cells (V c32 (matK 0 k)) 66)) (fun i _ => (32 - intOf i).toNat)
  case atStart => exact ⟨0, by omega, rfl, rfl⟩
  case round =>
    obtain ⟨k, hk, rfl, rfl⟩ := hrel
    by_cases hlt : k < 32
    · have hs := matK_set 0 k hlt
      rw [stpN_zero] at hs
      obtain ⟨u, hg⟩ : ∃ u, (V c32 (matK 0 k))[k]? = some u := ⟨_, V_at _ _ _ 0#32 (by rw [matK_len 0 k hk]; exact hlt)⟩
      go_wp2_with fail
      go_roundw
      case measure => simp only [intOf]; omega
      case rel => exact ⟨k + 1, by omega, by go_num, rfl⟩
    · obtain rfl : k = 32 := by omega
      have HZ := Lib.hid (show (Try.prog.info? 66).map (·.size) = some (V c32 (matK 0 32)).size by rw [Try.size66, V_size, matK_len _ _ (Nat.le_refl _)])
      have HS := Lib.hid (show (V c32 (matK 0 0)).size = (V c32 (matK 0 32)).size by rw [V_size, V_size, matK_len _ _ (by omega), matK_len _ _ (Nat.le_refl _)])
      go_upto_region 7 with (fail)
      refine wp_region_lit ?_
      refine wpList_load_row rfl 66 (.tmp 1) rfl (w.heap.size + 1) rfl 66 (V c32 (matK 0 32)) (0, 0) _ (heap_alloc2_new _ _ _) Try.underlying66 rfl HZ.out ?_
      refine wpList_store_row rfl 66 (.tmp 0) (.tmp 12) rfl w.heap.size (V c32 (matK 0 32)) (V c32 (matK 0 0)) 66 rfl rfl (heap_alloc2_old _ _ _) HZ.out HS.out (V_one _ (fun _ => rfl) _) ?_
      rw [setRow_alloc_two]
      go_wp2_with fail
      refine bodyPost_ret (results_cell_row rfl _ _ w.heap.size 66 (V c32 (matK 0 32)) (0, 0) _ rfl (heap_alloc2_old _ _ _) Try.underlying66 rfl HZ.out) rfl ?_
      exact ⟨by rw [matK_all], Ext.of_alloc2 _ _⟩
theorem Blk.setRow {w : World} {g : Nat} {c c' : Array Value} {t : TypeId} (h : Blk w g c t) : Blk (w.setRow g c') g c' t := setRow_heap w g c c' t (0, 0) h
theorem grown_setRow (w : World) (g : Nat) (c : Array Value) : w.grownBy (w.setRow g c) (some g) := ⟨rfl, rfl, rfl, by simp [World.setRow], fun k _ hk => setRow_other w g k _ (fun e => hk (by rw [e]))⟩
theorem V_zero1 : (#[.int .u8 0] : Array Value) = V cb [0#8] := by unfold V; rfl
theorem tkn_zero1 (v : BitVec 32) : tkn v [0#8] = stpN 8 v := by rw [tkn_cons, tkn_nil, tk1_eq]; simp
theorem Blk.w32 {w : World} {g : Nat} {l : List (BitVec 32)} {t : TypeId} (h : Blk w g (V c32 l) t) (k : Nat) (hk : k < l.length) (x : BitVec 32) : Blk (w.setCell ⟨g, k, none⟩ (c32 x)) g (V c32 (l.set k x)) t := by
  have := h.set k (c32 x)
  rwa [V_set] at this
theorem eight_calls (w : World) : Calls Try.prog 42 #[] w fun e w' => e = .returned (.agg (V c32 (mat 8))) ∧ Ext w w' := by
  have hsz : ∀ l : List (BitVec 32), l.length = 32 → (Try.prog.info? 66).map (·.size) = some (V c32 l).size := fun l hl => by rw [Try.size66, V_size, hl]
  have hss : ∀ l m : List (BitVec 32), l.length = 32 → m.length = 32 → (V c32 l).size = (V c32 m).size := fun l m hl hm => by rw [V_size, V_size, hl, hm]
  have HZ := Lib.hid hsz
  have HS := Lib.hid hss
  clear hsz hss
  have h0 : Blk (w.alloc (.cells (V c32 (List.replicate 32 0#32)) 66)) w.heap.size (V c32 (List.replicate 32 0#32)) 66 := Blk.new _ _ _
  have hs0 : (w.alloc (.cells (V c32 (List.replicate 32 0#32)) 66)).heap.size = w.heap.size + 1 := by simp
  have hx0 := Ext.of_alloc (w := w) (.cells (V c32 (List.replicate 32 0#32)) 66)
  rw [← zero32] at h0 hs0 hx0
  have H0 := Lib.hid h0
  have HS0 := Lib.hid hs0
  have HX0 := Lib.hid hx0
  clear h0 hs0 hx0
  go_enter Try.func42, Try.ntmps42
  go_wp2_with (first
    | (go_at_call 43; refine (unit_calls _).mono ?_; rintro e w1 ⟨rfl, e1⟩)
    | (refine wpList_store_row rfl 66 (.tmp 1) (.tmp 3) rfl w1.heap.size (V c32 (mat 0)) (V c32 (List.replicate 32 0#32)) 66 rfl rfl (by rw [← zero32]; exact heap_alloc_last _ _) (HZ.out _ (mat_len 0)) (HS.out _ _ (by simp) (mat_len 0)) (V_one _ (fun _ => rfl) _) ?_
       rw [World.setRow_alloc_new]
       have b1 := Blk.new w1 (V c32 (mat 0)) 66
       have b0 := ((H0.out.ext e1).alloc (.cells (V c32 (mat 0)) 66))
       rw [zero32] at b0
       have e2 := (HX0.out.trans e1).alloc (.cells (V c32 (mat 0)) 66)
       have hlt : w.heap.size < w1.heap.size := by have h1 := HS0.out; have h2 := e1.size; omega
       have HL := Lib.hid hlt
       clear H0 HS0 HX0 e1 hlt
       generalize w1.alloc (.cells (V c32 (mat 0)) 66) = w2 at *
       generalize w1.heap.size = g1 at *
       clear w1
       obtain ⟨g0, hg0⟩ : ∃ g, w.heap.size = g := ⟨_, rfl⟩
       rw [hg0] at b0 HL ⊢
       have HG := Lib.hid hg0
       clear hg0)
    | fail)
  rw [← mixK_zero 0 8] at b1
  go_loopw [4] (fun i wr => ∃ (k : Nat), k ≤ 32 ∧ i = .int .i64 k ∧ Blk wr g1 (V c32 (mixK 0 8 k)) 66 ∧ Blk wr g0 (V c32 (List.replicate 32 0#32)) 66 ∧ Ext w wr) (fun i _ => (32 - intOf i).toNat)
  case atStart => exact ⟨0, by omega, rfl, b1, b0, e2⟩
  case round =>
    clear b0 b1 e2
    obtain ⟨k, hk, rfl, b1, b0, e2⟩ := hrel
    by_cases hlt : k < 32
    · have hs := mixK_set 0 8 k hlt
      have ha := mixK_at 0 8 k hlt
      rw [stpN_zero] at ha
      have hl := mixK_len 0 8 k hk
      have hc : wr.cell? ⟨g1, k, none⟩ = some (c32 (1#32 <<< k)) := by rw [b1.cell, V_at _ _ _ 0#32 (by omega), ha]
      have HT := Lib.hid (taken_calls (1#32 <<< k) _ [0#8] (wr.alloc (.cells #[.int .u8 0] 5)) (by rw [V_zero1]; exact (Blk.new wr (V cb [0#8]) 5).whole (n := 1) (c := 1) rfl) (by simp))
      rw [tkn_zero1] at HT
      have B1 := Lib.hid b1
      have B0 := Lib.hid b0
      have HSS := Lib.hid hs
      have HLL := Lib.hid hl
      have hgg := Lib.hid (show g0 ≠ g1 by have := HL.out; omega)
      clear b1 b0 hs ha hl
      generalize 1#32 <<< k = x at *
      go_wp2_with (first
        | (go_at_call 34; refine HT.out.mono ?_; clear HT; rintro e w3 ⟨rfl, A, B, C, h3⟩
           have e3 : Ext wr w3 := by rw [← h3]; exact (Ext.of_alloc _).trans (Ext.of_alloc3 _ _ _)
           have b13 := B1.out.ext e3
           have hf := b13.free k
           have hc3 : w3.cell? ⟨g1, k, none⟩ = some (c32 x) := e3.cell hc
           clear h3)
        | fail)
      go_roundw
      case measure => simp only [intOf]; omega
      case rel =>
        refine ⟨k + 1, by omega, by go_num, ?_, ?_, ?_⟩
        · rw [← HSS.out]; exact b13.w32 k (by rw [HLL.out]; exact hlt) _
        · exact (B0.out.ext e3).far ⟨g1, k, none⟩ hgg.out _
        · exact (e2.trans e3).set (p := ⟨g1, k, none⟩) (by have := HG.out; have := HL.out; show _ ≤ g1; omega) _
    · obtain rfl : k = 32 := by omega
      rw [mixK_all] at b1
      go_upto_region 7 with (fail)
      refine wp_region_lit ?_
      refine wpList_load_row rfl 66 (.tmp 1) rfl g1 rfl 66 (V c32 (mat 8)) (0, 0) _ b1 Try.underlying66 rfl (HZ.out _ (mat_len 8)) ?_
      refine wpList_store_row rfl 66 (.tmp 0) (.tmp 15) rfl g0 (V c32 (mat 8)) (V c32 (List.replicate 32 0#32)) 66 rfl rfl b0 (HZ.out _ (mat_len 8)) (HS.out _ _ (by simp) (mat_len 8)) (V_one _ (fun _ => rfl) _) ?_
      have b2 : Blk (wr.setRow g0 (V c32 (mat 8))) g0 (V c32 (mat 8)) 66 := b0.setRow
      have e3 := e2.grown1 (grown_setRow wr g0 (V c32 (mat 8))) (by have := HG.out; omega)
      generalize wr.setRow g0 (V c32 (mat 8)) = w5 at *
      go_wp2_with fail
      refine bodyPost_ret (results_cell_row rfl _ _ g0 66 (V c32 (mat 8)) (0, 0) _ rfl b2 Try.underlying66 rfl (HZ.out _ (mat_len 8))) rfl ?_
      exact ⟨rfl, e3⟩
end Go.Proofs.Ytbamkkbdcodafaa
