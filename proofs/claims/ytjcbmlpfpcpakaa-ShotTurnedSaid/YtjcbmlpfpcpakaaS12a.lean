/- Layer 2's walks (seal), in the seat of the layers 8, 11, 12: the table of four steps, and what a register becomes behind bytes. -/
import Derived.Test.YtjcbmlpfpcpakaaProg
import Derived.Test.YtjcbmlpfpcpakaaArr
import Derived.Deep.LoopGhost
import Derived.Deep.DeepCutAuto
namespace Go.Proofs.Ytjcbmlpfpcpakaa
open Go.RowKit
set_option linter.unusedVariables false

/-- a step of a register -/
def stp (v : BitVec 32) : BitVec 32 := v >>> 1 ^^^ 0x82F63B78#32 * (v &&& 1#32)
def stpN : Nat → BitVec 32 → BitVec 32
  | 0, v => v
  | k + 1, v => stpN k (stp v)
theorem stpN_zero (v : BitVec 32) : stpN 0 v = v := rfl
theorem stpN_succ (k : Nat) (v : BitVec 32) : stpN (k + 1) v = stpN k (stp v) := rfl
attribute [irreducible] stpN
def nib (i : Nat) : BitVec 32 := stpN 4 (BitVec.ofNat 32 i)
def tblK (k : Nat) : List (BitVec 32) := (List.range k).map nib ++ List.replicate (16 - k) 0#32
theorem tblK_len (k : Nat) (h : k ≤ 16) : (tblK k).length = 16 := by simp [tblK]; omega
theorem tblK_set (k : Nat) (h : k < 16) : (tblK k).set k (nib k) = tblK (k + 1) := by
  unfold tblK
  rw [List.set_append_right _ _ (by simp), List.length_map, List.length_range, Nat.sub_self, show 16 - k = (16 - (k + 1)) + 1 by omega, List.replicate_succ, List.set_cons_zero, List.range_succ, List.map_append, List.append_assoc]
  rfl
attribute [irreducible] tblK
def tbl : List (BitVec 32) := tblK 16
theorem tbl_len : tbl.length = 16 := tblK_len 16 (Nat.le_refl _)
theorem Try.size208 : (Try.prog.info? 208).map (·.size) = some 16 := by kernel_rfl
theorem zero16 : (#[.int .u32 0, .int .u32 0, .int .u32 0, .int .u32 0, .int .u32 0, .int .u32 0, .int .u32 0, .int .u32 0, .int .u32 0, .int .u32 0, .int .u32 0, .int .u32 0, .int .u32 0, .int .u32 0, .int .u32 0, .int .u32 0] : Array Value) = V c32 (tblK 0) := by
  unfold V tblK; rfl
theorem nibbles_calls (w : World) : Calls Try.prog 172 #[] w fun e w' => e = .returned (.agg (V c32 tbl)) ∧ ∃ A B : Obj, (w.alloc A).alloc B = w' := by
  go_enter Try.func172, Try.ntmps172
  go_wp2_with fail
  rw [zero16]
  go_loopw [4] (fun i wr => ∃ (k : Nat) (x : BitVec 32), k ≤ 16 ∧ x.toNat = k ∧ i = c32 x ∧ wr = (w.alloc (.cells (V c32 (tblK 0)) 208)).alloc (.cells (V c32 (tblK k)) 208)) (fun i _ => (16 - intOf i).toNat)
  case atStart => exact ⟨0, 0#32, by omega, rfl, rfl, rfl⟩
  case round =>
    obtain ⟨k, x, hk, hx, rfl, rfl⟩ := hrel
    by_cases hlt : k < 16
    · have hxt : tn x = k := by rw [tn_eq]; exact hx
      have HX := Lib.hid hx
      have h1 : 0 ≤ Bv x := Bv_nonneg x
      have h2 : Bv x < 16 := by unfold Bv; omega
      clear hx
      go_wp2_with fail
      go_loop [3, 8] (fun v j => ∃ (m : Nat) (y : BitVec 32), m ≤ 4 ∧ j = .int .i64 m ∧ v = c32 y ∧ Hid (stpN (4 - m) y = nib k)) (fun _ j => (4 - intOf j).toNat)
      case atStart => exact ⟨0, x, by omega, rfl, rfl, by show stpN 4 x = nib k; unfold nib; rw [← HX.out]; simp⟩
      case round =>
        obtain ⟨m, y, hm, rfl, rfl, hy⟩ := hrel
        by_cases hlm : m < 4
        · have hy' : Hid (stpN (4 - (m + 1)) (stp y) = nib k) := by have := hy.out; rw [show 4 - m = (4 - (m + 1)) + 1 by omega, stpN_succ] at this; exact this
          clear hy
          go_wp2_with fail
          go_round
          case measure => simp only [intOf]; omega
          case rel => exact ⟨m + 1, stp y, by omega, by go_num, rfl, hy'⟩
        · obtain rfl : m = 4 := by omega
          have hy' := hy.out
          rw [Nat.sub_self, stpN_zero] at hy'
          subst hy'
          have hg : ∃ u, (V c32 (tblK k))[k]? = some u := ⟨_, V_at _ _ _ 0#32 (by rw [tblK_len k hk]; exact hlt)⟩
          obtain ⟨u, hg⟩ := hg
          have hs := tblK_set k hlt
          have hx1 : Hid ((x + 1#32).toNat = k + 1) := by show _ = _; have hx := HX.out; rw [BitVec.toNat_add, show (1#32).toNat = 1 from rfl]; omega
          clear hy
          go_wp2_with fail
          go_roundw
          case measure => simp only [intOf]; have := hx1.out; have := HX.out; unfold Bv; omega
          case rel => exact ⟨k + 1, x + 1#32, by omega, hx1.out, rfl, rfl⟩
    · obtain rfl : k = 16 := by omega
      have hsz : (Try.prog.info? 208).map (·.size) = some (V c32 (tblK 16)).size := by rw [Try.size208, V_size, tblK_len _ (Nat.le_refl _)]
      have hss : (V c32 (tblK 0)).size = (V c32 (tblK 16)).size := by rw [V_size, V_size, tblK_len 0 (by omega), tblK_len 16 (by omega)]
      have hge : decide (Bv x < 16) = false := decide_eq_false (by unfold Bv; omega)
      have HZ := Lib.hid hsz
      have HS := Lib.hid hss
      clear hsz hss
      go_upto_region 12 with (fail)
      refine wp_region_lit ?_
      refine wpList_load_row rfl 208 (.tmp 1) rfl (w.heap.size + 1) rfl 208 (V c32 (tblK 16)) (0, 0) _ (heap_alloc2_new _ _ _) Try.underlying208 rfl HZ.out ?_
      refine wpList_store_row rfl 208 (.tmp 0) (.tmp 21) rfl w.heap.size (V c32 (tblK 16)) (V c32 (tblK 0)) 208 rfl rfl (heap_alloc2_old _ _ _) HZ.out HS.out (V_one _ (fun _ => rfl) _) ?_
      rw [setRow_alloc_two]
      go_wp2_with fail
      refine bodyPost_ret (results_cell_row rfl _ _ w.heap.size 208 (V c32 (tblK 16)) (0, 0) _ rfl (heap_alloc2_old _ _ _) Try.underlying208 rfl HZ.out) rfl ?_
      exact ⟨rfl, _, _, rfl⟩
attribute [irreducible] nib
def look (v : BitVec 32) : BitVec 32 := tbl.getD (tn (v &&& 15#32)) 0#32
theorem look_at (v : BitVec 32) : (V c32 tbl)[tn (v &&& 15#32)]? = some (c32 (look v)) := V_at _ _ _ _ (by
  rw [tbl_len, tn_eq, BitVec.toNat_and]; exact Nat.lt_of_le_of_lt Nat.and_le_right (by decide))
theorem and15_lt (v : BitVec 32) : tn (v &&& 15#32) < 16 := by rw [tn_eq, BitVec.toNat_and]; exact Nat.lt_of_le_of_lt Nat.and_le_right (by decide)
theorem and15_lt' (v : BitVec 32) : Bv (v &&& 15#32) < 16 := by have := and15_lt v; rw [Bv_is_tn]; omega
theorem and15_nn (v : BitVec 32) : 0 ≤ Bv (v &&& 15#32) := Bv_nonneg _
attribute [irreducible] look tbl
/-- a register behind a byte -/
def tk1 (v : BitVec 32) (b : BitVec 8) : BitVec 32 :=
  let v1 := v ^^^ b.setWidth 32
  let v2 := v1 >>> 4 ^^^ look v1
  v2 >>> 4 ^^^ look v2
def tkn (v : BitVec 32) (p : List (BitVec 8)) : BitVec 32 := p.foldl tk1 v
theorem tkn_nil (v : BitVec 32) : tkn v [] = v := rfl
theorem tkn_cons (v : BitVec 32) (b : BitVec 8) (p : List (BitVec 8)) : tkn v (b :: p) = tkn (tk1 v b) p := rfl
theorem tkn_append (v : BitVec 32) (p q : List (BitVec 8)) : tkn v (p ++ q) = tkn (tkn v p) q := List.foldl_append
attribute [irreducible] tkn
set_option maxRecDepth 100000 in
theorem taken_calls (v : BitVec 32) (sv : Value) (p : List (BitVec 8)) (w : World) (hp : Rd w cb sv p) (hm : p.length ≤ 9223372036854775807) :
    Calls Try.prog 163 #[c32 v, sv] w fun e w' => e = .returned (c32 (tkn v p)) ∧ ∃ A B C : Obj, ((w.alloc A).alloc B).alloc C = w' := by
  have hm' : (p.length : Int) ≤ 9223372036854775807 := by omega
  clear hm
  obtain ⟨r, hr⟩ : ∃ r, tkn v p = r := ⟨_, rfl⟩
  rw [hr]
  have Hr := Lib.hid hr
  have hsz : (Try.prog.info? 208).map (·.size) = some (V c32 tbl).size := by rw [Try.size208, V_size, tbl_len]
  have HZ := Lib.hid hsz
  have HS : Hid ((V c32 (tblK 0)).size = (V c32 tbl).size) := by show _ = _; rw [V_size, V_size, tblK_len 0 (by omega), tbl_len]
  clear hr hsz
  rcases hp with ⟨a, c, rfl, rfl, hac⟩ | ⟨b, o, c, n, rfl, hn, hpos, hc⟩
  · clear hac
    rw [tkn_nil] at Hr
    go_enter Try.func163, Try.ntmps163
    go_wp2_with fail
    refine (nibbles_calls _).mono ?_; rintro e w' ⟨rfl, A, B, rfl⟩
    go_wp2_with (refine wpList_store_row rfl 208 (.tmp 5) (.tmp 8) rfl (w.heap.size + 1 + 1) (V c32 tbl) (V c32 (tblK 0)) 208 rfl rfl (by rw [zero16]; exact heap_third _ _ _ _) HZ.out HS.out (V_one _ (fun _ => rfl) _) ?_; rw [setRow_third])
    refine wp_loop_once ?_
    go_wp2_with fail
    go_ret
    exact ⟨by rw [Hr.out]; rfl, _, _, _, rfl⟩
  · subst hn
    go_enter Try.func163, Try.ntmps163
    go_wp2_with fail
    refine (nibbles_calls _).mono ?_; rintro e w' ⟨rfl, A, B, rfl⟩
    go_wp2_with (refine wpList_store_row rfl 208 (.tmp 5) (.tmp 8) rfl (w.heap.size + 1 + 1) (V c32 tbl) (V c32 (tblK 0)) 208 rfl rfl (by rw [zero16]; exact heap_third _ _ _ _) HZ.out HS.out (V_one _ (fun _ => rfl) _) ?_; rw [setRow_third])
    obtain ⟨W, hW⟩ : ∃ W, ((w.alloc A).alloc B).alloc (.cells (V c32 tbl) 208) = W := ⟨_, rfl⟩
    have hc' : ∀ i, (hi : i < p.length) → W.cell? ⟨b, o + i, none⟩ = some (cb p[i]) := fun i hi => by
      have h := hc i hi
      have hb : b < w.heap.size := World.block_lt_of_cell? w _ h
      rw [← hW, World.cell?_alloc_lt _ _ _ (by simp; omega), World.cell?_alloc_lt _ _ _ (by simp; omega), World.cell?_alloc_lt _ _ _ (by simp; omega)]
      exact h
    have hl : ∀ v, W.cell? ⟨w.heap.size + 1 + 1, tn (v &&& 15#32), none⟩ = some (c32 (look v)) := fun v => by
      have h := World.cell?_alloc_new ((w.alloc A).alloc B) (V c32 tbl) 208 (tn (v &&& 15#32))
      rw [hW, look_at] at h
      simpa using h
    rw [hW]
    have HW := Lib.hid hW
    have HC := Lib.hid hc'
    have HL := Lib.hid hl
    clear hW hc hc' hl
    generalize w.heap.size + 1 + 1 = tb at *
    go_loop [0, 11] (fun x i => ∃ (k : Nat) (y : BitVec 32), k ≤ p.length ∧ i = .int .i64 k ∧ x = c32 y ∧ Hid (tkn y (p.drop k) = r)) (fun _ i => p.length - (intOf i).toNat)
    case atStart => exact ⟨0, v, by omega, rfl, rfl, by rw [List.drop_zero]; exact Hr.out⟩
    case round =>
      clear Hr
      obtain ⟨k, y, hk, rfl, rfl, hy⟩ := hrel
      by_cases hlt : k < p.length
      · have hci : W.cell? ⟨b, o + k, none⟩ = some (.int .u8 (Bv p[k])) := HC.out k hlt
        obtain ⟨x, hx⟩ : ∃ x, p[k] = x := ⟨_, rfl⟩
        have hy' := hy.out
        rw [List.drop_eq_getElem_cons hlt, tkn_cons, hx] at hy'
        rw [hx] at hci
        have HY := Lib.hid hy'
        clear hy hy' hx
        have q1 := HL.out (y ^^^ x.setWidth 32)
        have q2 := HL.out ((y ^^^ x.setWidth 32) >>> 4 ^^^ look (y ^^^ x.setWidth 32))
        have q3 := and15_lt (y ^^^ x.setWidth 32)
        have q4 := and15_lt ((y ^^^ x.setWidth 32) >>> 4 ^^^ look (y ^^^ x.setWidth 32))
        have q5 := and15_lt' (y ^^^ x.setWidth 32)
        have q6 := and15_lt' ((y ^^^ x.setWidth 32) >>> 4 ^^^ look (y ^^^ x.setWidth 32))
        have q7 := and15_nn (y ^^^ x.setWidth 32)
        have q8 := and15_nn ((y ^^^ x.setWidth 32) >>> 4 ^^^ look (y ^^^ x.setWidth 32))
        go_wp2_with fail
        go_outline
        go_round
        case measure => simp only [intOf]; omega
        case rel => exact ⟨k + 1, tk1 y x, by omega, by go_num, rfl, HY⟩
      · obtain rfl : k = p.length := by omega
        have hy' := hy.out
        rw [List.drop_length, tkn_nil] at hy'
        have HY := Lib.hid hy'
        clear hy hy'
        go_wp2_with fail
        go_ret
        exact ⟨by rw [← HY.out]; rfl, _, _, _, HW.out⟩
end Go.Proofs.Ytjcbmlpfpcpakaa
