/- Layer 12 (shot): what stands in a slot, the walk. -/
import Derived.Test.YtjcbmlpfpcpakaaH5
import Derived.Test.YtjcbmlpfpcpakaaEqa
import Derived.Deep.RegionHeld3
import Derived.WalkMore
import Derived.Deep.QuietTactic
import Derived.BigQuiet
namespace Go.Proofs.Ytjcbmlpfpcpakaa
open Go.RowKit
set_option linter.unusedVariables false
theorem eq146 (l m : By) (hl : l.length = 64) (hm : m.length = 64) (w : World) : (Op.equalIn 10000 146 (.agg (V cb l)) (.agg (V cb m))).run Try.prog w = .ok (decide (l = m)) w := by
  obtain ⟨i5, j1, _⟩ := info_parts Try.info5
  exact run_equal_words w 9998 Try.u146 Try.underlying5 j1 (by kernel_rfl) l m hl hm
theorem u64_small (x : BitVec 64) : Bv x = ((x.toNat : Nat) : Int) := rfl
theorem mod2_small (x : BitVec 64) : Bv (x % 2#64) = ((x.toNat % 2 : Nat) : Int) := by unfold Bv; rw [BitVec.toNat_umod]; rfl
def StOut (w w' : World) : Option (Nat × By) → Ending → Prop
  | none, e => e = .returned (.tuple #[ci 0, .slice none 0 0, .bool false])
  | some x, e => ∃ sv, e = .returned (.tuple #[ci x.1, sv, .bool true]) ∧ Sp w' 5 cb sv x.2 ∧ ∀ q, sv.ownBlock = some q → w.heap.size ≤ q
theorem standP_n1 {first : By} {body : Nat → By} {odd size : Nat} (h : (numP first).toNat < 1 ∨ 1099511627776 < (numP first).toNat ∨ (numP first).toNat % 2 ≠ odd ∨ 64 * (size - 1) < (longP first).toNat) : standP first body odd size = none := by
  unfold standP; rw [if_pos h]
def bodyN (body : Nat → By) (k : Nat) : By := (List.range k).flatMap body
theorem bodyN_len {body : Nat → By} (k : Nat) (h : ∀ i, i < k → (body i).length = 64) : (bodyN body k).length = 64 * k := by
  induction k with
  | zero => rfl
  | succ k ih =>
    unfold bodyN at ih ⊢
    rw [List.range_succ, List.flatMap_append, List.length_append, ih (fun i hi => h i (by omega)), List.flatMap_singleton, h k (by omega)]
    omega
theorem bodyN_succ (body : Nat → By) (k : Nat) : bodyN body (k + 1) = bodyN body k ++ body k := by
  unfold bodyN
  rw [List.range_succ, List.flatMap_append, List.flatMap_singleton]
theorem standP_n2 {first : By} {body : Nat → By} {odd size : Nat} (h0 : ¬ ((numP first).toNat < 1 ∨ 1099511627776 < (numP first).toNat ∨ (numP first).toNat % 2 ≠ odd ∨ 64 * (size - 1) < (longP first).toNat))
    (h : notZero ((bodyN body (secsN (longP first).toNat)).drop (longP first).toNat) = true ∨ headB (numP first) ((bodyN body (secsN (longP first).toNat)).take (longP first).toNat) ≠ first) : standP first body odd size = none := by
  unfold standP; unfold bodyN at h; rw [if_neg h0, if_pos h]
theorem standP_y {first : By} {body : Nat → By} {odd size : Nat} (h0 : ¬ ((numP first).toNat < 1 ∨ 1099511627776 < (numP first).toNat ∨ (numP first).toNat % 2 ≠ odd ∨ 64 * (size - 1) < (longP first).toNat))
    (h : ¬ (notZero ((bodyN body (secsN (longP first).toNat)).drop (longP first).toNat) = true ∨ headB (numP first) ((bodyN body (secsN (longP first).toNat)).take (longP first).toNat) ≠ first)) :
    standP first body odd size = some ((numP first).toNat, (bodyN body (secsN (longP first).toNat)).take (longP first).toNat) := by
  unfold standP; unfold bodyN at h ⊢; rw [if_neg h0, if_neg h]
attribute [irreducible] bodyN
theorem numP_eq (f : By) : numP f = gotB ((f.drop 4).take 8) := by unfold numP; rfl
theorem longP_eq (f : By) : longP f = gotB ((f.drop 12).take 4) := by unfold longP; rfl
theorem Blk.rdm {w : World} {b o n c : Nat} {l m : List (BitVec 8)} {t : TypeId} (h : Blk w b (V cb l) t) (hm : m = (l.drop o).take n) (hn : n = m.length) (h0 : 0 < n) : Rd w cb (.slice (some ⟨b, o, none⟩) n c) m := by
  refine Or.inr ⟨b, o, c, n, rfl, hn, h0, fun i hi => ?_⟩
  rw [h.cell, V_get]
  have : m[i]? = l[o + i]? := by rw [hm, List.getElem?_take, if_pos (by omega), List.getElem?_drop]
  rw [← this, List.getElem?_eq_getElem hi]
  rfl
theorem Rd.len_is {α : Type} {w : World} {f : α → Value} {a : Option Addr} {n c : Nat} {l : List α} (h : Rd w f (.slice a n c) l) : l.length = n := by
  rcases h with ⟨a', c', e, h0, _⟩ | ⟨b, o, c', k, e, h0, _⟩
  · injection e with _ e2 _
    rw [h0]; exact e2.symm
  · injection e with _ e2 _
    omega
theorem Rd.cell_is {α : Type} {w : World} {f : α → Value} {b o n c : Nat} {l : List α} (h : Rd w f (.slice (some ⟨b, o, none⟩) n c) l) (i : Nat) (hi : i < l.length) : w.cell? ⟨b, o + i, none⟩ = some (f l[i]) := by
  rcases h with ⟨a', c', e, h0, _⟩ | ⟨b', o', c', k, e, h0, _, h1⟩
  · subst h0; simp at hi
  · injection e with e1 e2 _
    injection e1 with e1
    injection e1 with e3 e4
    subst e3; subst e4
    exact h1 i hi
theorem Rd.dropL {α : Type} {w : World} {f : α → Value} {b o n c c' L : Nat} {l : List α} (h : Rd w f (.slice (some ⟨b, o, none⟩) n c) l) (hL : L ≤ n) : Rd w f (.slice (some ⟨b, o + L, none⟩) (n - L) c') (l.drop L) := by
  have hl : l.length = n := Rd.len_is h
  by_cases h0 : L = n
  · refine Or.inl ⟨_, _, by rw [h0, Nat.sub_self], ?_, fun e => by cases e⟩
    rw [List.drop_eq_nil_of_le (by omega)]
  · refine Or.inr ⟨b, o + L, c', n - L, rfl, by rw [List.length_drop, hl], by omega, fun i hi => ?_⟩
    rw [List.getElem_drop, show o + L + i = o + (L + i) by omega]
    rw [List.length_drop] at hi
    exact Rd.cell_is h (L + i) (by omega)
theorem Rd.takeL {α : Type} {w : World} {f : α → Value} {a : Option Addr} {n c c' L : Nat} {l : List α} (h : Rd w f (.slice a n c) l) (hL : L ≤ n) (h0 : a = none → c' = 0) : Rd w f (.slice a L c') (l.take L) := by
  have hl : l.length = n := Rd.len_is h
  by_cases h1 : L = 0
  · subst h1
    exact Or.inl ⟨_, _, rfl, by rw [List.take_zero], h0⟩
  · rcases h with ⟨a', c1, e, h2, _⟩ | ⟨b, o, c1, n1, e, h2, h3, h4⟩
    · injection e with _ e2 _
      omega
    · injection e with e1 e2 _
      subst e1
      refine Or.inr ⟨b, o, c', L, rfl, by rw [List.length_take]; omega, by omega, fun i hi => ?_⟩
      rw [List.getElem_take]
      exact h4 i (by rw [List.length_take] at hi; omega)
section
variable {w0 w : World} {g sb o fr size gen : Nat} {dead : Bool} {d : Dk}
set_option maxRecDepth 100000 in
theorem stands_off (h : DX w0 w g sb d) (k : Blk w o (sc g fr size gen dead) 143) (odd : Nat) (ho : odd < 2) (hp : powP d = 80) (hf : fr ≤ 65536) (hs : size ≤ 65536) :
    Calls Try.prog 96 #[.pointer (some ⟨o, 0, none⟩), ci odd] w fun e w' => e = .panicked [flt 80] ∧ Ext w w' := by
  have H1 := Lib.hid (slot_calls k odd (by omega) hf hs)
  have H2 := Lib.hid (fun n => sread_off (h.drewN n) (k.ext ((Ext.refl w).drewN n)) (slotN fr size odd) hp)
  clear h k hp
  go_enter Try.func96, Try.ntmps96
  go_wp2_with (first
    | (go_at_call 98; refine H1.out.mono ?_; rintro e w1 ⟨rfl, n, rfl⟩)
    | (go_at_call 99; refine (H2.out n).mono ?_; rintro e w2 ⟨rfl, e2⟩)
    | fail)
  exact ⟨rfl, rfl, ((Ext.refl w).drewN n).trans e2⟩
set_option maxRecDepth 100000 in
set_option maxHeartbeats 4000000 in
theorem stands_ok (h : DX w0 w g sb d) (k : Blk w o (sc g fr size gen dead) 143) (odd : Nat) (ho : odd < 2) (hp : powP d = 0) (h2 : 2 ≤ size) (hs : size ≤ 65536) (hr : fr + 2 * size ≤ d.n) :
    Calls Try.prog 96 #[.pointer (some ⟨o, 0, none⟩), ci odd] w fun e w' => StOut w w' (standD d fr size odd) e ∧ Ext w w' := by
  have hn2 := h.ok.n2
  have hat : slotN fr size odd + size ≤ d.n := by unfold slotN; split <;> omega
  rw [standD_eq]
  obtain ⟨at0, hat0⟩ : ∃ a, slotN fr size odd = a := ⟨_, rfl⟩
  rw [hat0] at hat ⊢
  have H1 := Lib.hid (slot_calls k odd (by omega) (by omega) hs)
  rw [hat0] at H1
  clear hat0
  have H2 := Lib.hid (fun at' ha w1 (e : Ext w w1) => sread_ok (h.ext e) (k.ext e) at' hp ha)
  have H3 := Lib.hid (fun w1 (e : Ext w w1) => smost_calls (k.ext e) h2 hs)
  obtain ⟨first, hfirst⟩ : ∃ f, d.read at0 = f := ⟨_, rfl⟩
  have hfl : first.length = 64 := by rw [← hfirst]; exact Dk.read_len h.ok (by omega)
  have HB := Lib.hid (fun i (hi : i < size - 1) => Dk.read_len h.ok (show at0 + 1 + i < d.n by omega))
  have H2a := Lib.hid (H2.out at0 (by omega))
  rw [hfirst] at H2a ⊢
  have HFL := Lib.hid hfl
  obtain ⟨x, hx⟩ : ∃ x, numP first = x := ⟨_, rfl⟩
  obtain ⟨y, hy⟩ : ∃ y, longP first = y := ⟨_, rfl⟩
  have HX := Lib.hid hx
  have HY := Lib.hid hy
  have G1 := Lib.hid (fun B w1 b => got_calls (.slice (some ⟨B, 4, none⟩) 8 60) ((first.drop 4).take 8) w1 (Blk.rdm (t := 146) b rfl (by simp; omega) (by omega)) (by simp; omega))
  have G2 := Lib.hid (fun B w1 b => got_calls (.slice (some ⟨B, 12, none⟩) 4 52) ((first.drop 12).take 4) w1 (Blk.rdm (t := 146) b rfl (by simp; omega) (by omega)) (by simp; omega))
  rw [← numP_eq, hx] at G1
  rw [← longP_eq, hy] at G2
  clear h k hp hfirst hfl hx hy
  go_enter Try.func96, Try.ntmps96
  go_upto_region 3 with (first
    | (go_at_call 98; refine H1.out.mono ?_; rintro e w1 ⟨rfl, n, rfl⟩; clear H1)
    | (go_at_call 99; refine (H2a.out _ ((Ext.refl w).drewN n)).mono ?_; rintro e w2 ⟨rfl, e2⟩; have E2 := Lib.hid (((Ext.refl w).drewN n).trans e2); clear e2 H2a)
    | (guard_target =~ wpList _ _ _ (Oper.mk _ (.alloc 146) _ _ _ _ :: _) _ _; refine wpList_make_row A146 rfl rfl rfl _ _ rfl rfl (first.map cb) (by rw [List.length_map]; exact HFL.out) (cb_ones _) (by rw [← V_eq]; rfl) ?_
       intro w3 E3 B3
       rw [← V_eq] at B3
       have X3 := Lib.hid (E2.out.trans E3)
       have BB3 := Lib.hid B3
       have hb0 : w.heap.size ≤ w2.heap.size := E2.out.size
       clear E2 E3 B3)
    | fail)
  obtain ⟨B, hB⟩ : ∃ B, w2.heap.size = B := ⟨_, rfl⟩
  rw [hB] at BB3 hb0 ⊢
  clear hB
  go_region_with (first
    | (go_at_call 141; have hq := G1.out; clear hq; refine (G1.out B _ BB3.out.drew).mono ?_; rintro e w4 ⟨rfl, rfl⟩; clear G1)
    | (go_at_call 141; have hq := G2.out; clear hq; refine (G2.out B _ BB3.out.drew).mono ?_; rintro e w4 ⟨rfl, rfl⟩; clear G2)
    | fail)
  have X4 := Lib.hid X3.out.drew
  have B4 := Lib.hid BB3.out.drew
  clear X3 BB3
  obtain ⟨w4, hw4⟩ : ∃ w4, w3.drew = w4 := ⟨_, rfl⟩
  rw [hw4] at X4 B4 ⊢
  clear hw4
  obtain ⟨N, hN⟩ : ∃ N, x.toNat = N := ⟨_, rfl⟩
  obtain ⟨L, hL⟩ : ∃ L, y.toNat = L := ⟨_, rfl⟩
  have eN : Bv x = (N : Int) := by rw [← hN]; rfl
  have eL : Bv y = (L : Int) := by rw [← hL]; rfl
  have eM : Bv (x % 2#64) = ((N % 2 : Nat) : Int) := by rw [mod2_small, hN]
  have HN := Lib.hid hN
  have HLL := Lib.hid hL
  have H3a := Lib.hid (H3.out _ X4.out)
  clear hN hL H3
  have hnone : (N < 1 ∨ 1099511627776 < N ∨ N % 2 ≠ odd ∨ 64 * (size - 1) < L) → standP first (fun i => d.read (at0 + 1 + i)) odd size = none := fun hc => by
    refine standP_n1 ?_
    rw [HX.out, HY.out, HN.out, HLL.out]
    exact hc
  have HNO := Lib.hid hnone
  clear hnone
  by_cases h1 : N < 1
  · have f1 : (N : Int) < 1 := by omega
    go_wp2_with fail
    go_ret3
    exact ⟨by rw [HNO.out (Or.inl h1)]; rfl, X4.out⟩
  have f1 : ¬ (N : Int) < 1 := by omega
  have d1 : decide ((N : Int) < 1) = false := decide_eq_false f1
  by_cases h2' : 1099511627776 < N
  · have f2 : (1099511627776 : Int) < N := by omega
    go_wp2_with fail
    go_ret3
    exact ⟨by rw [HNO.out (Or.inr (Or.inl h2'))]; rfl, X4.out⟩
  have f2 : ¬ (1099511627776 : Int) < N := by omega
  have d2 : decide ((1099511627776 : Int) < N) = false := decide_eq_false f2
  have hm2 : (N : Int).tmod 2 = ((N % 2 : Nat) : Int) := by rw [Int.tmod_eq_emod_of_nonneg (by omega)]; omega
  by_cases h3 : N % 2 = odd
  rotate_left
  · have f3 : ¬ ((N % 2 : Nat) : Int) = odd := by omega
    go_wp2_with fail
    go_ret3
    exact ⟨by rw [HNO.out (Or.inr (Or.inr (Or.inl h3)))]; rfl, X4.out⟩
  have f3 : ((N % 2 : Nat) : Int) = odd := by omega
  by_cases h4 : 64 * (size - 1) < L
  · have f4 : ((64 * (size - 1) : Nat) : Int) < L := by omega
    go_wp2_with (first | (go_at_call 56; refine H3a.out.mono ?_; rintro e w5 ⟨rfl, rfl⟩) | fail)
    go_ret3
    exact ⟨by rw [HNO.out (Or.inr (Or.inr (Or.inr h4)))]; rfl, X4.out⟩
  have f4 : ¬ ((64 * (size - 1) : Nat) : Int) < L := by omega
  have d4 : decide (((64 * (size - 1) : Nat) : Int) < L) = false := decide_eq_false f4
  go_upto_region 6 with (first | (go_at_call 56; refine H3a.out.mono ?_; rintro e w5 ⟨rfl, rfl⟩) | fail)
  have HBY := Lib.hid (fun k (hk : k ≤ secsN L) => bodyN_len (body := fun i => d.read (at0 + 1 + i)) k (fun i hi => HB.out i (by unfold secsN at hk; omega)))
  have hK : ∀ k, 64 * k < L ↔ k < secsN L := fun k => by unfold secsN; omega
  have HK := Lib.hid hK
  obtain ⟨K, hKK⟩ : ∃ K, secsN L = K := ⟨_, rfl⟩
  have hKs : K ≤ size - 1 := by rw [← hKK]; unfold secsN; omega
  rw [hKK] at HBY HK
  have HKK := Lib.hid hKK
  have H2b := Lib.hid (fun k (hk : k < K) => H2.out (at0 + 1 + k) (by omega))
  have ea : ∀ k : Nat, ((at0 + 1 + k : Nat) : Int) = (at0 : Int) + k + 1 := fun k => by omega
  obtain ⟨i5, j1, j2, j3, j4⟩ := info_parts Try.info5
  have hz : i5.zero = some (cb 0#8) := j2
  clear hK H2 hKK HB
  have SB := Lib.hid (fun k (hk : k < K) => HBY.out (k + 1) (by omega))
  go_loopw [5, 7] (fun dv av wx => ∃ k : Nat, k ≤ K ∧ av = ci (at0 + k : Int) ∧ Hid ((k = 0 → dv = .slice none 0 0) ∧ Ext w4 wx ∧ Own wx w4.heap.size 5 cb dv (bodyN (fun i => d.read (at0 + 1 + i)) k))) (fun _ av _ => (at0 + K) - (intOf av).toNat)
  case atStart => exact ⟨0, Nat.zero_le _, by simp, Lib.hid ⟨fun _ => rfl, Ext.refl _, by unfold bodyN; exact Own.nil⟩⟩
  case round =>
    obtain ⟨k, hk, rfl, hU⟩ := hrel
    have own := hU.out.2.2
    obtain ⟨qa, qc, rfl, _⟩ := own.form
    have hlen := HBY.out k hk
    rw [hlen] at own ⊢
    have hnil := hU.out.1
    rw [hlen] at hnil
    have E4 := Lib.hid hU.out.2.1
    have OW := Lib.hid own
    have HNI := Lib.hid hnil
    have hkL : (k : Int) ≤ 65536 := by omega
    clear hU own hnil
    by_cases hlt : 64 * k < L
    · have hlt' : (64 : Int) * k < L := by omega
      have hkK := (HK.out k).1 hlt
      have RD := Lib.hid (H2b.out k hkK)
      rw [ea k] at RD
      have HRL : Hid ((d.read (at0 + 1 + k)).length = 64) := by
        have h1 := SB.out k hkK
        rw [bodyN_succ, List.length_append, hlen] at h1
        show _ = _
        omega
      clear HNI hlen
      go_wp2_with (first
        | (go_at_call 99; refine (RD.out wr (X4.out.trans E4.out)).mono ?_; rintro e w6 ⟨rfl, e6⟩
           have E6 := Lib.hid (E4.out.trans e6)
           have O6 := Lib.hid (OW.out.below e6.to)
           clear e6 RD OW)
        | (guard_target =~ wpList _ _ _ (Oper.mk _ (.alloc 146) _ _ _ _ :: _) _ _; refine wpList_make_row A146 rfl rfl rfl _ _ rfl rfl ((d.read (at0 + 1 + k)).map cb) (by rw [List.length_map]; exact HRL.out) (cb_ones _) (by rw [← V_eq]; rfl) ?_
           intro w7 e7 b7
           rw [← V_eq] at b7
           have E7 := Lib.hid (E6.out.trans e7)
           have O7 := Lib.hid (O6.out.below e7.to)
           have B7 := Lib.hid b7
           clear e7 b7 E6 O6)
        | (at_builtin; refine wpList_append_rd cb (fun _ => rfl) rfl (.tmp 53) (.tmp 54) 36 rfl w4.heap.size 5 i5 0#8 1 Try.u36 j1 hz j3 j4 rfl _ _ rfl O7.out _ (d.read (at0 + 1 + k)) rfl (B7.out.rdv HRL.out.symm) (by rw [HBY.out k hk, HRL.out]; omega) (by rw [HBY.out k hk, HRL.out]; omega) E7.out.size ?_
           intro v8 w8 o8 g8
           rw [← bodyN_succ] at o8
           have E8 : Ext w4 w8 := E7.out.grown g8 (fun q hq => (O7.out.lt q hq).1)
           have O8 := Lib.hid o8
           have EE8 := Lib.hid E8
           clear o8 g8 E8 O7 E7 B7)
        | fail)
      refine ⟨⟨k + 1, hkK, by push_cast; simp [Int.add_assoc], Lib.hid ⟨fun h => by omega, EE8.out, O8.out⟩⟩, ?_⟩
      simp only [intOf]
      omega
    · have hkK : k = K := by
        have := (not_congr (HK.out k)).1 hlt
        omega
      subst hkK
      have hLk : L ≤ 64 * k := by omega
      have b0 : (0 : Int) ≤ L := by omega
      have b1 : (L : Int) ≤ ((64 * k : Nat) : Int) := by omega
      have b1' : (L : Int) ≤ (64 : Int) * k := by omega
      have hcap : 64 * k ≤ qc := by
        have own := OW.out
        obtain ⟨_, ⟨e, h0⟩ | ⟨gq, cap, cur, e, _, _, hle, _⟩⟩ := own
        · rw [hlen] at h0; omega
        · rw [hlen] at hle; injection e with _ _ e3; omega
      have b2 : (L : Int) ≤ qc := by omega
      have b3 : L ≤ qc := by omega
      have hlt2 : ¬ (64 : Int) * k < L := by omega
      clear SB H2b
      have hown := OW.out
      go_upto_region 10 with (fail)
      go_cut [5, 12] from 13 to 62 (fun dv rv wx => dv = .slice qa L L ∧ wx = wr.drew ∧ Hid (Rd wr cb rv ((bodyN (fun i => d.read (at0 + 1 + i)) k).drop L)))
      case first =>
        by_cases hq : qc = L
        · have hr := Lib.hid (show Rd wr cb (.slice qa (64 * k - L) 0) ((bodyN (fun i => d.read (at0 + 1 + i)) k).drop L) from Or.inl ⟨qa, 0, by congr 1; omega, by rw [List.drop_eq_nil_of_le (by omega)], fun _ => rfl⟩)
          clear hown
          go_region
          go_wp2_with fail
          go_meet
          exact ⟨rfl, rfl, hr.out⟩
        · have hrr := hown.rd
          have hqa : ∃ gq, qa = some ⟨gq, 0, none⟩ := by
            obtain ⟨_, ⟨e, h0⟩ | ⟨gq, cap, cur, e, _⟩⟩ := hown
            · rw [hlen] at h0
              injection e with _ _ e3
              omega
            · injection e with e1 _ _
              exact ⟨gq, e1⟩
          obtain ⟨gq, rfl⟩ := hqa
          have hr := Lib.hid (Rd.dropL (c' := qc - L) hrr hLk)
          rw [Nat.zero_add] at hr
          clear hown hrr
          go_region
          go_wp2_with fail
          go_meet
          exact ⟨rfl, rfl, hr.out⟩
      obtain ⟨rfl, rfl, hrd⟩ := hcut
      obtain ⟨D, hD⟩ : ∃ D, (bodyN (fun i => d.read (at0 + 1 + i)) k).take L = D := ⟨_, rfl⟩
      obtain ⟨R, hR⟩ : ∃ R, (bodyN (fun i => d.read (at0 + 1 + i)) k).drop L = R := ⟨_, rfl⟩
      rw [hR] at hrd
      have hqa0 : qa = none → qc = 0 := fun e => by
        subst e
        obtain ⟨_, ⟨e, h0⟩ | ⟨gq, cap, cur, e, _⟩⟩ := hown
        · injection e
        · injection e with e1 _ _
          cases e1
      have hdd : Rd wr cb (.slice qa L L) D := by
        rw [← hD]
        exact Rd.takeL hown.rd hLk (fun e => by have := hqa0 e; omega)
      have hDl : D.length = L := Rd.len_is hdd
      have hRl : R.length ≤ 4294967296 := by rw [← hR, List.length_drop, hlen]; omega
      have hsp : ∀ w', Ext wr w' → Sp w' 5 cb (.slice qa L L) D ∧ ∀ q, (Value.slice qa L L).ownBlock = some q → w.heap.size ≤ q := fun w' e => by
        by_cases hL0 : L = 0
        · have k0 : k = 0 := by
            have := HKK.out
            rw [hL0] at this
            unfold secsN at this
            omega
          have := HNI.out k0
          injection this with e1 _ _
          subst e1
          rw [hL0] at hDl
          rw [hL0, List.eq_nil_of_length_eq_zero hDl]
          exact ⟨Or.inl ⟨rfl, rfl⟩, fun q hq => by cases hq⟩
        · obtain ⟨gq, c1, cur, e1, h1, h2, h3, h4, h5⟩ := hown.form1 (by rw [hlen]; omega)
          rw [hlen] at e1 h3
          injection e1 with e1 _ e3
          subst e1
          subst e3
          have hcs : ∀ i, (hi : i < D.length) → cur[i]? = some (cb D[i]) := fun i hi => by
            have hi' : i < L := by rw [← hDl]; exact hi
            have := h5 i (by rw [hlen]; omega)
            rw [this]
            subst hD
            rw [List.getElem_take]
          refine ⟨Or.inr ⟨gq, L, by rw [hDl], ⟨by omega, by omega, cur, e.heap h2, ?_, hcs⟩⟩, fun q hq => ?_⟩
          · have := hcs (L - 1) (by omega)
            have := (Array.getElem?_eq_some_iff.1 this).1
            omega
          · have e : gq = q := Option.some.inj hq
            subst e
            exact Nat.le_trans X4.out.size h1
      have HSP := Lib.hid hsp
      have HDD := Lib.hid hdd
      have HRD := Lib.hid hrd.out
      have HDL := Lib.hid hDl
      have HRL := Lib.hid hRl
      have HD := Lib.hid hD
      have HR := Lib.hid hR
      clear hown hqa0 hdd hDl hRl hsp hD hR hrd hlen HNI HBY OW
      have hfin : ∀ (b : Bool), (¬ b = true → ¬ (notZero R = true ∨ headB x D ≠ first)) → (b = true → (notZero R = true ∨ headB x D ≠ first)) → standP first (fun i => d.read (at0 + 1 + i)) odd size = if b = true then none else some (N, D) := fun b h1 h2 => by
        have h0 : ¬ ((numP first).toNat < 1 ∨ 1099511627776 < (numP first).toNat ∨ (numP first).toNat % 2 ≠ odd ∨ 64 * (size - 1) < (longP first).toNat) := by
          rw [HX.out, HY.out, HN.out, HLL.out]
          omega
        have e1 := HX.out
        have e2 := HY.out
        have e3 := HN.out
        have e4 := HLL.out
        have e5 := HKK.out
        have e6 := HD.out
        have e7 := HR.out
        cases b with
        | true =>
          have h3 := h2 rfl
          rw [if_pos rfl]
          refine standP_n2 h0 ?_
          rw [e1, e2, e4, e5, e6, e7]
          exact h3
        | false =>
          have h3 := h1 (by decide)
          rw [if_neg (by decide), standP_y h0 (by rw [e1, e2, e4, e5, e6, e7]; exact h3), e1, e2, e3, e4, e5, e6]
      have HF := Lib.hid hfin
      have eN2 : BitVec.ofNat 64 N = x := by rw [← HN.out]; simp
      have EN2 := Lib.hid eN2
      have HWD := Lib.hid (X4.out.trans E4.out)
      clear hfin eN2 HNO H3a
      go_upto_region 11 with (fail)
      have n1 : (N : Int) ≤ 1099511627776 := by omega
      have hwN : IntKind.i64.wrap (N : Int) = (N : Int) := by simp [IntKind.wrap, IntKind.bits, IntKind.signed]; omega
      have L1 : L ≤ 4194304 := by omega
      have N1 : N ≤ 1099511627776 := by omega
      clear d1 d2 d4 f1 f2 f4 h1 h2' h3 h4 eL eM hm2 ea i5 j1 j2 j3 j4 hz b0 b1 b1' hcap b2 b3 hlt2 hLk hlt hk hkL f3 hKs HK HKK hr hat hb0
      by_cases hc : notZero R = true
      · have HC := Lib.hid (contains_calls u12 R wr.drew.drew HRD.out.drew.drew (by have := HRL.out; omega))
        rw [hc] at HC
        refine wp_region_noPanic ?_
        refine wp_region_any (by kernel_rfl) ?_
        change wpAny _ _ _ _ _ _ _ wr.drew.drew
        refine wpAny_take (i := 0) (v := ?_) (by simp only [List.getElem?_toArray, List.getElem?_cons_zero]; exact rfl) (by kernel_rfl) (by kernel_rfl) (by kernel_rfl) (by intro _ _ _ h; exact h) (Or.inl ⟨by rfl, ?_⟩) ?_
        rotate_left
        · intro wz; go_simp; with_reducible rfl
        try simp only [Act.put, List.setIfInBounds_toArray, List.set_cons_zero, List.set_cons_succ]
        refine wpAny_ready (rs := [1]) (by kernel_rfl) (by simp) ?_
        refine AllReady.cons (by simp only [List.getElem?_toArray, List.getElem?_cons_succ, List.getElem?_cons_zero]; exact rfl) (fun K hK => ?_) ?_
        rotate_left
        · exact AllReady.nil
        go_simp
        refine HC.out.mono ?_
        rintro e w5 ⟨rfl, rfl⟩
        refine hK _ _ ?_
        clear hK K
        try simp only [Act.put, List.setIfInBounds_toArray, List.set_cons_zero, List.set_cons_succ]
        refine wpAny_take (i := 2) (v := ?_) (by simp only [List.getElem?_toArray, List.getElem?_cons_succ, List.getElem?_cons_zero]; exact rfl) (by kernel_rfl) (by kernel_rfl) (by kernel_rfl) (by intro _ _ _ h; exact h) (Or.inl ⟨by rfl, ?_⟩) ?_
        rotate_left
        · intro wz; go_simp; with_reducible rfl
        try simp only [Act.put, List.setIfInBounds_toArray, List.set_cons_zero, List.set_cons_succ]
        refine wpAny_take (i := 3) (v := undef) (by simp only [List.getElem?_toArray, List.getElem?_cons_succ, List.getElem?_cons_zero]; exact rfl) (by kernel_rfl) (by kernel_rfl) (by kernel_rfl) (by intro _ _ _ h; exact h) (Or.inr ⟨by rfl, rfl⟩) ?_
        try simp only [Act.put, List.setIfInBounds_toArray, List.set_cons_zero, List.set_cons_succ]
        refine wpAny_take (i := 4) (v := undef) (by simp only [List.getElem?_toArray, List.getElem?_cons_succ, List.getElem?_cons_zero]; exact rfl) (by kernel_rfl) (by kernel_rfl) (by kernel_rfl) (by intro _ _ _ h; exact h) (Or.inr ⟨by rfl, rfl⟩) ?_
        try simp only [Act.put, List.setIfInBounds_toArray, List.set_cons_zero, List.set_cons_succ]
        refine wpAny_take (i := 5) (v := undef) (by simp only [List.getElem?_toArray, List.getElem?_cons_succ, List.getElem?_cons_zero]; exact rfl) (by kernel_rfl) (by kernel_rfl) (by kernel_rfl) (by intro _ _ _ h; exact h) (Or.inr ⟨by rfl, rfl⟩) ?_
        try simp only [Act.put, List.setIfInBounds_toArray, List.set_cons_zero, List.set_cons_succ]
        refine wpAny_take (i := 6) (v := undef) (by simp only [List.getElem?_toArray, List.getElem?_cons_succ, List.getElem?_cons_zero]; exact rfl) (by kernel_rfl) (by kernel_rfl) (by kernel_rfl) (by intro _ _ _ h; exact h) (Or.inr ⟨by rfl, rfl⟩) ?_
        try simp only [Act.put, List.setIfInBounds_toArray, List.set_cons_zero, List.set_cons_succ]
        refine wpAny_take (i := 7) (v := undef) (by simp only [List.getElem?_toArray, List.getElem?_cons_succ, List.getElem?_cons_zero]; exact rfl) (by kernel_rfl) (by kernel_rfl) (by kernel_rfl) (by intro _ _ _ h; exact h) (Or.inr ⟨by rfl, rfl⟩) ?_
        try simp only [Act.put, List.setIfInBounds_toArray, List.set_cons_zero, List.set_cons_succ]
        refine wpAny_take (i := 8) (v := undef) (by simp only [List.getElem?_toArray, List.getElem?_cons_succ, List.getElem?_cons_zero]; exact rfl) (by kernel_rfl) (by kernel_rfl) (by kernel_rfl) (by intro _ _ _ h; exact h) (Or.inr ⟨by rfl, rfl⟩) ?_
        try simp only [Act.put, List.setIfInBounds_toArray, List.set_cons_zero, List.set_cons_succ]
        refine wpAny_take (i := 9) (v := ?_) (by simp only [List.getElem?_toArray, List.getElem?_cons_succ, List.getElem?_cons_zero]; exact rfl) (by kernel_rfl) (by kernel_rfl) (by kernel_rfl) (by intro _ _ _ h; exact h) (Or.inl ⟨by rfl, ?_⟩) ?_
        rotate_left
        · intro wz; go_simp; with_reducible rfl
        try simp only [Act.put, List.setIfInBounds_toArray, List.set_cons_zero, List.set_cons_succ]
        refine wpAny_done (by kernel_rfl) ?_ _
        refine NoPanic.normal ?_
        go_wp2_with fail
        go_ret3
        refine ⟨?_, HWD.out.drew.drew⟩
        rw [HF.out true (fun h => absurd rfl h) (fun _ => Or.inl hc), if_pos rfl]
        rfl
      · have hc' : notZero R = false := by simpa using hc
        have HC := Lib.hid (contains_calls u12 R wr.drew.drew HRD.out.drew.drew (by have := HRL.out; omega))
        rw [hc'] at HC
        have HH := Lib.hid (head_calls N (.slice qa L L) D wr.drew.drew HDD.out.drew.drew (by omega) (by rw [HDL.out]; omega))
        rw [EN2.out] at HH
        have K0 : wr.drew.drew.rangeAt B 0 (first.map cb) := V_rangeV ((B4.out.ext E4.out).drew.drew)
        have hfl1 : (first.map cb).length = 64 := by rw [List.length_map]; exact HFL.out
        have hsz1 : (Try.prog.info? 146).map (·.size) = some (first.map cb).length := by rw [hfl1]; exact Try.size146
        have hu146 := Try.u146
        by_cases hd : headB x D = first
        · have hEq : ∀ w : World, (Op.equalIn 10000 146 (.agg (V cb (headB x D))) (.agg (first.map cb).toArray)).run Try.prog w = .ok true w := fun w => by
            rw [← V_eq, eq146 _ _ (headB_len _ _) HFL.out, decide_eq_true hd]
          have HDd := Lib.hid hd
          clear hd
          go_region_held3 (fun w' => w'.rangeAt B 0 (first.map cb)) (first | exact K1 | exact K0) (first
            | (go_at_call 142; refine HC.out.mono ?_; rintro e w5 ⟨rfl, rfl⟩)
            | (go_at_call 103; refine HH.out.mono ?_; rintro e w6 ⟨rfl, e6⟩
               have K1 : w6.rangeAt B 0 (first.map cb) := range_ext K0 e6
               have E6 := Lib.hid e6
               clear e6))
          go_wp2_with fail
          go_ret3
          refine ⟨?_, HWD.out.drew.drew.trans E6.out⟩
          rw [HF.out false (fun _ h => h.elim (fun h1 => hc h1) (fun h1 => h1 HDd.out)) (fun h => by cases h), if_neg (by decide)]
          exact ⟨_, rfl, HSP.out _ ((Ext.refl wr).drew.drew.trans E6.out)⟩
        · have hEq : ∀ w : World, (Op.equalIn 10000 146 (.agg (V cb (headB x D))) (.agg (first.map cb).toArray)).run Try.prog w = .ok false w := fun w => by
            rw [← V_eq, eq146 _ _ (headB_len _ _) HFL.out, decide_eq_false hd]
          have HDd := Lib.hid hd
          clear hd
          go_region_held3 (fun w' => w'.rangeAt B 0 (first.map cb)) (first | exact K1 | exact K0) (first
            | (go_at_call 142; refine HC.out.mono ?_; rintro e w5 ⟨rfl, rfl⟩)
            | (go_at_call 103; refine HH.out.mono ?_; rintro e w6 ⟨rfl, e6⟩
               have K1 : w6.rangeAt B 0 (first.map cb) := range_ext K0 e6
               have E6 := Lib.hid e6
               clear e6))
          go_wp2_with fail
          go_ret3
          refine ⟨?_, HWD.out.drew.drew.trans E6.out⟩
          rw [HF.out true (fun h => absurd rfl h) (fun _ => Or.inr HDd.out), if_pos rfl]
          rfl
end
end Go.Proofs.Ytjcbmlpfpcpakaa
