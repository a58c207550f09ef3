/- Layer 7 (dice): every step of a script, with whichever dice; the dice of a script. -/
import Derived.Test.YtaneknfhilfalaaK7e
namespace Go.Proofs.Ytaneknfhilfalaa
open Go.RowKit
set_option linter.unusedVariables false

theorem step_nil {w0 w : World} (h0 : Ext w0 w) (kd wh n : Int) (far : BitVec 64) (a : Option Addr) (c : Nat) (l : List (BitVec 64)) (hl : Rd w0 cw (.slice a l.length c) l) (hlm : l.length * 8 ≤ 140737488351232) :
    Calls Try.prog 35 #[.pointer none, .pointer none, .agg #[ci kd, ci wh, ci n, cw far, .slice a l.length c]] w fun e w' => e = .returned (.bool true) ∧ Ext w w' := by
  have hx := Ext.of_alloc (w := w) (.cells #[ci kd, ci wh, ci n, cw far, .slice a l.length c] 62)
  have HX := Lib.hid hx
  have HBX := Lib.hid (Blk.new w #[ci kd, ci wh, ci n, cw far, .slice a l.length c] 62)
  have HF := Lib.hid (fun w (h : Rd w cw (.slice a l.length c) l) => floats_calls _ l w h hlm)
  have H0 := Lib.hid h0
  have HL := Lib.hid hl
  have T1 := Lib.hid (fun w => same_calls (.slice none 0 0) (.slice none 0 0) [] [] w rd_nil rd_nil (by simp) (by simp))
  rw [show decide (([] : List Int) = []) = true by simp] at T1
  have htb := tobits 0
  have t3 : (decide (300 < n) = true ∧ decide (n ≤ 65536) = true) ∨ (decide (300 < n) = true ∧ decide (n ≤ 65536) = false) ∨ decide (300 < n) = false := by
    by_cases h : 300 < n
    · by_cases h2 : n ≤ 65536
      · exact Or.inl ⟨decide_eq_true h, decide_eq_true h2⟩
      · exact Or.inr (Or.inl ⟨decide_eq_true h, decide_eq_false h2⟩)
    · exact Or.inr (Or.inr (decide_eq_false h))
  clear hx h0 hl hlm
  by_cases h1 : kd = 1
  · subst h1
    clear t3
    go_enter Try.func35, Try.ntmps35
    go_wp2_with (first
      | (go_at_call 40; refine (rstate_nil _).mono ?_; rintro e w1 ⟨rfl, rfl⟩)
      | (go_at_call 22; refine (state_nil _).mono ?_; rintro e w1 ⟨rfl, rfl⟩)
      | fail)
    go_ret
    exact ⟨rfl, HX.out⟩
  by_cases h2 : kd = 2
  · subst h2
    clear t3 h1
    go_enter Try.func35, Try.ntmps35
    go_wp2_with (first
      | (go_at_call 41; refine (rnext_nil _).mono ?_; rintro e w1 ⟨rfl, rfl⟩)
      | (go_at_call 20; refine (next_nil _).mono ?_; rintro e w1 ⟨rfl, rfl⟩)
      | fail)
    go_ret
    exact ⟨rfl, HX.out⟩
  by_cases h3 : kd = 3
  · subst h3
    clear t3 h1 h2
    go_enter Try.func35, Try.ntmps35
    go_wp2_with (first
      | (go_at_call 42; refine (rjump_nil far _).mono ?_; rintro e w1 ⟨rfl, rfl⟩)
      | (go_at_call 28; refine (jump_nil far _).mono ?_; rintro e w1 ⟨rfl, rfl⟩)
      | fail)
    go_ret
    exact ⟨rfl, HX.out⟩
  by_cases h4 : kd = 4
  · subst h4
    clear t3 h1 h2 h3
    go_enter Try.func35, Try.ntmps35
    go_wp2_with (first
      | (go_at_call 43; refine (rroll_nil n _).mono ?_; rintro e w1 ⟨rfl, rfl⟩)
      | (go_at_call 23; refine (roll_nil n _).mono ?_; rintro e w1 ⟨rfl, rfl⟩)
      | fail)
    go_ret
    exact ⟨rfl, HX.out⟩
  by_cases h5 : kd = 5
  · subst h5
    clear t3 h1 h2 h3 h4
    go_enter Try.func35, Try.ntmps35
    go_wp2_with (first
      | (go_at_call 44; refine (rreal_nil _).mono ?_; rintro e w1 ⟨rfl, rfl⟩)
      | (go_at_call 27; refine (real_nil _).mono ?_; rintro e w1 ⟨rfl, rfl⟩)
      | fail)
    go_ret
    exact ⟨rfl, HX.out⟩
  by_cases h6 : kd = 6
  · subst h6
    clear h1 h2 h3 h4 h5
    rcases t3 with ⟨t1, t2⟩ | t3
    · go_enter Try.func35, Try.ntmps35
      go_wp2_with fail
      go_ret
      exact ⟨rfl, HX.out⟩
    rcases t3 with ⟨t1, t2⟩ | t1
    all_goals
      go_enter Try.func35, Try.ntmps35
      go_wp2_with (first
        | (go_at_call 46; refine (rshuffle_nil n _).mono ?_; rintro e w2 ⟨rfl, rfl⟩)
        | (go_at_call 29; refine (shuffle_nil n _).mono ?_; rintro e w2 ⟨rfl, rfl⟩)
        | (go_at_call 36; refine (T1.out _).mono ?_; rintro e w2 ⟨rfl, k2, hw2⟩
           have X2 := Lib.hid (show Ext (w.alloc (.cells #[ci 6, ci wh, ci n, cw far, .slice a l.length c] 62)) w2 by rw [← hw2]; exact (Ext.refl _).drewN k2)
           clear hw2)
        | fail)
      go_loopw [14] (fun iv wx => iv = ci 0 ∧ wx = w2) (fun iv _ => 0)
      case atStart => exact ⟨rfl, rfl⟩
      case round =>
        obtain ⟨rfl, rfl⟩ := hrel
        go_wp2_with fail
        go_ret
        exact ⟨rfl, HX.out.trans X2.out⟩
  by_cases h7 : kd = 7
  · subst h7
    clear t3 h1 h2 h3 h4 h5 h6
    have F1 := Lib.hid (HF.out _ ((H0.out.trans HX.out).rd HL.out))
    go_enter Try.func35, Try.ntmps35
    go_wp2_with (first
      | (go_at_call 30; refine F1.out.mono ?_; clear F1; rintro e w2 ⟨g0, c0, rfl, -, -, -, -, hh, he⟩
         have c4 : w2.cell? ⟨w.heap.size, 4, none⟩ = some (.slice a l.length c) := (HBX.out.ext he).cell 4
         have B2 := Lib.hid (HBX.out.ext he)
         have E2 := Lib.hid (HX.out.trans he)
         have F2 := Lib.hid (HF.out w2 ((H0.out.trans E2.out).rd HL.out))
         clear hh he)
      | (go_at_call 47; refine (rpick_nil _ _).mono ?_; rintro e w3 ⟨rfl, rfl⟩)
      | (go_at_call 30; refine F2.out.mono ?_; clear F2; rintro e w4 ⟨g1, c1, rfl, hc1, hc2, -, -, hh, he⟩
         have c5 : w4.cell? ⟨w.heap.size, 4, none⟩ = some (.slice a l.length c) := (B2.out.ext he).cell 4
         have E4 := Lib.hid (E2.out.trans he)
         have T5 := Lib.hid (kept_calls g1 c1 (.slice a l.length c) l w4 hh hc1 hc2 ((H0.out.trans E4.out).rd HL.out))
         clear hh he hc1 hc2 c4)
      | (go_at_call 31; refine (pick_nil _ _).mono ?_; rintro e w5 ⟨rfl, rfl⟩)
      | (go_at_call 48; refine T5.out.mono ?_; clear T5; rintro e w6 ⟨rfl, k6, hw6⟩
         have E6 := Lib.hid (show Ext w w6 by rw [← hw6]; exact E4.out.drewN k6)
         clear hw6)
      | fail)
    go_ret
    exact ⟨rfl, E6.out⟩
  · have b1 : (kd == 1) = false := by simpa using h1
    have b2 : (kd == 2) = false := by simpa using h2
    have b3 : (kd == 3) = false := by simpa using h3
    have b4 : (kd == 4) = false := by simpa using h4
    have b5 : (kd == 5) = false := by simpa using h5
    have b6 : (kd == 6) = false := by simpa using h6
    have b7 : (kd == 7) = false := by simpa using h7
    clear h1 h2 h3 h4 h5 h6 h7 t3
    go_enter Try.func35, Try.ntmps35
    go_wp2_with fail
    go_ret
    exact ⟨rfl, HX.out⟩
structure Sop where
  kind : Int
  which : Int
  n : Int
  far : BitVec 64
  wv : Value
  ws : List (BitVec 64)
structure Sop.ok (w : World) (o : Sop) : Prop where
  which : -9223372036854775808 ≤ o.which ∧ o.which ≤ 9223372036854775807
  n : -9223372036854775808 ≤ o.n ∧ o.n ≤ 9223372036854775807
  ws : Rd w cw o.wv o.ws
  len : o.ws.length * 8 ≤ 140737488351232
def opV (o : Sop) : Array Value := #[ci o.kind, ci o.which, ci o.n, cw o.far, o.wv]
/-- the dice of a script: where the program's lie, where the document's, and their common state -/
abbrev Tri := Nat × Nat × BitVec 64
structure Prs (w0 w : World) (P : List Tri) : Prop where
  ext : Ext w0 w
  at' : ∀ p ∈ P, DB w p.1 p.2.2 ∧ MB w p.2.1 p.2.2 ∧ w0.heap.size ≤ p.1 ∧ w0.heap.size ≤ p.2.1
  ap : P.Pairwise (fun p q => p.1 ≠ q.1 ∧ p.2.1 ≠ q.2.1)
theorem Prs.ext' {w0 w w' : World} {P : List Tri} (h : Prs w0 w P) (e : Ext w w') : Prs w0 w' P :=
  ⟨h.ext.trans e, fun p hp => ⟨Blk.ext (h.at' p hp).1 e, Blk.ext (h.at' p hp).2.1 e, (h.at' p hp).2.2⟩, h.ap⟩
/-- blocks of other types stay -/
def Oth (w w' : World) : Prop := ∀ b c t, Blk w b c t → t ≠ 69 → t ≠ 73 → Blk w' b c t
theorem Oth.of_ext {w w' : World} (h : Ext w w') : Oth w w' := fun b c t hb _ _ => hb.ext h
theorem pairwise_set {α : Type} {R : α → α → Prop} : ∀ (l : List α) (k : Nat) (x : α) (hk : k < l.length), (∀ y, R x y ↔ R l[k] y) → (∀ y, R y x ↔ R y l[k]) → l.Pairwise R → (l.set k x).Pairwise R
  | [], k, x, hk, _, _, _ => absurd hk (by simp)
  | a :: r, 0, x, hk, h1, h2, hp => by
    rw [List.pairwise_cons] at hp
    rw [List.set_cons_zero, List.pairwise_cons]
    exact ⟨fun y hy => (h1 y).2 (hp.1 y hy), hp.2⟩
  | a :: r, k + 1, x, hk, h1, h2, hp => by
    rw [List.pairwise_cons] at hp
    have hk' : k < r.length := by simpa using hk
    rw [List.set_cons_succ, List.pairwise_cons]
    refine ⟨fun y hy => ?_, pairwise_set r k x hk' (by simpa using h1) (by simpa using h2) hp.2⟩
    rcases List.mem_or_eq_of_mem_set hy with h | h
    · exact hp.1 y h
    · subst h
      exact (h2 a).2 (by simpa using hp.1 r[k] (List.getElem_mem _))
theorem pairwise_ne {α : Type} {R : α → α → Prop} {l : List α} (hp : l.Pairwise R) {i j : Nat} (hi : i < l.length) (hj : j < l.length) (h : i ≠ j) : R l[i] l[j] ∨ R l[j] l[i] := by
  rcases Nat.lt_or_gt_of_ne h with h | h
  · exact Or.inl (List.pairwise_iff_getElem.1 hp i j hi hj h)
  · exact Or.inr (List.pairwise_iff_getElem.1 hp j i hj hi h)
theorem Prs.set {w0 w w' : World} {P : List Tri} (h : Prs w0 w P) (k : Nat) (hk : k < P.length) (s' : BitVec 64) (hd : DB w' P[k].1 s') (hm : MB w' P[k].2.1 s') (kp : Kp w w' P[k].1 P[k].2.1) :
    Prs w0 w' (P.set k (P[k].1, P[k].2.1, s')) := by
  have hat := h.at' P[k] (List.getElem_mem _)
  refine ⟨h.ext.kp kp hat.2.2.1 hat.2.2.2, fun p hp => ?_, pairwise_set P k _ hk (fun y => Iff.rfl) (fun y => Iff.rfl) h.ap⟩
  obtain ⟨j, hj, hpj⟩ := List.getElem_of_mem hp
  have hj' : j < P.length := by simpa using hj
  by_cases e : k = j
  · subst e
    rw [List.getElem_set_self] at hpj
    subst hpj
    exact ⟨hd, hm, hat.2.2⟩
  · rw [List.getElem_set_ne e] at hpj
    subst hpj
    have hq := h.at' P[j] (List.getElem_mem _)
    have hne : P[j].1 ≠ P[k].1 ∧ P[j].2.1 ≠ P[k].2.1 := by
      rcases pairwise_ne h.ap hk hj' e with h | h
      · exact ⟨Ne.symm h.1, Ne.symm h.2⟩
      · exact h
    exact ⟨kp.blk hq.1 hne.1 (dm_ne hq.1 hat.2.1), kp.blk hq.2.1 (Ne.symm (dm_ne hat.1 hq.2.1)) hne.2, hq.2.2⟩
/-- pointers to the dice at a place; behind the last one: none -/
def pD (P : List Tri) (k : Nat) : Option Addr := (P[k]?).map fun p => ⟨p.1, 0, none⟩
def pM (P : List Tri) (k : Nat) : Option Addr := (P[k]?).map fun p => ⟨p.2.1, 0, none⟩
theorem Kp.oth {w w' : World} {g m : Nat} {s t : BitVec 64} (k : Kp w w' g m) (hd : DB w g s) (hm : MB w m t) : Oth w w' := fun b c T hb h1 h2 =>
  k.blk hb (fun e => by subst e; exact h1 (Blk.type hb hd)) (fun e => by subst e; exact h2 (Blk.type hb hm))
theorem step_any {w0 w : World} {g m : Nat} {s : BitVec 64} (h0 : Ext w0 w) (hg0 : w0.heap.size ≤ g) (hm0 : w0.heap.size ≤ m) (hd : DB w g s) (hm : MB w m s) (o : Sop) (ok : o.ok w0) :
    Calls Try.prog 35 #[.pointer (some ⟨g, 0, none⟩), .pointer (some ⟨m, 0, none⟩), .agg (opV o)] w fun e w' => e = .returned (.bool true) ∧ Aft w w' g m := by
  obtain ⟨kd, wh, n, far, wv, l⟩ := o
  obtain ⟨ok1, ok2, ok3, ok4⟩ := ok
  simp only at ok1 ok2 ok3 ok4
  obtain ⟨a, c, rfl, _⟩ := ok3.at
  unfold opV
  by_cases h1 : kd = 1
  · subst h1; exact step_state hd hm wh n far a l.length c
  by_cases h2 : kd = 2
  · subst h2; exact step_next hd hm wh n far a l.length c
  by_cases h3 : kd = 3
  · subst h3; exact step_jump hd hm wh n far a l.length c
  by_cases h4 : kd = 4
  · subst h4; exact step_roll hd hm wh n far a l.length c ok2
  by_cases h5 : kd = 5
  · subst h5; exact step_real hd hm wh n far a l.length c
  by_cases h6 : kd = 6
  · subst h6; exact step_shuffle hd hm wh n far a l.length c ok2
  by_cases h7 : kd = 7
  · subst h7; exact step_pick h0 hg0 hm0 hd hm wh n far a c l ok3 ok4
  · exact step_other hd hm wh n far a l.length c kd ⟨h1, h2, h3, h4, h5, h6, h7⟩
theorem Prs.step {w0 w : World} {P : List Tri} (h : Prs w0 w P) (k : Nat) (o : Sop) (ok : o.ok w0) :
    Calls Try.prog 35 #[.pointer (pD P k), .pointer (pM P k), .agg (opV o)] w fun e w' => e = .returned (.bool true) ∧ Oth w w' ∧ ∃ P', Prs w0 w' P' ∧ P'.length = P.length ∧ (∀ j, pD P' j = pD P j) ∧ ∀ j, pM P' j = pM P j := by
  by_cases hk : k < P.length
  · have hat := h.at' P[k] (List.getElem_mem _)
    unfold pD pM
    rw [List.getElem?_eq_getElem hk]
    refine (step_any h.ext hat.2.2.1 hat.2.2.2 hat.1 hat.2.1 o ok).mono fun e w' ⟨h1, s', h2, h3, h4⟩ => ⟨h1, h4.oth hat.1 hat.2.1, _, h.set k hk s' h2 h3 h4, by simp, fun j => ?_, fun j => ?_⟩
    · rw [List.getElem?_set]
      split
      · rename_i e; subst e; rw [List.getElem?_eq_getElem hk]; rfl
      · rfl
    · rw [List.getElem?_set]
      split
      · rename_i e; subst e; rw [List.getElem?_eq_getElem hk]; rfl
      · rfl
  · unfold pD pM
    rw [List.getElem?_eq_none (by omega)]
    obtain ⟨kd, wh, n, far, wv, l⟩ := o
    obtain ⟨ok1, ok2, ok3, ok4⟩ := ok
    simp only at ok1 ok2 ok3 ok4
    obtain ⟨a, c, rfl, _⟩ := ok3.at
    exact (step_nil h.ext kd wh n far a c l ok3 ok4).mono fun e w' ⟨h1, h2⟩ => ⟨h1, Oth.of_ext h2, P, h.ext' h2, rfl, fun _ => rfl, fun _ => rfl⟩
end Go.Proofs.Ytaneknfhilfalaa
