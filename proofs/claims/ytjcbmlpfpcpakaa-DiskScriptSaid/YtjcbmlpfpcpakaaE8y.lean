/- Layer 8 (disk): DiskScript's walk. -/
import Derived.Test.YtjcbmlpfpcpakaaE8x
namespace Go.Proofs.Ytjcbmlpfpcpakaa
open Go.RowKit
set_option linter.unusedVariables false
theorem Pr.keep {w0 w w' : World} {qa qm : Option Addr} {K : Nat → Prop} {j b : Nat} (h : Pr w0 w qa qm K j) (k : w.grownBy w' (some b)) (h1 : w0.heap.size ≤ b) (h2 : ∀ y, K y → y ≠ b) : Pr w0 w' qa qm K j :=
  h.only (grown_only' k) (fun y hy => by subst hy; exact h1) (fun y hy e => h2 y hy e)
/-- the pair of new disks and the pair of loaded ones -/
structure Made (w0 w : World) (qa qb qx qy : Option Addr) (K0 K1 : Nat → Prop) : Prop where
  p0 : Pr w0 w qa qx K0 0
  p1 : Pr w0 w qb qy K1 0
  d : ∀ k, K0 k → ¬ K1 k
theorem Made.ext {w0 w w' : World} {qa qb qx qy : Option Addr} {K0 K1 : Nat → Prop} (h : Made w0 w qa qb qx qy K0 K1) (e : Ext w w') : Made w0 w' qa qb qx qy K0 K1 := ⟨h.p0.ext e, h.p1.ext e, h.d⟩
theorem Made.lists {w0 w w' : World} {qa qb qx qy : Option Addr} {K0 K1 : Nat → Prop} {ad am : Nat} (h : Made w0 w qa qb qx qy K0 K1) (e : Ext w w') (h1 : w.heap.size ≤ ad) (h2 : w.heap.size ≤ am)
    (ha : Blk w' ad #[.pointer qa, .pointer qb, .pointer none] 28) (hm : Blk w' am #[.pointer qx, .pointer qy, .pointer none] 53) : Two w0 w' qa qb qx qy K0 K1 ad am 0 :=
  ⟨h.p0.ext e, h.p1.ext e, h.d, ha, hm, fun k hk => by
    rcases hk with hk | hk
    · have := (h.p0.lt k hk).1; exact ⟨by omega, by omega⟩
    · have := (h.p1.lt k hk).1; exact ⟨by omega, by omega⟩⟩
def newP (n : Int) (w : World) (x : Option Addr) (r : Int) (w' : World) : Prop := ((n < 1 ∨ 65536 < n) ∧ x = none ∧ r = 2) ∨ ∃ k : Nat, n = k ∧ 1 ≤ k ∧ k ≤ 65536 ∧ x = some ⟨w.heap.size + 1, 0, none⟩ ∧ r = 0 ∧ DB w' w.heap.size (w.heap.size + 1) w.heap.size (.slice none 0 0) (newD k)
def rnewP (n : Int) (w : World) (x : Option Addr) (r : Int) (w' : World) : Prop := ((n < 1 ∨ 65536 < n) ∧ x = none ∧ r = 2) ∨ ∃ k : Nat, n = k ∧ 1 ≤ k ∧ k ≤ 65536 ∧ x = some ⟨w.heap.size + 1, 0, none⟩ ∧ r = 0 ∧ RB w' w.heap.size (w.heap.size + 1) w.heap.size (64 * k) (.slice none 0 0) [] k (List.replicate (64 * k) 0#8) (-1) 0 0
def loadP (img : List (BitVec 8)) (w : World) (x : Option Addr) (r : Int) (w' : World) : Prop := (badI img ∧ x = none ∧ r = 82) ∨ ∃ k : Nat, img.length = 64 * k ∧ 1 ≤ k ∧ k ≤ 65536 ∧ x = some ⟨w.heap.size + 1, 0, none⟩ ∧ r = 0 ∧ DB w' w.heap.size (w.heap.size + 1) w.heap.size (.slice none 0 0) ⟨k, img, [], false, 0, 0, 0⟩
def rloadP (img : List (BitVec 8)) (w : World) (x : Option Addr) (r : Int) (w' : World) : Prop := (badI img ∧ x = none ∧ r = 82) ∨ ∃ k g sb sc : Nat, img.length = 64 * k ∧ 1 ≤ k ∧ k ≤ 65536 ∧ x = some ⟨g, 0, none⟩ ∧ r = 0 ∧ w.heap.size ≤ g ∧ w.heap.size ≤ sb ∧ RB w' w.heap.size g sb sc (.slice none 0 0) [] k img (-1) 0 0
theorem new_any' (n : Int) (w : World) : Calls Try.prog 24 #[ci n] w fun e w' => ∃ qa r, e = .returned (.tuple #[.pointer qa, ci r]) ∧ Ext w w' ∧ newP n w qa r w' := new_any n w
theorem rnew_any' (n : Int) (w : World) : Calls Try.prog 39 #[ci n] w fun e w' => ∃ qa r, e = .returned (.tuple #[.pointer qa, ci r]) ∧ Ext w w' ∧ rnewP n w qa r w' := rnew_any n w
theorem load_any' (b N : Nat) (img : List (BitVec 8)) (hN : img.length = N) (w : World) (hl : LentAt w b img) (hm : N ≤ 140737488351232) : Calls Try.prog 36 #[.slice (some ⟨b, 0, none⟩) N (N + 3)] w fun e w' => ∃ qa r, e = .returned (.tuple #[.pointer qa, ci r]) ∧ Ext w w' ∧ loadP img w qa r w' := load_any b N img hN w hl hm
theorem rload_any' (ia : Option Addr) (ic N : Nat) (img : List (BitVec 8)) (hN : img.length = N) (w : World) (hl : Rd w cb (.slice ia N ic) img) (hm : N ≤ 140737488351232) : Calls Try.prog 40 #[.slice ia N ic] w fun e w' => ∃ qa r, e = .returned (.tuple #[.pointer qa, ci r]) ∧ Ext w w' ∧ rloadP img w qa r w' := rload_any ia ic N img hN w hl hm
/-- both made, or neither: the answers are the same -/
theorem new_both {n : Int} {w0 w1 w2 w3 w4 : World} {x y : Option Addr} {r q : Int} (h0 : Ext w0 w1) (h : newP n w1 x r w2) (e1 : Ext w1 w2) (e2 : Ext w2 w3) (k : rnewP n w3 y q w4) (e : Ext w3 w4) :
    r = q ∧ (x = none ↔ y = none) ∧ ∃ K, Pr w0 w4 x y K 0 ∧ ∀ k, K k → (w1.heap.size ≤ k ∧ k < w2.heap.size) ∨ (w3.heap.size ≤ k ∧ k < w4.heap.size) := by
  have z1 := e1.size
  have z2 := e2.size
  have z3 := e.size
  have z0 := h0.size
  rcases h with ⟨hb, rfl, rfl⟩ | ⟨m, rfl, m1, m2, rfl, rfl, hd⟩
  · rcases k with ⟨_, rfl, rfl⟩ | ⟨m, rfl, m1, m2, rfl, rfl, hd⟩
    · exact ⟨rfl, Iff.rfl, fun _ => False, pr_none (((h0.trans e1).trans e2).trans e), fun k hk => hk.elim⟩
    · omega
  · rcases k with ⟨hb, rfl, rfl⟩ | ⟨m', hm, m3, m4, rfl, rfl, hr⟩
    · omega
    · have : m' = m := by omega
      subst this
      have l1 := hd.b.lt
      have l2 := hd.s.lt
      have l3 := hr.b.lt
      have l4 := hr.s.lt
      refine ⟨rfl, ⟨(fun h => by cases h), (fun h => by cases h)⟩, _, pr_made (((h0.trans e1).trans e2).trans e) (hd.ext (e2.trans e)) hr ⟨by omega, by omega, by omega, by omega⟩, fun k hk => ?_⟩
      rcases hk with hk | hk
      · rcases hk with rfl | rfl | hk
        · exact Or.inl ⟨by omega, by omega⟩
        · exact Or.inl ⟨by omega, by omega⟩
        · cases hk
      · rcases hk with rfl | rfl | hk | ⟨x, hx, hk⟩
        · exact Or.inr ⟨by omega, by omega⟩
        · exact Or.inr ⟨by omega, by omega⟩
        · cases hk
        · cases hx
theorem load_both {img : List (BitVec 8)} {w0 w1 w2 w3 w4 : World} {x y : Option Addr} {r q : Int} (h0 : Ext w0 w1) (h : loadP img w1 x r w2) (e1 : Ext w1 w2) (e2 : Ext w2 w3) (k : rloadP img w3 y q w4) (e : Ext w3 w4) :
    r = q ∧ (x = none ↔ y = none) ∧ ∃ K, Pr w0 w4 x y K 0 ∧ ∀ k, K k → (w1.heap.size ≤ k ∧ k < w2.heap.size) ∨ (w3.heap.size ≤ k ∧ k < w4.heap.size) := by
  have z1 := e1.size
  have z2 := e2.size
  have z3 := e.size
  have z0 := h0.size
  rcases h with ⟨hb, rfl, rfl⟩ | ⟨m, hm, m1, m2, rfl, rfl, hd⟩
  · rcases k with ⟨_, rfl, rfl⟩ | ⟨m, g, sb, sc, hm, m1, m2, rfl, rfl, _, _, hd⟩
    · exact ⟨rfl, Iff.rfl, fun _ => False, pr_none (((h0.trans e1).trans e2).trans e), fun k hk => hk.elim⟩
    · unfold badI at hb; omega
  · rcases k with ⟨hb, rfl, rfl⟩ | ⟨m', g, sb, sc, hm', m3, m4, rfl, rfl, g1, g2, hr⟩
    · unfold badI at hb; omega
    · have : m' = m := by omega
      subst this
      have l1 := hd.b.lt
      have l2 := hd.s.lt
      have l3 := hr.b.lt
      have l4 := hr.s.lt
      refine ⟨rfl, ⟨(fun h => by cases h), (fun h => by cases h)⟩, _, pr_made (((h0.trans e1).trans e2).trans e) (hd.ext (e2.trans e)) hr ⟨by omega, by omega, by omega, by omega⟩, fun k hk => ?_⟩
      rcases hk with hk | hk
      · rcases hk with rfl | rfl | hk
        · exact Or.inl ⟨by omega, by omega⟩
        · exact Or.inl ⟨by omega, by omega⟩
        · cases hk
      · rcases hk with rfl | rfl | hk | ⟨x, hx, hk⟩
        · exact Or.inr ⟨by omega, by omega⟩
        · exact Or.inr ⟨by omega, by omega⟩
        · cases hk
        · cases hx
theorem Two.ask {w0 w : World} {qa qb qx qy : Option Addr} {K0 K1 : Nat → Prop} {ad am j : Nat} (h : Two w0 w qa qb qx qy K0 K1 ad am j) (hjb : (j + 1) * 72 ≤ 140737488355328) (i : Nat) (hi : i < 3) (c : Int) (hc : 0 ≤ c ∧ c ≤ 9) :
    Calls Try.prog 42 #[.pointer (pick3 i qa qb), .pointer (pick3 i qx qy), .agg #[ci 0, ci c, ci 0, .slice none 0 0, .slice none 0 0, ci 0, ci 0]] w fun e w' => e = .returned (.bool true) ∧ (∃ K0' K1', Two w0 w' qa qb qx qy K0' K1' ad am (j + 1)) ∧ w'.cell? ⟨ad, i, none⟩ = some (.pointer (pick3 i qa qb)) ∧ w'.cell? ⟨am, i, none⟩ = some (.pointer (pick3 i qx qy)) :=
  (h.step hjb ⟨0, c, 0, .slice none 0 0, [], .slice none 0 0, [], 0, 0⟩ ⟨⟨by show _ ≤ c; omega, by show c ≤ _; omega⟩, (show (-9223372036854775808 : Int) ≤ 0 ∧ (0 : Int) ≤ 9223372036854775807 by decide), (show (-9223372036854775808 : Int) ≤ 0 ∧ (0 : Int) ≤ 9223372036854775807 by decide), (show (-9223372036854775808 : Int) ≤ 0 ∧ (0 : Int) ≤ 9223372036854775807 by decide), (show (-9223372036854775808 : Int) ≤ 0 ∧ (0 : Int) ≤ 9223372036854775807 by decide), Or.inl ⟨_, _, rfl, rfl, fun _ => rfl⟩, Nat.zero_le _, Or.inl ⟨_, _, rfl, rfl, fun _ => rfl⟩, Nat.zero_le _⟩ (Nat.zero_le _) i hi).mono fun e w' ⟨h1, ⟨a, b, h2⟩, _⟩ => ⟨h1, ⟨a, b, h2⟩, h2.cells i hi⟩
theorem blk_two (w : World) (a c : Array Value) (s t : TypeId) : Blk ((w.alloc (.cells a s)).alloc (.cells c t)) (w.heap.size + 1) c t := by
  have e : (w.alloc (.cells a s)).heap.size = w.heap.size + 1 := Array.size_push _
  rw [← e]
  exact Blk.new _ _ t
theorem lent_n (sv : Value) (p : List (BitVec 8)) (N : Nat) (hN : p.length = N) (w : World) (hp : Rd w cb sv p) (hm : N ≤ 140737488351232) :
    Calls Try.prog 28 #[sv] w fun e w' => e = .returned (.slice (some ⟨w.heap.size, 0, none⟩) N (N + 3)) ∧ LentAt w' w.heap.size p ∧ Ext w w' ∧ w.heap.size < w'.heap.size := by
  subst hN
  exact lent_calls sv p w hp hm
theorem kept_n (g : Nat) (l : List (BitVec 8)) (N : Nat) (hN : l.length = N) (sv : Value) (w : World) (hl : LentAt w g l) (hp : Rd w cb sv l) (hml : N ≤ 140737488351232) :
    Calls Try.prog 41 #[.slice (some ⟨g, 0, none⟩) N (N + 3), sv] w fun e w' => e = .returned (.bool true) ∧ ∃ n, w.drewN n = w' := by
  subst hN
  exact kept_at g l sv w hl hp hml
theorem over_n (g : Nat) (l : List (BitVec 8)) (N : Nat) (hN : l.length = N) (w : World) (hl : LentAt w g l) (hml : N ≤ 140737488351232) :
    Calls Try.prog 37 #[.slice (some ⟨g, 0, none⟩) N (N + 3)] w fun e w' => e = .returned (.tuple #[]) ∧ w.grownBy w' (some g) := by
  subst hN
  exact over_spn _ _ _ l 5 w (hl.spn hml) rfl (by omega)
set_option maxRecDepth 100000 in
set_option maxHeartbeats 4000000 in
theorem script_calls {w : World} (n : Int) (ia : Option Addr) (ic N : Nat) (img : List (BitVec 8)) (hN : img.length = N) (sv : Value) (l : List Dop) (hi : Rd w cb (.slice ia N ic) img) (him : N ≤ 140737488351232) (hs : RdO w sv l) (hok : ∀ o ∈ l, o.ok w ∧ o.keep.length ≤ 140737488351232) (hl : l.length * 88 ≤ 140737488351232) :
    Calls Try.prog 6 #[ci n, .slice ia N ic, sv] w fun e w' => e = .returned (.bool true) ∧ Ext w w' := by
  obtain ⟨sa, sc, rfl, hsv⟩ := hs.form
  have HI := Lib.hid hi
  have HM := Lib.hid him
  have HN := Lib.hid hN
  have HSV := Lib.hid hsv
  have HOK := Lib.hid hok
  have HL := Lib.hid hl
  have hll : (l.length : Int) ≤ 9223372036854775807 := by omega
  clear hi him hs hok hl hN hsv
  go_enter Try.func6, Try.ntmps6
  go_upto_region 6 with (first
    | (go_at_call 28; refine (lent_n _ img N HN.out w HI.out HM.out).mono ?_
       rintro e w1 ⟨rfl, q, x, lt⟩
       have L1 := Lib.hid q
       have X1 := Lib.hid x
       have Z1 := Lib.hid lt
       clear q x lt)
    | (go_at_call 24; refine (new_any' _ _).mono ?_
       rintro e w2 ⟨qa, r1, rfl, x, h⟩
       have X2 := Lib.hid x
       have N2 := Lib.hid h
       clear x h)
    | (go_at_call 36; refine (load_any' _ _ img HN.out _ (L1.out.ext X2.out) HM.out).mono ?_
       rintro e w3 ⟨qb, r2, rfl, x, h⟩
       have X3 := Lib.hid x
       have N3 := Lib.hid h
       clear x h)
    | (go_at_call 39; refine (rnew_any' _ _).mono ?_
       rintro e w4 ⟨qx, r3, rfl, x, h⟩
       have X4 := Lib.hid x
       have N4 := Lib.hid h
       clear x h)
    | (go_at_call 40; refine (rload_any' _ _ _ img HN.out _ (((((X1.out.trans X2.out).trans X3.out).trans X4.out)).rd HI.out) HM.out).mono ?_
       rintro e w5 ⟨qy, r4, rfl, x, h⟩
       have X5 := Lib.hid x
       have N5 := Lib.hid h
       clear x h)
    | fail)
  obtain ⟨h1, h2, K0, p0, b0⟩ := new_both X1.out N2.out X2.out X3.out N4.out X4.out
  obtain ⟨h3, h4, K1, p1, b1⟩ := load_both (X1.out.trans X2.out) N3.out X3.out X4.out N5.out X5.out
  have hd01 : ∀ k, K0 k → ¬ K1 k := fun k hk hk' => by
    have z3 := X3.out.size
    have z4 := X4.out.size
    have z2 := X2.out.size
    rcases b0 k hk with h | h <;> rcases b1 k hk' with h' | h' <;> omega
  have M5 : Hid (Made w w5 qa qb qx qy K0 K1) := ⟨p0.ext X5.out, p1, hd01⟩
  have L5 : Hid (LentAt w5 w.heap.size img) := (((L1.out.ext X2.out).ext X3.out).ext X4.out).ext X5.out
  have X05 : Hid (Ext w w5) := M5.out.p0.1
  have A5 : Hid (∀ k, (K0 k ∨ K1 k) → k ≠ w.heap.size) := fun k hk => by
    have z1 := Z1.out
    have z2 := X2.out.size
    have z3 := X3.out.size
    have z4 := X4.out.size
    rcases hk with hk | hk
    · rcases b0 k hk with h | h <;> omega
    · rcases b1 k hk with h | h <;> omega
  subst h1 h3
  clear p0 b0 p1 b1 hd01 N2 N3 N4 N5 X1 X2 X3 X4 X5 L1 Z1
  go_cut [74] (fun v wx => v = .bool false ∧ Hid (Ext w5 wx))
  case first =>
    rcases qa with _ | qa <;> rcases qx with _ | qx
    · rcases qb with _ | qb <;> rcases qy with _ | qy
      · clear h2 h4 M5 A5
        go_wp2_with (first
          | (go_at_call 25; refine (num_calls _ _).mono ?_; rintro e w99 ⟨rfl, rfl⟩)
          | (go_at_call 41; refine (kept_n _ img N HN.out _ w5 L5.out (X05.out.rd HI.out) HM.out).mono ?_
             rintro e w6 ⟨rfl, n6, h6⟩
             have X6 : Hid (Ext w5 w6) := by rw [← h6]; exact (Ext.refl w5).drewN n6
             clear h6)
          | fail)
        go_meet
        exact ⟨rfl, X6⟩
      · exact absurd (h4.1 rfl) (by simp)
      · exact absurd (h4.2 rfl) (by simp)
      · clear h2 h4 M5 A5
        go_wp2_with (first
          | (go_at_call 25; refine (num_calls _ _).mono ?_; rintro e w99 ⟨rfl, rfl⟩)
          | (go_at_call 41; refine (kept_n _ img N HN.out _ w5 L5.out (X05.out.rd HI.out) HM.out).mono ?_
             rintro e w6 ⟨rfl, n6, h6⟩
             have X6 : Hid (Ext w5 w6) := by rw [← h6]; exact (Ext.refl w5).drewN n6
             clear h6)
          | fail)
        go_meet
        exact ⟨rfl, X6⟩
    · exact absurd (h2.1 rfl) (by simp)
    · exact absurd (h2.2 rfl) (by simp)
    · rcases qb with _ | qb <;> rcases qy with _ | qy
      · clear h2 h4 M5 A5
        go_wp2_with (first
          | (go_at_call 25; refine (num_calls _ _).mono ?_; rintro e w99 ⟨rfl, rfl⟩)
          | (go_at_call 41; refine (kept_n _ img N HN.out _ w5 L5.out (X05.out.rd HI.out) HM.out).mono ?_
             rintro e w6 ⟨rfl, n6, h6⟩
             have X6 : Hid (Ext w5 w6) := by rw [← h6]; exact (Ext.refl w5).drewN n6
             clear h6)
          | fail)
        go_meet
        exact ⟨rfl, X6⟩
      · exact absurd (h4.1 rfl) (by simp)
      · exact absurd (h4.2 rfl) (by simp)
      · clear h2 h4 M5 A5
        go_wp2_with (first
          | (go_at_call 25; refine (num_calls _ _).mono ?_; rintro e w99 ⟨rfl, rfl⟩)
          | (go_at_call 41; refine (kept_n _ img N HN.out _ w5 L5.out (X05.out.rd HI.out) HM.out).mono ?_
             rintro e w6 ⟨rfl, n6, h6⟩
             have X6 : Hid (Ext w5 w6) := by rw [← h6]; exact (Ext.refl w5).drewN n6
             clear h6)
          | fail)
        go_meet
        exact ⟨rfl, X6⟩
  case rest =>
    obtain ⟨rfl, h6⟩ := hcut
    have X6 := Lib.hid (X05.out.trans h6.out)
    have M6 := Lib.hid (M5.out.ext h6.out)
    have L6 := Lib.hid (show LentAt wc _ img from L5.out.ext h6.out)
    clear h6 M5 L5 X05 h2 h4
    go_upto_region 11 with (first
      | (go_at_call 37; refine (over_n _ img N HN.out wc L6.out HM.out).mono ?_
         rintro e w7 ⟨rfl, k⟩
         have K7 := Lib.hid k
         clear k)
      | fail)
    have M7 : Hid (Made w w7 qa qb qx qy K0 K1) := ⟨M6.out.p0.keep K7.out (Nat.le_refl _) (fun y hy => A5.out y (Or.inl hy)), M6.out.p1.keep K7.out (Nat.le_refl _) (fun y hy => A5.out y (Or.inr hy)), M6.out.d⟩
    clear M6 K7 A5 L6 X6
    go_upto_region 13 with (fail)
    have T8 : Hid (Two w ((w7.alloc (.cells #[.pointer qa, .pointer qb, .pointer none] 28)).alloc (.cells #[.pointer qx, .pointer qy, .pointer none] 53)) qa qb qx qy K0 K1 w7.heap.size (w7.heap.size + 1) 0) :=
      M7.out.lists ((Ext.of_alloc _).alloc _) (Nat.le_refl _) (Nat.le_succ _) ((Blk.new w7 _ 28).alloc _) (blk_two w7 _ _ 28 53)
    generalize (w7.alloc (.cells #[.pointer qa, .pointer qb, .pointer none] 28)).alloc (.cells #[.pointer qx, .pointer qy, .pointer none] 53) = w8 at *
    generalize w7.heap.size + 1 = am at *
    generalize w7.heap.size = ad at *
    clear M7
    go_wp2_with fail
    go_loopw [20] (fun iv wx => ∃ (k : Nat) (K0 K1 : Nat → Prop), k ≤ l.length ∧ iv = ci k ∧ Hid (Two w wx qa qb qx qy K0 K1 ad am k)) (fun iv _ => ((l.length : Int) - intOf iv).toNat)
    case atStart => exact ⟨0, K0, K1, Nat.zero_le _, rfl, T8⟩
    case round =>
      clear T8 K0 K1
      obtain ⟨k, K0, K1, hk, rfl, hU⟩ := hrel
      by_cases hlt : k < l.length
      · have hlt' : (k : Int) < l.length := by omega
        obtain ⟨b1, o1, rfl, hop⟩ := HSV.out k hlt
        have HP := Lib.hid (HOK.out l[k] (List.getElem_mem hlt))
        generalize l[k] = p at *
        have hop' := Lib.hid (hop.ext hU.out.p0.1).range
        have hkb : Hid ((k + 1) * 72 ≤ 140737488355328) := by have := HL.out; show _ ≤ _; omega
        clear hop
        go_upto_region 17 with (first
          | (guard_target =~ wpList _ _ _ (Oper.mk _ (.load 60 _) _ _ _ _ :: _) _ _; refine wpList_load_row A60 rfl _ rfl b1 (o1 + k * 7) rfl (opL p) rfl hop'.out ?_)
          | (guard_target =~ wpList _ _ _ (Oper.mk _ (.alloc 60) _ _ _ _ :: _) _ _; refine wpList_make_row A60 rfl rfl rfl _ _ rfl rfl (opL p) rfl (opL_one HP.out.1) rfl ?_
             intro w3 E3 B3
             have HB3 := Lib.hid B3
             have P3 := Lib.hid (hU.out.ext E3)
             have hne : Hid (¬ K0 wr.heap.size ∧ ¬ K1 wr.heap.size) := ⟨fun hm => by have := (hU.out.p0.lt _ hm).1; omega, fun hm => by have := (hU.out.p1.lt _ hm).1; omega⟩
             clear E3 B3)
          | fail)
        generalize wr.heap.size = ob at *
        have y0 : w3.cell? ⟨ob, 0, none⟩ = some (ci p.who) := HB3.out.cell 0
        obtain ⟨wo, hwo⟩ : ∃ wo, p.who = wo := ⟨_, rfl⟩
        rw [hwo] at y0
        clear hop' hU
        by_cases hlo : wo < 0
        · have t1 : decide (wo < 0) = true := decide_eq_true hlo
          clear hwo
          go_wp2_with fail
          exact ⟨⟨k + 1, K0, K1, hlt, by simp, Lib.hid P3.out.up⟩, by simp only [intOf]; omega⟩
        · have t1 : decide (wo < 0) = false := decide_eq_false hlo
          by_cases hhi : 2 < wo
          · have t2 : decide (2 < wo) = true := decide_eq_true hhi
            clear hwo
            go_wp2_with fail
            exact ⟨⟨k + 1, K0, K1, hlt, by simp, Lib.hid P3.out.up⟩, by simp only [intOf]; omega⟩
          · have t2 : decide (2 < wo) = false := decide_eq_false hhi
            obtain ⟨i, hi⟩ : ∃ i : Nat, wo = i := ⟨wo.toNat, by omega⟩
            subst hi
            have hi3 : i < 3 := by omega
            have hi3' : (i : Int) < 3 := by omega
            have hi0 : (0 : Int) ≤ i := by omega
            go_upto_region 18 with (fail)
            have hop : opC p = #[ci i, ci p.kind, ci p.n, p.dv, p.kv, ci p.torn, ci p.cut] := by unfold opC; rw [hwo]
            have hol : (opL p).toArray = #[ci i, ci p.kind, ci p.n, p.dv, p.kv, ci p.torn, ci p.cut] := by unfold opL; rw [hwo]
            rw [hol] at HB3
            generalize hpa : pick3 i qa qb = va at *
            generalize hpm : pick3 i qx qy = vm at *
            have CB : ∀ w', Blk w' ob #[ci i, ci p.kind, ci p.n, p.dv, p.kv, ci p.torn, ci p.cut] 60 → (∃ K0 K1, Two w w' qa qb qx qy K0 K1 ad am (k + 1)) → w'.cell? ⟨ob, 0, none⟩ = some (ci i) ∧ w'.cell? ⟨ob, 1, none⟩ = some (ci p.kind) ∧ w'.cell? ⟨ob, 2, none⟩ = some (ci p.n) ∧ w'.cell? ⟨ob, 3, none⟩ = some (p.dv) ∧ w'.cell? ⟨ob, 4, none⟩ = some (p.kv) ∧ w'.cell? ⟨ob, 5, none⟩ = some (ci p.torn) ∧ w'.cell? ⟨ob, 6, none⟩ = some (ci p.cut) ∧ w'.cell? ⟨ad, i, none⟩ = some (.pointer va) ∧ w'.cell? ⟨am, i, none⟩ = some (.pointer vm) := fun w' hb ⟨K0, K1, h⟩ => by
              have hc := h.cells i hi3
              rw [hpa, hpm] at hc
              exact ⟨hb.cell 0, hb.cell 1, hb.cell 2, hb.cell 3, hb.cell 4, hb.cell 5, hb.cell 6, hc.1, hc.2⟩
            have K9 := CB w3 HB3.out ⟨K0, K1, P3.out.up⟩
            have HS : Hid (Calls Try.prog 42 #[.pointer va, .pointer vm, .agg #[ci i, ci p.kind, ci p.n, p.dv, p.kv, ci p.torn, ci p.cut]] w3.drew fun e w' => e = .returned (.bool true) ∧ (∃ K0' K1', Two w w' qa qb qx qy K0' K1' ad am (k + 1)) ∧ w'.cell? ⟨ob, 0, none⟩ = some (ci i) ∧ w'.cell? ⟨ob, 1, none⟩ = some (ci p.kind) ∧ w'.cell? ⟨ob, 2, none⟩ = some (ci p.n) ∧ w'.cell? ⟨ob, 3, none⟩ = some (p.dv) ∧ w'.cell? ⟨ob, 4, none⟩ = some (p.kv) ∧ w'.cell? ⟨ob, 5, none⟩ = some (ci p.torn) ∧ w'.cell? ⟨ob, 6, none⟩ = some (ci p.cut) ∧ w'.cell? ⟨ad, i, none⟩ = some (.pointer va) ∧ w'.cell? ⟨am, i, none⟩ = some (.pointer vm)) := by
              have h := ((P3.out.ext ((Ext.refl w3).drew)).step hkb.out p HP.out.1 HP.out.2 i hi3)
              rw [hpa, hpm, hop] at h
              exact h.mono fun e w' ⟨h1, h2, h3⟩ => ⟨h1, h2, CB w' (h3 _ _ _ (HB3.out.ext ((Ext.refl w3).drew)) hne.out) h2⟩
            clear y0 hwo hop hol CB hpa hpm HP HB3 hne P3
            generalize p.kind = c1 at *
            generalize p.n = c2 at *
            generalize p.dv = c3 at *
            generalize p.kv = c4 at *
            generalize p.torn = c5 at *
            generalize p.cut = c6 at *
            go_region_held3 (fun w' => w'.cell? ⟨ob, 0, none⟩ = some (ci i) ∧ w'.cell? ⟨ob, 1, none⟩ = some (ci c1) ∧ w'.cell? ⟨ob, 2, none⟩ = some (ci c2) ∧ w'.cell? ⟨ob, 3, none⟩ = some (c3) ∧ w'.cell? ⟨ob, 4, none⟩ = some (c4) ∧ w'.cell? ⟨ob, 5, none⟩ = some (ci c5) ∧ w'.cell? ⟨ob, 6, none⟩ = some (ci c6) ∧ w'.cell? ⟨ad, i, none⟩ = some (.pointer va) ∧ w'.cell? ⟨am, i, none⟩ = some (.pointer vm)) (first | exact K10 | exact K9)
              (first
                | (go_at_call 42; refine HS.out.mono ?_
                   rintro e w4 ⟨rfl, ⟨K0', K1', q1⟩, K10⟩
                   have P4 := Lib.hid q1
                   clear q1))
            all_goals go_wp2_with fail
            all_goals exact ⟨⟨k + 1, K0', K1', hlt, by simp, P4⟩, by simp only [intOf]; omega⟩
      · have hek : k = l.length := by omega
        subst hek
        have T9 := hU
        have hkb : Hid (∀ c, c ≤ 9 → (l.length + c + 1) * 72 ≤ 140737488355328) := fun c hc => by have := HL.out; omega
        clear hU hlt
        go_wp2_with fail
        go_loopw [22] (fun iv wx => ∃ (i : Nat) (K0 K1 : Nat → Prop), i ≤ 3 ∧ iv = ci i ∧ Hid (Two w wx qa qb qx qy K0 K1 ad am (l.length + 3 * i))) (fun iv _ => ((3 : Int) - intOf iv).toNat)
        case atStart => exact ⟨0, K0, K1, by decide, rfl, T9⟩
        case round =>
          clear T9 K0 K1
          obtain ⟨i, K0, K1, hi, rfl, hU⟩ := hrel
          by_cases hlt : i < 3
          · have hlt' : (i : Int) < 3 := by omega
            have hi0 : (0 : Int) ≤ i := by omega
            obtain ⟨va, hva⟩ : ∃ va, pick3 i qa qb = va := ⟨_, rfl⟩
            obtain ⟨vm, hvm⟩ : ∃ vm, pick3 i qx qy = vm := ⟨_, rfl⟩
            have AK : Hid (∀ (wx : World) (c : Int) (q : Nat), q ≤ 8 → (0 ≤ c ∧ c ≤ 9) → (∃ K0 K1, Two w wx qa qb qx qy K0 K1 ad am (l.length + q)) → Calls Try.prog 42 #[.pointer va, .pointer vm, .agg #[ci 0, ci c, ci 0, .slice none 0 0, .slice none 0 0, ci 0, ci 0]] wx fun e w' => e = .returned (.bool true) ∧ (∃ K0' K1', Two w w' qa qb qx qy K0' K1' ad am (l.length + (q + 1))) ∧ w'.cell? ⟨ad, i, none⟩ = some (.pointer va) ∧ w'.cell? ⟨am, i, none⟩ = some (.pointer vm)) := fun wx c q hq hc ⟨K0, K1, h⟩ => by
              rw [← hva, ← hvm]
              exact h.ask (hkb.out q (by omega)) i hlt c hc
            have K9 : wr.cell? ⟨ad, i, none⟩ = some (.pointer va) ∧ wr.cell? ⟨am, i, none⟩ = some (.pointer vm) := by
              have h := hU.out.cells i hlt
              rw [hva, hvm] at h
              exact h
            have P3 : Hid (∃ K0 K1, Two w wr.drew qa qb qx qy K0 K1 ad am (l.length + 3 * i)) := ⟨K0, K1, hU.out.ext ((Ext.refl wr).drew)⟩
            have q0 : 3 * i ≤ 8 ∧ 3 * i + 1 ≤ 8 ∧ 3 * i + 1 + 1 ≤ 8 := ⟨by omega, by omega, by omega⟩
            have HQ := Lib.hid q0
            clear q0 hU hva hvm
            go_upto_region 23 with (fail)
            go_region_held3 (fun w' => w'.cell? ⟨ad, i, none⟩ = some (.pointer va) ∧ w'.cell? ⟨am, i, none⟩ = some (.pointer vm)) (first | exact K12 | exact K11 | exact K10 | exact K9)
              (first
                | (go_at_call 42; refine (AK.out _ _ _ HQ.out.2.2 (by decide) P5.out).mono ?_
                   rintro e w6 ⟨rfl, q1, K12⟩
                   have P6 := Lib.hid q1
                   clear q1)
                | (go_at_call 42; refine (AK.out _ _ _ HQ.out.2.1 (by decide) P4.out).mono ?_
                   rintro e w5 ⟨rfl, q1, K11⟩
                   have P5 := Lib.hid q1
                   clear q1)
                | (go_at_call 42; refine (AK.out _ _ _ HQ.out.1 (by decide) P3.out).mono ?_
                   rintro e w4 ⟨rfl, q1, K10⟩
                   have P4 := Lib.hid q1
                   clear q1))
            all_goals go_wp2_with fail
            all_goals
              obtain ⟨K0', K1', h6⟩ := P6.out
              exact ⟨⟨i + 1, K0', K1', hlt, by simp, Lib.hid h6⟩, by simp only [intOf]; omega⟩
          · have hi3 : i = 3 := by omega
            subst hi3
            go_wp2_with fail
            go_ret
            exact ⟨rfl, hU.out.p0.1⟩
theorem diskScript_walk' {w : World} (n : Int) (ia : Option Addr) (N ic : Nat) (img : List (BitVec 8)) (sv : Value) (l : List Dop) (hi : Rd w cb (.slice ia N ic) img) (hN : img.length = N) (him : N ≤ 140737488351232) (hs : RdO w sv l) (hl : l.length * 88 ≤ 140737488351232) (hok : ∀ o ∈ l, o.ok w ∧ o.keep.length ≤ 140737488351232) :
    Calls Try.prog 6 #[ci n, .slice ia N ic, sv] w fun e w' => e = .returned (.bool true) ∧ Below w.heap.size w w' :=
  (script_calls n ia ic N img hN sv l hi him hs hok hl).mono fun e w' ⟨a, b⟩ => ⟨a, b.to⟩
end Go.Proofs.Ytjcbmlpfpcpakaa
