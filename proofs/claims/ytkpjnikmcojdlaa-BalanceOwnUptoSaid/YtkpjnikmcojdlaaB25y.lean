/- Layer 25: lists that are written over where they lie and asked about again (anew). -/
import Derived.Test.YtkpjnikmcojdlaaB25x
import Derived.Test.YtkpjnikmcojdlaaB25wm
import Derived.Test.YtkpjnikmcojdlaaStp
import Derived.Test.YtkpjnikmcojdlaaB25p
import Derived.Deep.RegionHeld3
namespace Go.Proofs.Ytkpjnikmcojdlaa
open Go.RowKit
set_option linter.unusedVariables false

theorem same_true (sa sb : Value) (l : List Int) (w : World) (ha : Rd w ci sa l) (hb : Rd w ci sb l) (hl : l.length ≤ 9223372036854775807) :
    Calls Try.prog 16 #[sa, sb] w fun e w' => e = .returned (.bool true) ∧ ∃ n, w.drewN n = w' :=
  (same_calls sa sb l l w ha hb hl hl).mono fun e w' h => by rwa [decide_eq_true rfl] at h
theorem ResF.own {B : Nat} {R : Option (List Nat)} {e : Ending} {w' : World} (h : ResF B R e w') : ∃ v, e = .returned (.tuple #[v, ci (resFC R)]) ∧ Own w' B 48 cf v (resFL R) := by
  rcases h with ⟨rfl, rfl⟩ | ⟨L, v', rfl, rfl, h⟩
  · exact ⟨_, rfl, Own.nil⟩
  · exact ⟨_, rfl, h⟩
theorem ResM.own {B : Nat} {R : Option (List Mv)} {e : Ending} {w' : World} (h : ResM B R e w') : ∃ v, e = .returned (.tuple #[v, ci (resMC R)]) ∧ OwnM w' B v (resML R) := by
  rcases h with ⟨rfl, rfl⟩ | ⟨L, v', rfl, rfl, h⟩
  · exact ⟨_, rfl, OwnM.nil⟩
  · exact ⟨_, rfl, h⟩
theorem Res.own {B : Nat} {R : Option (List Int)} {e : Ending} {w' : World} (h : Res B R e w') : ∃ v, e = .returned (.tuple #[v, ci (resC R)]) ∧ Own w' B 3 ci v (resL R) := by
  rcases h with ⟨rfl, rfl⟩ | ⟨L, v', rfl, rfl, h⟩
  · exact ⟨_, rfl, Own.nil⟩
  · exact ⟨_, rfl, h⟩
theorem World.ownsRow.keep {w w' : World} {B T s n : Nat} {v : Value} {xs : List Value} {g1 g2 : Nat} (h : w.ownsRow B T s v n xs) (k : Bar w w' (.slice (some ⟨g1, 0, none⟩) 0 0) (.slice (some ⟨g2, 0, none⟩) 0 0)) (h1 : g1 < B) (h2 : g2 < B) : w'.ownsRow B T s v n xs := by
  refine k.row h ?_
  cases hh : v.ownBlock with
  | none => exact Or.inl rfl
  | some x =>
    have := (World.ownsRow.lt h x hh).1
    exact Or.inr ⟨fun e => by have : x = g1 := Option.some.inj e; omega, fun e => by have : x = g2 := Option.some.inj e; omega⟩
theorem Own.keep {α : Type} {w w' : World} {B T : Nat} {f : α → Value} {v : Value} {l : List α} {g1 g2 : Nat} (h : Own w B T f v l) (k : Bar w w' (.slice (some ⟨g1, 0, none⟩) 0 0) (.slice (some ⟨g2, 0, none⟩) 0 0)) (h1 : g1 < B) (h2 : g2 < B) : Own w' B T f v l := World.ownsRow.keep h k h1 h2
theorem OwnM.mono {w : World} {B C : Nat} {v : Value} {l : List Mv} (h : OwnM w B v l) (hC : C ≤ B) : OwnM w C v l := by
  obtain ⟨h1, h | ⟨g, cap, cur, h2, h3, h4⟩⟩ := h
  · exact ⟨h1, Or.inl h⟩
  · exact ⟨h1, Or.inr ⟨g, cap, cur, h2, Nat.le_trans hC h3, h4⟩⟩
theorem OwnM.keep {w w' : World} {B : Nat} {v : Value} {l : List Mv} {g1 g2 : Nat} (h : OwnM w B v l) (k : Bar w w' (.slice (some ⟨g1, 0, none⟩) 0 0) (.slice (some ⟨g2, 0, none⟩) 0 0)) (h1 : g1 < B) (h2 : g2 < B) : OwnM w' B v l := World.ownsRow.keep h k h1 h2
section
variable {W w w' w0 : World} {B g1 k1 g2 k2 n : Nat} {L : List Nat} {x : Nat} {O : List Int} {y : Int}
theorem Pr.blocks (h : Pr W w B g1 k1 g2 k2 n L x O y) : B ≤ g1 ∧ B ≤ g2 ∧ g1 < w.heap.size ∧ g2 < w.heap.size := ⟨(h.l.lt g1 rfl).1, (h.o.lt g2 rfl).1, (h.l.lt g1 rfl).2, (h.o.lt g2 rfl).2⟩
theorem Pr.extB (h : Pr W w B g1 k1 g2 k2 n L x O y) (e : Ext w0 W) (hB : w0.heap.size ≤ B) : Ext w0 w := by
  obtain ⟨h1, h2, _⟩ := h.blocks
  exact e.below (h.bar.below e.size (fun k hk => by cases hk; exact Nat.le_trans hB h1) (fun k hk => by cases hk; exact Nat.le_trans hB h2)) (Nat.le_refl _)
end
set_option maxHeartbeats 4000000 in
set_option maxRecDepth 100000 in
theorem anew_calls (lv ov : Value) (l : List (BitVec 64)) (ow : List Int) (s : Int) (mv : Value) (M : List Mv) (W : World) (hl : Rd W cw lv l) (ho : Rd W ci ov ow) (hm : RdM W mv M) (hM : M.length ≤ 400) (hr : rightB (bitsOf l) ow s = true) :
    Calls Try.prog 29 #[.agg #[lv, ov, ci s], mv] W fun e w' => e = .returned (.bool true) ∧ Ext W w' := by
  obtain ⟨i48, j1, j2, j3, j4⟩ := info_parts Try.info48
  have hz : i48.zero = some (cf 0) := j2
  obtain ⟨i3, n1, n2, n3, n4⟩ := info_parts Try.info3
  have hz3 : i3.zero = some (ci 0) := n2
  have rt := right_rt (bits_lt l) hr
  obtain ⟨n, hn⟩ : ∃ x, ow.length = x := ⟨_, rfl⟩
  have hll : l.length = n := by rw [← hn, ← bitsOf_len l]; exact rt.len
  have hn64 : n ≤ 64 := by rw [← hn]; exact rt.many
  obtain ⟨ad, c, ea, -⟩ := hl.at
  obtain ⟨ad2, c2, eb, -⟩ := ho.at
  rw [hll] at ea
  rw [hn] at eb
  subst ea eb
  have hs1 : 0 < s := rt.lo
  have hs2 : s ≤ 8 := rt.hi
  have NN0 := Lib.hid rt.nn
  have hbx := Blk.new W #[.slice ad n c, .slice ad2 n c2, ci s] 35
  have X0 := Lib.hid (Ext.of_alloc (w := W) (.cells #[.slice ad n c, .slice ad2 n c2, ci s] 35))
  obtain ⟨w0, hw0⟩ : ∃ x, W.alloc (.cells #[.slice ad n c, .slice ad2 n c2, ci s] 35) = x := ⟨_, rfl⟩
  rw [hw0] at X0 hbx
  obtain ⟨bx, hb⟩ : ∃ x, W.heap.size = x := ⟨_, rfl⟩
  rw [hb] at hbx
  have HW0 := Lib.hid hw0
  have HBX := Lib.hid hb
  have BX : Hid (∀ w', Ext w0 w' → w'.cell? ⟨bx, 0, none⟩ = some (.slice ad n c) ∧ w'.cell? ⟨bx, 1, none⟩ = some (.slice ad2 n c2) ∧ w'.cell? ⟨bx, 2, none⟩ = some (ci s)) := fun w' e => ⟨(hbx.ext e).cell 0, (hbx.ext e).cell 1, (hbx.ext e).cell 2⟩
  have HFL := Lib.hid (fun w (e : Ext w0 w) => floats_calls (.slice ad n c) l w ((X0.out.trans e).rd hl) (by omega))
  have HIN := Lib.hid (fun w (e : Ext w0 w) => ints_calls (.slice ad2 n c2) ow w ((X0.out.trans e).rd ho) (by omega))
  obtain ⟨ld, hld⟩ : ∃ x, bitsOf l = x := ⟨_, rfl⟩
  have HLN : Hid (ld.length = n) := by show _ = _; rw [← hld, bitsOf_len, hll]
  rw [hld, hll] at HFL
  rw [hld] at NN0
  rw [hn] at HIN
  have HM := Lib.hid (fun w (e : Ext w0 w) => hm.ext (X0.out.trans e))
  have HML := Lib.hid hM
  obtain ⟨ma, mc, rfl, -⟩ := hm.at
  have HON := Lib.hid hn
  have hs64 : -9223372036854775808 ≤ s ∧ s ≤ 9223372036854775807 := by omega
  have BS := Lib.hid (fun (D : List Nat) (O : List Int) (w : World) (fv qv : Value) (h1 : Rd w cf fv D) (h2 : Rd w ci qv O) (h3 : D.length = n) (h4 : O.length = n) (h5 : ∀ z ∈ D, nn z) => bsums_calls fv qv D O s w h1 h2 (fun z hz => nn_word (h5 z hz)) (by omega) (by omega))
  have PL := Lib.hid (fun (D : List Nat) (O : List Int) (w : World) (fv qv : Value) (h1 : Rd w cf fv D) (h2 : Rd w ci qv O) (h3 : D.length = n) (h4 : O.length = n) (h5 : ∀ z ∈ D, nn z) => plan_calls fv qv D O s 400 w h1 h2 (fun z hz => nn_word (h5 z hz)) (by omega) (by omega) (by omega) (fun _ => planF_len _ _ _ _))
  have AP := Lib.hid (fun (O : List Int) (w : World) (qv : Value) (pv : Value) (P : List Mv) (h2 : Rd w ci qv O) (h4 : O.length = n) (h5 : RdM w pv P) (h6 : P.length ≤ 400) => apply_calls qv O s pv P w h2 (by omega) hs64 h5 (by omega))
  have hn' : (n : Int) ≤ 64 := by omega
  clear hl ho hm hM hr rt hbx hw0 hb hld hll hn
  go_enter Try.func29, Try.ntmps29
  go_upto_region 1 with fail
  rw [HW0.out, HBX.out]
  have K0 := BX.out w0 (Ext.refl _)
  go_region_held3 (fun w' => w'.cell? ⟨bx, 0, none⟩ = some (.slice ad n c) ∧ w'.cell? ⟨bx, 1, none⟩ = some (.slice ad2 n c2) ∧ w'.cell? ⟨bx, 2, none⟩ = some (ci s)) (first | exact K2 | exact K1 | exact K0)
    (first
      | (go_at_call 12; refine (HIN.out w1 E1.out).mono ?_
         rintro e w2 ⟨g2, c4, rfl, hc3, hc4, hlo2, ho2, hh2, e2⟩
         have E2 := Lib.hid (E1.out.trans e2)
         have X2 := Lib.hid e2
         have K2 := BX.out w2 E2.out
         have O2 := Lib.hid (And.intro hlo2 ho2)
         have hc3' : (n : Int) ≤ c4 := by omega
         have HC4 := Lib.hid hc4
         clear e2 hh2 hlo2 ho2)
      | (go_at_call 18; refine (HFL.out w0.drew ((Ext.refl w0).drew)).mono ?_
         rintro e w1 ⟨g1, c3, rfl, hc1, hc2, hlo1, ho1, hh1, e1⟩
         have E1 := Lib.hid ((Ext.refl w0).drew.trans e1)
         have K1 := BX.out w1 E1.out
         have O1 := Lib.hid (And.intro hlo1 ho1)
         have hc1' : (n : Int) ≤ c3 := by omega
         have HC3 := Lib.hid hc2
         clear e1 hh1 hlo1 ho1))
  have hg3 : c3 ≤ maxLen := HC3.out
  have hg4 : c4 ≤ maxLen := HC4.out
  have P2 : Hid (Pr w2 w2 w0.heap.size g1 c3 g2 c4 n ld 13842939354630062080 ow (-77)) := ⟨X2.out.own O1.out.2, O2.out.2.mono E1.out.size, HLN.out, HON.out, Bar.refl _ _ _⟩
  have HC := Lib.hid (And.intro (show n ≤ c3 by omega) (And.intro (show n ≤ c4 by omega) (And.intro hg3 hg4)))
  obtain ⟨-, -, z2⟩ := BX.out w2 E2.out
  clear K0 K1 K2 O1 O2 X2 E1 HFL HIN HC3 HC4 hg3 hg4
  go_upto_region 5 with (first
    | (go_at_call 19; refine (BS.out L1 O1 w4 _ _ (P4.out.rdL _) (P4.out.rdO _) P4.out.nl P4.out.no N1.out).mono ?_; rintro e w5 ⟨hres, e5⟩
       obtain ⟨va, rfl, hva⟩ := hres.own
       have VA := Lib.hid hva
       have E5 := Lib.hid (E4.out.trans e5)
       have P5 := Lib.hid ((P4.out.ext e5).again)
       clear hres e5 hva z2)
    | (go_at_call 43; refine (turn_calls _ g1 c3 g2 c4 n c3 c4 ld _ ow _ w3 P3.out NN0.out HC.out.1 HC.out.2.1 HC.out.2.2.1 HC.out.2.2.2 hn64).mono ?_; rintro e w4 ⟨rfl, L1, O1, p4, q4⟩
       have E4 := Lib.hid (p4.extB E3.out (Nat.le_refl _))
       have N1 := Lib.hid q4
       have P4 := Lib.hid p4.again
       obtain ⟨-, -, z2⟩ := BX.out w4 E4.out
       clear p4 q4 P3)
    | (go_at_call 19; refine (BS.out ld ow w2 _ _ (P2.out.rdL _) (P2.out.rdO _) P2.out.nl P2.out.no NN0.out).mono ?_; rintro e w3 ⟨hres, e3⟩
       obtain ⟨dv, rfl, -⟩ := hres.own
       have E3 := Lib.hid (E2.out.trans e3)
       have P3 := Lib.hid ((P2.out.ext e3).again)
       clear hres e3 z2 P2)
    | fail)
  have B5 := Lib.hid (P4.out.blocks)
  have NLO : Hid (L1.length = n ∧ O1.length = n) := ⟨P4.out.nl, P4.out.no⟩
  obtain ⟨RA, hRA⟩ : ∃ R, sumsR L1 O1 s = R := ⟨_, rfl⟩
  have HRA := Lib.hid hRA
  rw [hRA] at VA
  rw [hRA]
  obtain ⟨CA, hCA⟩ : ∃ R, resFC RA = R := ⟨_, rfl⟩
  have HCA := Lib.hid hCA
  rw [hCA]
  clear hRA hCA
  obtain ⟨LA, hLA⟩ : ∃ R, resFL RA = R := ⟨_, rfl⟩
  have HLA := Lib.hid hLA
  rw [hLA] at VA
  have LAL : Hid (LA.length ≤ 8) := by
    show _ ≤ _
    have h := resFL_len (ow := O1) (s := s) (ld := L1) (fun z hz => nn_word (N1.out z hz))
    rw [HRA.out, hLA] at h
    exact h
  clear hLA
  go_cut [9, 10] (fun v9 v10 wx => ∃ vb, vb = v9 ∧ v10 = ci CA ∧ Hid (Own wx w5.heap.size 48 cf vb LA ∧ Ext w5 wx))
  case first =>
    as_aux_lemma =>
      have K0 : w5.cell? ⟨bx, 2, none⟩ = some (ci s) := (BX.out _ E5.out).2.2
      have KB : Hid (∀ w', Ext w5 w' → w'.cell? ⟨bx, 2, none⟩ = some (ci s)) := fun w' e => (BX.out _ (E5.out.trans e)).2.2
      have M1 : Hid (Own (w5.alloc (.cells #[] 48)) w5.heap.size 48 cf (.slice (some ⟨w5.heap.size, 0, none⟩) 0 0) []) := Own.made (Nat.le_refl _)
      have M2 : Hid (Own (w5.alloc (.cells #[] 3)) w5.heap.size 3 ci (.slice (some ⟨w5.heap.size, 0, none⟩) 0 0) []) := Own.made (Nat.le_refl _)
      have M3 : Hid (Own ((w5.alloc (.cells #[] 48)).alloc (.cells #[] 3)) w5.heap.size 3 ci (.slice (some ⟨w5.heap.size + 1, 0, none⟩) 0 0) []) := by
        have h := Own.made (w := w5.alloc (.cells #[] 48)) (B := w5.heap.size) (T := 3) (f := ci) (by rw [World.size_alloc]; omega)
        rw [World.size_alloc] at h
        exact h
      have M4 : Hid (Own ((w5.alloc (.cells #[] 3)).alloc (.cells #[] 48)) w5.heap.size 48 cf (.slice (some ⟨w5.heap.size + 1, 0, none⟩) 0 0) []) := by
        have h := Own.made (w := w5.alloc (.cells #[] 3)) (B := w5.heap.size) (T := 48) (f := cf) (by rw [World.size_alloc]; omega)
        rw [World.size_alloc] at h
        exact h
      have BL : Hid (L1.length * 8 ≤ 140737488355328 ∧ L1.length ≤ 9223372036854775807) := by have := P5.out.nl; exact ⟨by omega, by omega⟩
      have BO : Hid (O1.length * 8 ≤ 140737488355328 ∧ O1.length ≤ 9223372036854775807) := by have := P5.out.no; exact ⟨by omega, by omega⟩
      have RL := Lib.hid (P5.out.rdL c3)
      have RO := Lib.hid (P5.out.rdO c4)
      clear P4 P5 HM HML PL AP NN0 HLN HON B5 VA E4 E3 E2
      go_region_held3 (fun w' => w'.cell? ⟨bx, 2, none⟩ = some (ci s)) (first | exact K0 | exact KB.out _ (by repeat (first | exact Ext.refl _ | exact X8.out | exact X7.out | exact X6.out | refine Ext.alloc ?_ _ | refine Ext.drew ?_ | refine Ext.trans ?_ X8.out | refine Ext.trans ?_ X7.out | refine Ext.trans ?_ X6.out)))
        (first
          | (refine step_copy ci ci_one rfl (.tmp 52) (.tmp 53) 22 rfl w5.heap.size 3 i3 0 8 Try.u22 n1 hz3 n3 n4 rfl _ rfl (by first | exact Ext.own (by repeat (first | exact Ext.refl _ | exact X6.out | refine Ext.alloc ?_ _ | refine Ext.drew ?_ | refine Ext.trans ?_ X6.out)) M2.out | exact Ext.own (by repeat (first | exact Ext.refl _ | exact X6.out | refine Ext.alloc ?_ _ | refine Ext.drew ?_ | refine Ext.trans ?_ X6.out)) M3.out | exact Own.made (Ext.size (by repeat (first | exact Ext.refl _ | exact X6.out | refine Ext.alloc ?_ _ | refine Ext.drew ?_ | refine Ext.trans ?_ X6.out)))) (Ext.size (by repeat (first | exact Ext.refl _ | exact X6.out | refine Ext.alloc ?_ _ | refine Ext.drew ?_ | refine Ext.trans ?_ X6.out))) _ O1 rfl (Ext.rd (by repeat (first | exact Ext.refl _ | exact X6.out | refine Ext.alloc ?_ _ | refine Ext.drew ?_ | refine Ext.trans ?_ X6.out)) RO.out) BO.out.1 BO.out.2 ?_
             intro v7 w7 h1 h2
             have V7 := Lib.hid h1
             have X7 := Lib.hid h2
             clear h1 h2)
          | (refine step_copy cf cf_one rfl (.tmp 49) (.tmp 50) 36 rfl w5.heap.size 48 i48 0 8 Try.u36 j1 hz j3 j4 rfl _ rfl (by first | exact Ext.own (by repeat (first | exact Ext.refl _ | exact X7.out | refine Ext.alloc ?_ _ | refine Ext.drew ?_ | refine Ext.trans ?_ X7.out)) M1.out | exact Ext.own (by repeat (first | exact Ext.refl _ | exact X7.out | refine Ext.alloc ?_ _ | refine Ext.drew ?_ | refine Ext.trans ?_ X7.out)) M4.out | exact Own.made (Ext.size (by repeat (first | exact Ext.refl _ | exact X7.out | refine Ext.alloc ?_ _ | refine Ext.drew ?_ | refine Ext.trans ?_ X7.out)))) (Ext.size (by repeat (first | exact Ext.refl _ | exact X7.out | refine Ext.alloc ?_ _ | refine Ext.drew ?_ | refine Ext.trans ?_ X7.out))) _ L1 rfl (Ext.rd (by repeat (first | exact Ext.refl _ | exact X7.out | refine Ext.alloc ?_ _ | refine Ext.drew ?_ | refine Ext.trans ?_ X7.out)) RL.out) BL.out.1 BL.out.2 ?_
             intro v6 w6 h1 h2
             have V6 := Lib.hid h1
             have X6 := Lib.hid h2
             clear h1 h2)
          | (go_at_call 19; refine (BS.out L1 O1 _ v6 v7 (Ext.rd (by repeat (first | exact Ext.refl _ | exact X7.out | exact X6.out | refine Ext.alloc ?_ _ | refine Ext.drew ?_ | refine Ext.trans ?_ X7.out | refine Ext.trans ?_ X6.out)) V6.out.rd) (Ext.rd (by repeat (first | exact Ext.refl _ | exact X7.out | exact X6.out | refine Ext.alloc ?_ _ | refine Ext.drew ?_ | refine Ext.trans ?_ X7.out | refine Ext.trans ?_ X6.out)) V7.out.rd) NLO.out.1 NLO.out.2 N1.out).mono ?_; rintro e w8 ⟨hres, e8⟩
             rw [HRA.out] at hres
             obtain ⟨vb, rfl, hvb⟩ := hres.own
             have X8 := Lib.hid e8
             have VB : Hid (Own w8 w5.heap.size 48 cf vb LA ∧ Ext w5 w8) := by
               have e : Ext w5 w8 := (by repeat (first | exact Ext.refl _ | exact X8.out | exact X7.out | exact X6.out | refine Ext.alloc ?_ _ | refine Ext.drew ?_ | refine Ext.trans ?_ X8.out | refine Ext.trans ?_ X7.out | refine Ext.trans ?_ X6.out))
               rw [HLA.out] at hvb
               exact ⟨hvb.mono (Ext.size (by repeat (first | exact Ext.refl _ | exact X7.out | exact X6.out | refine Ext.alloc ?_ _ | refine Ext.drew ?_ | refine Ext.trans ?_ X7.out | refine Ext.trans ?_ X6.out))), e⟩
             rw [HCA.out]
             clear hres e8 hvb))
      all_goals (try go_wp2_with fail)
      all_goals go_meet
      all_goals exact ⟨vb, rfl, rfl, VB.out⟩
  case rest =>
    obtain ⟨vb, rfl, rfl, hV⟩ := hcut
    generalize wc = w8 at *
    have E8 := Lib.hid (E5.out.trans hV.out.2)
    have P8 := Lib.hid ((P5.out.ext hV.out.2).again)
    have VA8 := Lib.hid (hV.out.2.own VA.out)
    have VB8 := Lib.hid hV.out.1
    have G5 : Hid (g1 < w5.heap.size ∧ g2 < w5.heap.size) := P5.out.blocks.2.2
    obtain ⟨-, -, z2⟩ := BX.out w8 E8.out
    clear hV VA P4 P5 E5 E4 E3 E2 NN0 HLN HON NLO HRA HCA HLA
    go_upto_region 9 with (first
      | (go_at_call 24; refine (PL.out L2 O2 w10 _ _ (P10.out.rdL _) (P10.out.rdO _) P10.out.nl P10.out.no N2.out).mono ?_; rintro e w11 ⟨hres, e11⟩
         obtain ⟨vp, rfl, hvp⟩ := hres.own
         have VP := Lib.hid hvp
         have E11 := Lib.hid (E10.out.trans e11)
         have P11 := Lib.hid ((P10.out.ext e11).again)
         have G10 : Hid (g1 < w10.heap.size ∧ g2 < w10.heap.size) := P10.out.blocks.2.2
         have VA11 := Lib.hid (e11.own VA10.out)
         have VB11 := Lib.hid (e11.own VB10.out)
         clear hres e11 hvp z2 VA10 VB10 P10)
      | (go_at_call 43; refine (turn_calls _ g1 c3 g2 c4 n c3 c4 L1 _ O1 _ w9 P9.out N1.out HC.out.1 HC.out.2.1 HC.out.2.2.1 HC.out.2.2.2 hn64).mono ?_; rintro e w10 ⟨rfl, L2, O2, p10, q10⟩
         have E10 := Lib.hid (p10.extB E9.out (Nat.le_refl _))
         have N2 := Lib.hid q10
         have P10 := Lib.hid p10.again
         have VA10 := Lib.hid (VA9.out.keep p10.bar B5.out.2.2.1 B5.out.2.2.2)
         have VB10 := Lib.hid (VB9.out.keep p10.bar G5.out.1 G5.out.2)
         obtain ⟨-, -, z2⟩ := BX.out w10 E10.out
         clear p10 q10 P9 E9 VA9 VB9)
      | (go_at_call 24; refine (PL.out L1 O1 w8 _ _ (P8.out.rdL _) (P8.out.rdO _) P8.out.nl P8.out.no N1.out).mono ?_; rintro e w9 ⟨hres, e9⟩
         obtain ⟨dv2, rfl, -⟩ := hres.own
         have E9 := Lib.hid (E8.out.trans e9)
         have P9 := Lib.hid ((P8.out.ext e9).again)
         have VA9 := Lib.hid (e9.own VA8.out)
         have VB9 := Lib.hid (e9.own VB8.out)
         clear hres e9 z2 P8 E8 VA8 VB8)
      | fail)
    have NLO : Hid (L2.length = n ∧ O2.length = n) := ⟨P11.out.nl, P11.out.no⟩
    obtain ⟨RP, hRP⟩ : ∃ R, planR L2 O2 s 400 = R := ⟨_, rfl⟩
    have HRP := Lib.hid hRP
    rw [hRP] at VP
    rw [hRP]
    obtain ⟨CP, hCP⟩ : ∃ R, resMC RP = R := ⟨_, rfl⟩
    have HCP := Lib.hid hCP
    rw [hCP]
    obtain ⟨LP, hLP⟩ : ∃ R, resML RP = R := ⟨_, rfl⟩
    have HLP := Lib.hid hLP
    rw [hLP] at VP
    have LPL : Hid (LP.length ≤ 400) := by
      show _ ≤ _
      have h := resML_len (ld := L2) (ow := O2) (s := s) 400
      rw [show fewOf 400 = 400 by unfold fewOf; rfl, hRP, hLP] at h
      exact h
    clear hRP hCP hLP
    go_cut [13, 14] (fun v13 v14 wx => ∃ vq, vq = v13 ∧ v14 = ci CP ∧ Hid (OwnM wx w11.heap.size vq LP ∧ Ext w11 wx))
    case first =>
      as_aux_lemma =>
        have K0 : w11.cell? ⟨bx, 2, none⟩ = some (ci s) := (BX.out _ E11.out).2.2
        have KB : Hid (∀ w', Ext w11 w' → w'.cell? ⟨bx, 2, none⟩ = some (ci s)) := fun w' e => (BX.out _ (E11.out.trans e)).2.2
        have M1 : Hid (Own (w11.alloc (.cells #[] 48)) w11.heap.size 48 cf (.slice (some ⟨w11.heap.size, 0, none⟩) 0 0) []) := Own.made (Nat.le_refl _)
        have M2 : Hid (Own (w11.alloc (.cells #[] 3)) w11.heap.size 3 ci (.slice (some ⟨w11.heap.size, 0, none⟩) 0 0) []) := Own.made (Nat.le_refl _)
        have M3 : Hid (Own ((w11.alloc (.cells #[] 48)).alloc (.cells #[] 3)) w11.heap.size 3 ci (.slice (some ⟨w11.heap.size + 1, 0, none⟩) 0 0) []) := by
          have h := Own.made (w := w11.alloc (.cells #[] 48)) (B := w11.heap.size) (T := 3) (f := ci) (by rw [World.size_alloc]; omega)
          rw [World.size_alloc] at h
          exact h
        have M4 : Hid (Own ((w11.alloc (.cells #[] 3)).alloc (.cells #[] 48)) w11.heap.size 48 cf (.slice (some ⟨w11.heap.size + 1, 0, none⟩) 0 0) []) := by
          have h := Own.made (w := w11.alloc (.cells #[] 3)) (B := w11.heap.size) (T := 48) (f := cf) (by rw [World.size_alloc]; omega)
          rw [World.size_alloc] at h
          exact h
        have BL : Hid (L2.length * 8 ≤ 140737488355328 ∧ L2.length ≤ 9223372036854775807) := by have := P11.out.nl; exact ⟨by omega, by omega⟩
        have BO : Hid (O2.length * 8 ≤ 140737488355328 ∧ O2.length ≤ 9223372036854775807) := by have := P11.out.no; exact ⟨by omega, by omega⟩
        have RL := Lib.hid (P11.out.rdL c3)
        have RO := Lib.hid (P11.out.rdO c4)
        clear P11 HM HML BS AP B5 VA11 VB11 VP E10 N1 LPL G5 G10
        go_region_held3 (fun w' => w'.cell? ⟨bx, 2, none⟩ = some (ci s)) (first | exact K0 | exact KB.out _ (by repeat (first | exact Ext.refl _ | exact X8.out | exact X7.out | exact X6.out | refine Ext.alloc ?_ _ | refine Ext.drew ?_ | refine Ext.trans ?_ X8.out | refine Ext.trans ?_ X7.out | refine Ext.trans ?_ X6.out)))
          (first
            | (refine step_copy ci ci_one rfl (.tmp 83) (.tmp 84) 22 rfl w11.heap.size 3 i3 0 8 Try.u22 n1 hz3 n3 n4 rfl _ rfl (by first | exact Ext.own (by repeat (first | exact Ext.refl _ | exact X6.out | refine Ext.alloc ?_ _ | refine Ext.drew ?_ | refine Ext.trans ?_ X6.out)) M2.out | exact Ext.own (by repeat (first | exact Ext.refl _ | exact X6.out | refine Ext.alloc ?_ _ | refine Ext.drew ?_ | refine Ext.trans ?_ X6.out)) M3.out | exact Own.made (Ext.size (by repeat (first | exact Ext.refl _ | exact X6.out | refine Ext.alloc ?_ _ | refine Ext.drew ?_ | refine Ext.trans ?_ X6.out)))) (Ext.size (by repeat (first | exact Ext.refl _ | exact X6.out | refine Ext.alloc ?_ _ | refine Ext.drew ?_ | refine Ext.trans ?_ X6.out))) _ O2 rfl (Ext.rd (by repeat (first | exact Ext.refl _ | exact X6.out | refine Ext.alloc ?_ _ | refine Ext.drew ?_ | refine Ext.trans ?_ X6.out)) RO.out) BO.out.1 BO.out.2 ?_
               intro v7 w7 h1 h2
               have V7 := Lib.hid h1
               have X7 := Lib.hid h2
               clear h1 h2)
            | (refine step_copy cf cf_one rfl (.tmp 80) (.tmp 81) 36 rfl w11.heap.size 48 i48 0 8 Try.u36 j1 hz j3 j4 rfl _ rfl (by first | exact Ext.own (by repeat (first | exact Ext.refl _ | exact X7.out | refine Ext.alloc ?_ _ | refine Ext.drew ?_ | refine Ext.trans ?_ X7.out)) M1.out | exact Ext.own (by repeat (first | exact Ext.refl _ | exact X7.out | refine Ext.alloc ?_ _ | refine Ext.drew ?_ | refine Ext.trans ?_ X7.out)) M4.out | exact Own.made (Ext.size (by repeat (first | exact Ext.refl _ | exact X7.out | refine Ext.alloc ?_ _ | refine Ext.drew ?_ | refine Ext.trans ?_ X7.out)))) (Ext.size (by repeat (first | exact Ext.refl _ | exact X7.out | refine Ext.alloc ?_ _ | refine Ext.drew ?_ | refine Ext.trans ?_ X7.out))) _ L2 rfl (Ext.rd (by repeat (first | exact Ext.refl _ | exact X7.out | refine Ext.alloc ?_ _ | refine Ext.drew ?_ | refine Ext.trans ?_ X7.out)) RL.out) BL.out.1 BL.out.2 ?_
               intro v6 w6 h1 h2
               have V6 := Lib.hid h1
               have X6 := Lib.hid h2
               clear h1 h2)
            | (go_at_call 24; refine (PL.out L2 O2 _ v6 v7 (Ext.rd (by repeat (first | exact Ext.refl _ | exact X7.out | exact X6.out | refine Ext.alloc ?_ _ | refine Ext.drew ?_ | refine Ext.trans ?_ X7.out | refine Ext.trans ?_ X6.out)) V6.out.rd) (Ext.rd (by repeat (first | exact Ext.refl _ | exact X7.out | exact X6.out | refine Ext.alloc ?_ _ | refine Ext.drew ?_ | refine Ext.trans ?_ X7.out | refine Ext.trans ?_ X6.out)) V7.out.rd) NLO.out.1 NLO.out.2 N2.out).mono ?_; rintro e w12 ⟨hres, e8⟩
               rw [HRP.out] at hres
               obtain ⟨vq, rfl, hvb⟩ := hres.own
               have X8 := Lib.hid e8
               have VB : Hid (OwnM w12 w11.heap.size vq LP ∧ Ext w11 w12) := by
                 have e : Ext w11 w12 := (by repeat (first | exact Ext.refl _ | exact X8.out | exact X7.out | exact X6.out | refine Ext.alloc ?_ _ | refine Ext.drew ?_ | refine Ext.trans ?_ X8.out | refine Ext.trans ?_ X7.out | refine Ext.trans ?_ X6.out))
                 rw [HLP.out] at hvb
                 exact ⟨hvb.mono (Ext.size (by repeat (first | exact Ext.refl _ | exact X7.out | exact X6.out | refine Ext.alloc ?_ _ | refine Ext.drew ?_ | refine Ext.trans ?_ X7.out | refine Ext.trans ?_ X6.out))), e⟩
               rw [HCP.out]
               clear hres e8 hvb))
        all_goals (try go_wp2_with fail)
        all_goals go_meet
        all_goals exact ⟨vq, rfl, rfl, VB.out⟩
    case rest =>
      obtain ⟨vq, rfl, rfl, hV⟩ := hcut
      generalize wc = w14 at *
      have E14 := Lib.hid (E11.out.trans hV.out.2)
      have P14 := Lib.hid ((P11.out.ext hV.out.2).again)
      have VA14 := Lib.hid (hV.out.2.own VA11.out)
      have VB14 := Lib.hid (hV.out.2.own VB11.out)
      have VP14 := Lib.hid (VP.out.ext hV.out.2)
      have VQ14 := Lib.hid hV.out.1
      have G11 : Hid (g1 < w11.heap.size ∧ g2 < w11.heap.size) := P11.out.blocks.2.2
      obtain ⟨-, -, z2⟩ := BX.out w14 E14.out
      clear hV VA11 VB11 P11 E11 E10 N1 N2 NLO HRP HCP HLP VP BS PL
      go_wp2_with (first
        | (go_at_call 13; refine (AP.out O2 w14 _ _ M (P14.out.rdO _) P14.out.no (HM.out w14 E14.out) HML.out).mono ?_; rintro e w15 ⟨hres, e15⟩
           obtain ⟨dv3, rfl, -⟩ := hres.own
           have E15 := Lib.hid (E14.out.trans e15)
           have P15 := Lib.hid ((P14.out.ext e15).again)
           have VV := Lib.hid (And.intro (e15.own VA14.out) (And.intro (e15.own VB14.out) (And.intro (VP14.out.ext e15) (VQ14.out.ext e15))))
           clear hres e15 z2 P14 E14 VA14 VB14 VP14 VQ14)
        | fail)
      go_loopw [15] (fun iv wr => ∃ (i : Nat) (O' : List Int), i ≤ n ∧ iv = .int .i64 i ∧ Hid (Pr w15 wr w0.heap.size g1 c3 g2 c4 n L2 13842939354630062080 O' (-77))) (fun iv _ => (n - (intOf iv).toNat))
      case atStart => exact ⟨0, O2, by omega, rfl, P15.out⟩
      case round =>
        clear P15
        obtain ⟨i, O', hi, rfl, hT⟩ := hrel
        by_cases hlt : i < n
        · have hlt' : (i : Int) < n := by omega
          obtain ⟨a1, a2⟩ := hT.out.cellO hlt
          obtain ⟨-, -, z2⟩ := BX.out wr (hT.out.extB E15.out (Nat.le_refl _))
          have hw1 : IntKind.i64.wrap (s - 1) = s - 1 := wrapi (by omega)
          have HS := Lib.hid (hT.out.setO hlt (s - 1))
          generalize O'[i]'(by rw [hT.out.no]; exact hlt) = v0 at *
          clear hT
          go_wp2_with fail
          go_roundw
          case measure => simp only [intOf]; omega
          case rel => exact ⟨i + 1, _, by omega, by go_num, HS.out⟩
        · obtain rfl : n = i := by omega
          have E16 := Lib.hid (hT.out.extB E15.out (Nat.le_refl _))
          have P16 := Lib.hid hT.out.again
          have VV16 := Lib.hid (And.intro (VV.out.1.keep hT.out.bar B5.out.2.2.1 B5.out.2.2.2) (And.intro (VV.out.2.1.keep hT.out.bar G5.out.1 G5.out.2) (And.intro (VV.out.2.2.1.keep hT.out.bar G10.out.1 G10.out.2) (VV.out.2.2.2.keep hT.out.bar G11.out.1 G11.out.2))))
          clear hT VV E15 hi hlt
          generalize wr = w16 at *
          obtain ⟨-, -, z2⟩ := BX.out w16 E16.out
          go_upto_region 16 with (first
            | (go_at_call 13; refine (AP.out O' w16 _ _ M (P16.out.rdO _) P16.out.no (HM.out w16 E16.out) HML.out).mono ?_; rintro e w17 ⟨hres, e17⟩
               obtain ⟨vu, rfl, hvu⟩ := hres.own
               have E17 := Lib.hid (E16.out.trans e17)
               have P17 := Lib.hid ((P16.out.ext e17).again)
               have VU := Lib.hid hvu
               have G16 : Hid (g1 < w16.heap.size ∧ g2 < w16.heap.size) := P16.out.blocks.2.2
               have VV17 := Lib.hid (And.intro (e17.own VV16.out.1) (And.intro (e17.own VV16.out.2.1) (And.intro (VV16.out.2.2.1.ext e17) (VV16.out.2.2.2.ext e17))))
               clear hres e17 z2 P16 E16 VV16 hvu)
            | fail)
          have NO : Hid (O'.length = n) := P17.out.no
          have LU0 := resL_len O' s M
          obtain ⟨RU, hRU⟩ : ∃ R, applied O' s M = R := ⟨_, rfl⟩
          have HRU := Lib.hid hRU
          rw [hRU] at VU LU0
          rw [hRU]
          obtain ⟨CU, hCU⟩ : ∃ R, resC RU = R := ⟨_, rfl⟩
          have HCU := Lib.hid hCU
          rw [hCU]
          obtain ⟨LU, hLU⟩ : ∃ R, resL RU = R := ⟨_, rfl⟩
          have HLU := Lib.hid hLU
          rw [hLU] at VU LU0
          have LUL : Hid (LU.length ≤ 64) := by show _ ≤ _; have := NO.out; omega
          clear hRU hCU hLU LU0
          go_cut [18, 19] (fun v18 v19 wx => ∃ vv, vv = v18 ∧ v19 = ci CU ∧ Hid (Own wx w17.heap.size 3 ci vv LU ∧ Ext w17 wx))
          case first =>
            as_aux_lemma =>
              have K0 : w17.cell? ⟨bx, 2, none⟩ = some (ci s) := (BX.out _ E17.out).2.2
              have KB : Hid (∀ w', Ext w17 w' → w'.cell? ⟨bx, 2, none⟩ = some (ci s)) := fun w' e => (BX.out _ (E17.out.trans e)).2.2
              have M2 : Hid (Own (w17.alloc (.cells #[] 3)) w17.heap.size 3 ci (.slice (some ⟨w17.heap.size, 0, none⟩) 0 0) []) := Own.made (Nat.le_refl _)
              have BO : Hid (O'.length * 8 ≤ 140737488355328 ∧ O'.length ≤ 9223372036854775807) := by have := NO.out; exact ⟨by omega, by omega⟩
              have RO := Lib.hid (P17.out.rdO c4)
              have HM17 := Lib.hid (fun w (e : Ext w17 w) => HM.out w (E17.out.trans e))
              clear P17 VU VV17 B5 G5 G10 G11 G16 HM
              go_region_held3 (fun w' => w'.cell? ⟨bx, 2, none⟩ = some (ci s)) (first | exact K0 | exact KB.out _ (by repeat (first | exact Ext.refl _ | exact X8.out | exact X7.out | refine Ext.alloc ?_ _ | refine Ext.drew ?_ | refine Ext.trans ?_ X8.out | refine Ext.trans ?_ X7.out)))
                (first
                  | (refine step_copy ci ci_one rfl (.tmp 120) (.tmp 121) 22 rfl w17.heap.size 3 i3 0 8 Try.u22 n1 hz3 n3 n4 rfl _ rfl (by first | exact Ext.own (by repeat (first | exact Ext.refl _ | refine Ext.alloc ?_ _ | refine Ext.drew ?_)) M2.out) (Ext.size (by repeat (first | exact Ext.refl _ | refine Ext.alloc ?_ _ | refine Ext.drew ?_))) _ O' rfl (Ext.rd (by repeat (first | exact Ext.refl _ | refine Ext.alloc ?_ _ | refine Ext.drew ?_)) RO.out) BO.out.1 BO.out.2 ?_
                     intro v7 w7 h1 h2
                     have V7 := Lib.hid h1
                     have X7 := Lib.hid h2
                     clear h1 h2)
                  | (go_at_call 13; refine (AP.out O' _ v7 _ M (Ext.rd (by repeat (first | exact Ext.refl _ | exact X7.out | refine Ext.alloc ?_ _ | refine Ext.drew ?_ | refine Ext.trans ?_ X7.out)) V7.out.rd) NO.out (HM17.out _ (by repeat (first | exact Ext.refl _ | exact X7.out | refine Ext.alloc ?_ _ | refine Ext.drew ?_ | refine Ext.trans ?_ X7.out))) HML.out).mono ?_; rintro e w18 ⟨hres, e8⟩
                     rw [HRU.out] at hres
                     obtain ⟨vv, rfl, hvb⟩ := hres.own
                     have X8 := Lib.hid e8
                     have VB : Hid (Own w18 w17.heap.size 3 ci vv LU ∧ Ext w17 w18) := by
                       have e : Ext w17 w18 := (by repeat (first | exact Ext.refl _ | exact X8.out | exact X7.out | refine Ext.alloc ?_ _ | refine Ext.drew ?_ | refine Ext.trans ?_ X8.out | refine Ext.trans ?_ X7.out))
                       rw [HLU.out] at hvb
                       exact ⟨hvb.mono (Ext.size (by repeat (first | exact Ext.refl _ | exact X7.out | refine Ext.alloc ?_ _ | refine Ext.drew ?_ | refine Ext.trans ?_ X7.out))), e⟩
                     rw [HCU.out]
                     clear hres e8 hvb))
              all_goals (try go_wp2_with fail)
              all_goals go_meet
              all_goals exact ⟨vv, rfl, rfl, VB.out⟩
          case rest =>
            obtain ⟨vv, rfl, rfl, hV⟩ := hcut
            generalize wc = w18 at *
            have E18 := Lib.hid (E17.out.trans hV.out.2)
            have P18 := Lib.hid ((P17.out.ext hV.out.2).again)
            have VU18 := Lib.hid (hV.out.2.own VU.out)
            have VV18 := Lib.hid (And.intro (hV.out.2.own VV17.out.1) (And.intro (hV.out.2.own VV17.out.2.1) (And.intro (VV17.out.2.2.1.ext hV.out.2) (VV17.out.2.2.2.ext hV.out.2))))
            have VY18 := Lib.hid hV.out.1
            have G17 : Hid (g1 < w17.heap.size ∧ g2 < w17.heap.size) := P17.out.blocks.2.2
            have NIL : Hid (∀ w : World, RdM w (.slice none 0 0) []) := fun w => Or.inl ⟨none, 0, rfl, rfl, fun _ => rfl⟩
            obtain ⟨-, -, z2⟩ := BX.out w18 E18.out
            clear hV VU P17 E17 VV17 HRU HCU HLU HM HML NO
            go_wp2_with (first
              | (go_at_call 13; refine (AP.out O' w18 _ _ [] (P18.out.rdO _) P18.out.no (NIL.out w18) (by decide)).mono ?_; rintro e w19 ⟨hres, e19⟩
                 obtain ⟨dv4, rfl, -⟩ := hres.own
                 have E19 := Lib.hid (E18.out.trans e19)
                 have P19 := Lib.hid ((P18.out.ext e19).again)
                 have VV19 := Lib.hid (And.intro (e19.own VV18.out.1) (And.intro (e19.own VV18.out.2.1) (And.intro (VV18.out.2.2.1.ext e19) (VV18.out.2.2.2.ext e19))))
                 have VU19 := Lib.hid (e19.own VU18.out)
                 have VY19 := Lib.hid (e19.own VY18.out)
                 clear hres e19 z2 P18 E18 VV18 VU18 VY18)
              | fail)
            go_loopw [20] (fun iv wr => ∃ (i : Nat) (O2 : List Int), i ≤ n ∧ iv = .int .i64 i ∧ Hid (Pr w19 wr w0.heap.size g1 c3 g2 c4 n L2 13842939354630062080 O2 (-77) ∧ ∀ q, q < i → O2[q]? = some 0)) (fun iv _ => (n - (intOf iv).toNat))
            case atStart => exact ⟨0, O', by omega, rfl, P19.out, fun q hq => by omega⟩
            case round =>
              clear P19
              obtain ⟨i, O3, hi, rfl, hT⟩ := hrel
              by_cases hlt : i < n
              · have hlt' : (i : Int) < n := by omega
                obtain ⟨a1, a2⟩ := hT.out.1.cellO hlt
                have HS := Lib.hid (hT.out.1.setO hlt 0)
                have HF : Hid (∀ q, q < i + 1 → (O3.set i 0)[q]? = some 0) := fill_set (F := fun _ => (0 : Int)) hT.out.2 (by rw [hT.out.1.no]; exact hlt)
                generalize O3[i]'(by rw [hT.out.1.no]; exact hlt) = v0 at *
                clear hT
                go_wp2_with fail
                go_roundw
                case measure => simp only [intOf]; omega
                case rel => exact ⟨i + 1, _, by omega, by go_num, HS.out, HF.out⟩
              · obtain rfl : n = i := by omega
                have hO3 : O3 = List.replicate n 0 := by rw [← fill_const]; exact fill_list hT.out.1.no hT.out.2
                have E20 := Lib.hid (hT.out.1.extB E19.out (Nat.le_refl _))
                have P20 := Lib.hid hT.out.1.again
                have VV20 := Lib.hid (And.intro (VV19.out.1.keep hT.out.1.bar B5.out.2.2.1 B5.out.2.2.2) (And.intro (VV19.out.2.1.keep hT.out.1.bar G5.out.1 G5.out.2) (And.intro (VV19.out.2.2.1.keep hT.out.1.bar G10.out.1 G10.out.2) (VV19.out.2.2.2.keep hT.out.1.bar G11.out.1 G11.out.2))))
                have VU20 := Lib.hid (VU19.out.keep hT.out.1.bar G16.out.1 G16.out.2)
                have VY20 := Lib.hid (VY19.out.keep hT.out.1.bar G17.out.1 G17.out.2)
                have AZ := Lib.hid (zeros_apply (n := n) hn64 hs1 hs2)
                clear hT VV19 VU19 VY19 E19 hi hlt G5 G10 G11 G16 G17 B5
                generalize wr = w20 at *
                subst hO3
                obtain ⟨-, -, z2⟩ := BX.out w20 E20.out
                go_wp2_with (first
                  | (go_at_call 21; refine S21.out.mono ?_; clear S21; rintro e w22 ⟨rfl, n22, h22⟩
                     have x22 : Ext w21 w22 := by rw [← h22]; exact (Ext.refl _).drewN _
                     have E22 := Lib.hid (E21.out.trans x22)
                     have S15 := Lib.hid (sameMoves_calls vp vq LP w22 (VV21.out.2.2.1.rd.ext x22) (VV21.out.2.2.2.rd.ext x22) (by have := LPL.out; omega))
                     have Q22 := Lib.hid (And.intro (x22.rd VU21.out.rd) (And.intro (x22.rd VY21.out.rd) (And.intro (x22.rd VW.out.rd) (x22.rd (P21.out.rdO c4)))))
                     clear x22 h22 VU21 VY21 VV21 P21 E21)
                  | (go_at_call 15; refine S15.out.mono ?_; clear S15; rintro e w23 ⟨rfl, n23, h23⟩
                     have x23 : Ext w22 w23 := by rw [← h23]; exact (Ext.refl _).drewN _
                     have E23 := Lib.hid (E22.out.trans x23)
                     have S16 := Lib.hid (same_true vu vv LU w23 (x23.rd Q22.out.1) (x23.rd Q22.out.2.1) (by have := LUL.out; omega))
                     have Q23 := Lib.hid (And.intro (x23.rd Q22.out.2.2.1) (x23.rd Q22.out.2.2.2))
                     clear x23 h23 Q22 E22)
                  | (go_at_call 16; refine S17.out.mono ?_; clear S17; rintro e w25 ⟨rfl, n25, h25⟩
                     have x25 : Ext w24 w25 := by rw [← h25]; exact (Ext.refl _).drewN _
                     have E25 := Lib.hid (E24.out.trans x25)
                     clear x25 h25)
                  | (go_at_call 16; refine S16.out.mono ?_; clear S16; rintro e w24 ⟨rfl, n24, h24⟩
                     have x24 : Ext w23 w24 := by rw [← h24]; exact (Ext.refl _).drewN _
                     have E24 := Lib.hid (E23.out.trans x24)
                     have S17 := Lib.hid (same_true vw (.slice (some ⟨g2, 0, none⟩) n c4) (List.replicate n 0) w24 (x24.rd Q23.out.1) (x24.rd Q23.out.2) (by rw [List.length_replicate]; omega))
                     clear x24 h24 Q23 E23)
                  | (go_at_call 13; refine (AP.out (List.replicate n 0) w20 _ _ [] (P20.out.rdO _) P20.out.no (NIL.out w20) (by decide)).mono ?_; rintro e w21 ⟨hres, e21⟩
                     rw [AZ.out] at hres
                     obtain ⟨vw, rfl, hvw⟩ := apply_some hres
                     have E21 := Lib.hid (E20.out.trans e21)
                     have P21 := Lib.hid (P20.out.ext e21)
                     have VV21 := Lib.hid (And.intro (e21.own VV20.out.1) (And.intro (e21.own VV20.out.2.1) (And.intro (VV20.out.2.2.1.ext e21) (VV20.out.2.2.2.ext e21))))
                     have VU21 := Lib.hid (e21.own VU20.out)
                     have VY21 := Lib.hid (e21.own VY20.out)
                     have VW := Lib.hid hvw
                     have S21 := Lib.hid (sameFloats_calls va vb LA w21 VV21.out.1.rd VV21.out.2.1.rd (by have := LAL.out; omega))
                     clear hres e21 z2 P20 E20 VV20 VU20 VY20 hvw)
                  | fail)
                go_ret
                exact ⟨rfl, X0.out.trans E25.out⟩
end Go.Proofs.Ytkpjnikmcojdlaa
