/- DiceScripts: the walk of the law. -/
import Derived.Test.YtaneknfhilfalaaK7f
import Derived.Deep.RegionHeld3
import Derived.Deep.DeepCutAuto
namespace Go.Proofs.Ytaneknfhilfalaa
open Go.RowKit
set_option linter.unusedVariables false

/-- a step's five cells -/
structure OpAt (w : World) (b o : Nat) (p : Sop) : Prop where
  c0 : w.cell? ⟨b, o, none⟩ = some (ci p.kind)
  c1 : w.cell? ⟨b, o + 1, none⟩ = some (ci p.which)
  c2 : w.cell? ⟨b, o + 2, none⟩ = some (ci p.n)
  c3 : w.cell? ⟨b, o + 3, none⟩ = some (cw p.far)
  c4 : w.cell? ⟨b, o + 4, none⟩ = some p.wv
theorem OpAt.ext {w w' : World} {b o : Nat} {p : Sop} (h : OpAt w b o p) (e : Ext w w') : OpAt w' b o p := ⟨e.cell h.c0, e.cell h.c1, e.cell h.c2, e.cell h.c3, e.cell h.c4⟩
def RdO (w : World) (v : Value) (l : List Sop) : Prop :=
  (∃ a c, v = .slice a 0 c ∧ l = []) ∨ ∃ b o c n, v = .slice (some ⟨b, o, none⟩) n c ∧ n = l.length ∧ 0 < n ∧ ∀ i, (hi : i < l.length) → OpAt w b (o + i * 5) l[i]
theorem RdO.form {w : World} {v : Value} {l : List Sop} (h : RdO w v l) : ∃ a c, v = .slice a l.length c ∧ ∀ i, (hi : i < l.length) → ∃ b o, a = some ⟨b, o, none⟩ ∧ OpAt w b (o + i * 5) l[i] := by
  rcases h with ⟨a, c, rfl, rfl⟩ | ⟨b, o, c, n, rfl, rfl, _, h⟩
  · exact ⟨a, c, rfl, fun i hi => absurd hi (by simp)⟩
  · exact ⟨_, c, rfl, fun i hi => ⟨b, o, rfl, h i hi⟩⟩
theorem Try.u57 : Try.prog.underlying 57 = some (.slice 27) := by kernel_rfl
theorem Try.u58 : Try.prog.underlying 58 = some (.slice 59) := by kernel_rfl
theorem Try.info27 : (Try.prog.info? 27).map (fun i => (i.zero, i.size, i.bytes)) = some (some (.pointer none), 1, 8) := by kernel_rfl
theorem Try.info59 : (Try.prog.info? 59).map (fun i => (i.zero, i.size, i.bytes)) = some (some (.pointer none), 1, 8) := by kernel_rfl
theorem own_other {α β : Type} {w : World} {B B' : Nat} {T T' : TypeId} {f : α → Value} {f' : β → Value} {v v' : Value} {l : List α} {l' : List β} (h : Own w B T f v l) (h' : Own w B' T' f' v' l') (ht : T' ≠ T) : v.ownBlock = none ∨ v.ownBlock ≠ v'.ownBlock := by
  obtain ⟨h1, ⟨rfl, h0⟩ | ⟨g, cap, cur, rfl, hB, hg, hle, hmx, hsz, htake⟩⟩ := h
  · exact Or.inl rfl
  · exact Or.inr (h'.type (show Blk w g cur T from hg) ht)
theorem Prs.grown {α : Type} {w0 w w' : World} {P : List Tri} {T : TypeId} {f : α → Value} {v : Value} {l : List α} (h : Prs w0 w P) (k : w.grownBy w' v.ownBlock) (o : Own w w0.heap.size T f v l) (h1 : T ≠ 69) (h2 : T ≠ 73) : Prs w0 w' P :=
  ⟨h.ext.grown k (fun g hg => (o.lt g hg).1), fun p hp => ⟨Blk.grown (h.at' p hp).1 k (o.type (h.at' p hp).1 h1), Blk.grown (h.at' p hp).2.1 k (o.type (h.at' p hp).2.1 h2), (h.at' p hp).2.2⟩, h.ap⟩
theorem Prs.snoc {w0 w : World} {P : List Tri} {g m B : Nat} {x : BitVec 64} (h : Prs w0 w P) (hd : DB w g x) (hm : MB w m x) (hB : w0.heap.size ≤ B) (hg : B ≤ g) (hm2 : B ≤ m) (hlt : ∀ p ∈ P, p.1 < B ∧ p.2.1 < B) : Prs w0 w (P ++ [(g, m, x)]) := by
  refine ⟨h.ext, fun p hp => ?_, ?_⟩
  · rcases List.mem_append.1 hp with hp | hp
    · exact h.at' p hp
    · simp at hp; subst hp; exact ⟨hd, hm, Nat.le_trans hB hg, Nat.le_trans hB hm2⟩
  · rw [List.pairwise_append]
    refine ⟨h.ap, by simp, fun p hp q hq => ?_⟩
    simp at hq; subst hq
    have := hlt p hp
    simp only
    omega
abbrev fp (a : Option Addr) : Value := .pointer a
def pd (p : Tri) : Option Addr := some ⟨p.1, 0, none⟩
def pm (p : Tri) : Option Addr := some ⟨p.2.1, 0, none⟩
theorem HasRow.oth {α : Type} {w w' : World} {f : α → Value} {T : TypeId} {g : Nat} {l : List α} (h : HasRow w f T g l) (o : Oth w w') (h1 : T ≠ 69) (h2 : T ≠ 73) : HasRow w' f T g l := by
  obtain ⟨cur, a, b⟩ := h
  exact ⟨cur, o _ _ _ a h1 h2, b⟩
theorem row_at {P : List Tri} {k n : Nat} (hn : P.length = n) (hk : k < n + 1) (f : Tri → Option Addr) (h : k < (P.map f ++ [none]).length) : (P.map f ++ [none])[k] = (P[k]?).bind f ∨ (P.map f ++ [none])[k] = (P[k]?).bind f := by
  left
  by_cases h2 : k < P.length
  · rw [List.getElem_append_left (by simpa using h2), List.getElem_map, List.getElem?_eq_getElem h2]; rfl
  · rw [List.getElem_append_right (by simp; omega), List.getElem?_eq_none (by omega)]
    simp
theorem row_d {P : List Tri} {k n : Nat} (hn : P.length = n) (hk : k < n + 1) (h : k < (P.map pd ++ [none]).length) : (P.map pd ++ [none])[k] = pD P k := by
  rcases row_at hn hk pd h with e | e <;> (rw [e]; unfold pD pd; cases P[k]? <;> rfl)
theorem row_m {P : List Tri} {k n : Nat} (hn : P.length = n) (hk : k < n + 1) (h : k < (P.map pm ++ [none]).length) : (P.map pm ++ [none])[k] = pM P k := by
  rcases row_at hn hk pm h with e | e <;> (rw [e]; unfold pM pm; cases P[k]? <;> rfl)
set_option maxHeartbeats 4000000 in
set_option maxRecDepth 100000 in
theorem scripts_walk (sv ov : Value) (seeds : List (BitVec 64)) (l : List Sop) (W : World) (hs : Rd W cw sv seeds) (hsm : seeds.length * 8 ≤ 140737488351232) (ho : RdO W ov l) (hok : ∀ o ∈ l, o.ok W) (hlm : l.length * 56 ≤ 140737488351232) :
    Calls Try.prog 10 #[sv, ov] W fun e w' => e = .returned (.bool true) ∧ Ext W w' := by
  obtain ⟨i27, j1, j2, j3, j4⟩ := info_parts Try.info27
  obtain ⟨i59, q1, q2, q3, q4⟩ := info_parts Try.info59
  have hz : i27.zero = some (fp none) := j2
  have hy : i59.zero = some (fp none) := q2
  obtain ⟨ad, c, rfl, hat⟩ := hs.at
  obtain ⟨ad2, c2, rfl, hat2⟩ := ho.form
  have HA := Lib.hid hat
  have HA2 := Lib.hid hat2
  have HOK := Lib.hid hok
  have HSM := Lib.hid hsm
  have HLM := Lib.hid hlm
  obtain ⟨n, hn⟩ : ∃ n, seeds.length = n := ⟨_, rfl⟩
  have HN := Lib.hid hn
  have hn' : (n : Int) ≤ 17592186043904 := by omega
  have hl' : (l.length : Int) ≤ 17592186043904 := by omega
  rw [hn]
  clear hat hat2 hok hsm hlm hs ho hn
  go_enter Try.func10, Try.ntmps10
  go_wp2_with fail
  go_loopw [5, 6, 7, 8, 9] (fun dv0 mv0 iv _ _ wr => ∃ (k : Nat) (dv mv : Value) (P : List Tri), k ≤ n ∧ dv = dv0 ∧ mv = mv0 ∧ iv = .int .i64 k ∧ Hid (Prs W wr P ∧ P.length = k ∧ Own wr W.heap.size 27 fp dv (P.map pd) ∧ Own wr W.heap.size 59 fp mv (P.map pm))) (fun _ _ iv _ _ _ => (n - (intOf iv).toNat))
  case atStart => exact ⟨0, _, _, [], by omega, rfl, rfl, rfl, ⟨Ext.refl _, fun p hp => (by cases hp), List.Pairwise.nil⟩, rfl, Own.nil, Own.nil⟩
  case round =>
    obtain ⟨k, dv, mv, P, hk, rfl, rfl, rfl, hT⟩ := hrel
    by_cases hlt : k < n
    · obtain ⟨b1, o1, rfl, hc'⟩ := HA.out k (by rw [HN.out]; exact hlt)
      have hc := hT.out.1.ext.cell hc'
      generalize seeds[k]'(by rw [HN.out]; exact hlt) = x at hc
      have N1 := Lib.hid (new_calls x wr)
      have HPL : Hid (∀ p ∈ P, p.1 < wr.heap.size ∧ p.2.1 < wr.heap.size) := fun p hp => ⟨Blk.lt (hT.out.1.at' p hp).1, Blk.lt (hT.out.1.at' p hp).2.1⟩
      have BD : Hid (((P.map pd).length + 1) * 8 ≤ 140737488355328) := by show _ ≤ _; rw [List.length_map, hT.out.2.1]; have := HSM.out; rw [HN.out] at this; omega
      have MD : Hid ((P.map pd).length + 1 ≤ 9223372036854775807) := by show _ ≤ _; rw [List.length_map, hT.out.2.1]; omega
      have BM : Hid (((P.map pm).length + 1) * 8 ≤ 140737488355328) := by show _ ≤ _; rw [List.length_map, hT.out.2.1]; have := HSM.out; rw [HN.out] at this; omega
      have MM : Hid ((P.map pm).length + 1 ≤ 9223372036854775807) := by show _ ≤ _; rw [List.length_map, hT.out.2.1]; omega
      clear hc'
      go_wp2_with (first
        | (go_at_call 19; refine N1.out.mono ?_; clear N1; rintro e w1 ⟨rfl, hw1⟩
           obtain ⟨gd, hgd⟩ : ∃ g, wr.heap.size = g := ⟨_, rfl⟩
           have x1 := Ext.of_alloc (w := wr) (.cells #[.int .u64 (Bv x)] 69)
           have d1 : DB (wr.alloc (.cells #[.int .u64 (Bv x)] 69)) gd x := by rw [← hgd]; exact Blk.new _ _ _
           rw [hw1] at x1 d1
           rw [hgd]
           have P1 := Lib.hid (hT.out.1.ext' x1)
           have D1 := Lib.hid d1
           have x2 := Ext.of_alloc (w := w1) (.cells #[fp (some ⟨gd, 0, none⟩)] 27)
           have O1 := Lib.hid ((x1.trans x2).own hT.out.2.2.1)
           have Q1 := Lib.hid ((x1.trans x2).own hT.out.2.2.2)
           have X1 : Hid ((w1.alloc (.cells #[fp (some ⟨gd, 0, none⟩)] 27)).cell? ⟨w1.heap.size, 0, none⟩ = some (fp (some ⟨gd, 0, none⟩))) := by show _ = _; rw [World.cell?_alloc_new]; rfl
           have S1 := Lib.hid ((P1.out.ext' x2).ext.size)
           have HGD := Lib.hid hgd
           have hc1 := x1.cell hc
           clear hw1 x1 d1 x2 hgd hc)
        | (at_builtin; refine wpList_append_one fp rfl (.tmp 30) (.tmp 32) 57 rfl W.heap.size 27 i27 (fp none) 8 Try.u57 j1 hz j3 j4 rfl _ (P.map pd) rfl O1.out w1.heap.size 1 _ rfl X1.out rfl BD.out MD.out S1.out ?_
           intro dv' w3 ho3 hg3 hb3
           have x2 := Ext.of_alloc (w := w1) (.cells #[fp (some ⟨gd, 0, none⟩)] 27)
           have P3 := Lib.hid ((P1.out.ext' x2).grown hg3 O1.out (by decide) (by decide))
           have D3 := Lib.hid (Blk.grown (Blk.ext D1.out x2) hg3 (O1.out.type (Blk.ext D1.out x2) (by decide)))
           have O3 := Lib.hid ho3
           have Q3 := Lib.hid (Q1.out.kept hg3 (own_other Q1.out O1.out (by decide)))
           have c3 : w3.cell? ⟨b1, o1 + k, none⟩ = some (cw x) := by
             have hcW := HA.out k (by rw [HN.out]; exact hlt)
             obtain ⟨b', o', e', h'⟩ := hcW
             injection e' with e'
             injection e' with e1 e2 _
             subst e1 e2
             have hx := hc1
             rw [(P1.out.ext).cell h'] at hx
             rw [P3.out.ext.cell h', hx]
           have SZ3 := Lib.hid (show gd ≤ w3.heap.size from Nat.le_of_lt (Blk.lt D3.out))
           have N3 := Lib.hid (ref_new_calls x w3)
           clear x2 ho3 hg3 hb3 O1 Q1 X1 S1 P1 D1 hc1)
        | (go_at_call 34; refine N3.out.mono ?_; clear N3; rintro e w4 ⟨rfl, hw4⟩
           obtain ⟨gm, hgm⟩ : ∃ g, w3.heap.size = g := ⟨_, rfl⟩
           have x4 := Ext.of_alloc (w := w3) (.cells #[.int .u64 (Bv x)] 73)
           have m4 : MB (w3.alloc (.cells #[.int .u64 (Bv x)] 73)) gm x := by rw [← hgm]; exact Blk.new _ _ _
           rw [hw4] at x4 m4
           rw [hgm]
           have x5 := Ext.of_alloc (w := w4) (.cells #[fp (some ⟨gm, 0, none⟩)] 59)
           have P5 := Lib.hid (P3.out.ext' (x4.trans x5))
           have D5 := Lib.hid (Blk.ext D3.out (x4.trans x5))
           have M5 := Lib.hid (Blk.ext m4 x5)
           have O5 := Lib.hid ((x4.trans x5).own O3.out)
           have Q5 := Lib.hid ((x4.trans x5).own Q3.out)
           have X5 : Hid ((w4.alloc (.cells #[fp (some ⟨gm, 0, none⟩)] 59)).cell? ⟨w4.heap.size, 0, none⟩ = some (fp (some ⟨gm, 0, none⟩))) := by show _ = _; rw [World.cell?_alloc_new]; rfl
           have S5 := Lib.hid (P5.out.ext.size)
           have HGM := Lib.hid (show gd ≤ gm by rw [← hgm]; exact SZ3.out)
           clear hw4 x4 m4 x5 hgm P3 D3 O3 Q3 c3 SZ3)
        | (at_builtin; refine wpList_append_one fp rfl (.tmp 39) (.tmp 41) 58 rfl W.heap.size 59 i59 (fp none) 8 Try.u58 q1 hy q3 q4 rfl _ (P.map pm) rfl Q5.out w4.heap.size 1 _ rfl X5.out rfl BM.out MM.out S5.out ?_
           intro mv' w6 ho6 hg6 hb6
           have P6 := Lib.hid (P5.out.grown hg6 Q5.out (by decide) (by decide))
           have D6 := Lib.hid (Blk.grown D5.out hg6 (Q5.out.type D5.out (by decide)))
           have M6 := Lib.hid (Blk.grown M5.out hg6 (Q5.out.type M5.out (by decide)))
           have O6 := Lib.hid (O5.out.kept hg6 (own_other O5.out Q5.out (by decide)))
           have Q6 := Lib.hid ho6
           clear ho6 hg6 hb6 P5 D5 M5 O5 Q5 X5 S5)
        | fail)
      go_roundw
      case measure => simp only [intOf]; omega
      case rel => exact ⟨k + 1, _, _, P ++ [(gd, gm, x)], by omega, rfl, rfl, by go_num, P6.out.snoc D6.out M6.out hT.out.1.ext.size (by rw [HGD.out]; exact Nat.le_refl _) (by rw [HGD.out]; exact HGM.out) HPL.out, by rw [List.length_append, hT.out.2.1]; rfl, by rw [List.map_append]; exact O6.out, by rw [List.map_append]; exact Q6.out⟩
    · obtain rfl : k = n := by omega
      have HP := Lib.hid hT.out.1
      have HPN := Lib.hid hT.out.2.1
      have O1 := Lib.hid ((Ext.of_alloc (w := wr) (.cells #[fp none] 27)).own hT.out.2.2.1)
      have Q1 := Lib.hid ((Ext.of_alloc (w := wr) (.cells #[fp none] 27)).own hT.out.2.2.2)
      have P1 := Lib.hid (hT.out.1.ext' (Ext.of_alloc (w := wr) (.cells #[fp none] 27)))
      have X1 : Hid ((wr.alloc (.cells #[fp none] 27)).cell? ⟨wr.heap.size, 0, none⟩ = some (fp none)) := by show _ = _; rw [World.cell?_alloc_new]; rfl
      have S1 := Lib.hid (P1.out.ext.size)
      have BD : Hid (((P.map pd).length + 1) * 8 ≤ 140737488355328) := by show _ ≤ _; rw [List.length_map, HPN.out]; have := HSM.out; rw [HN.out] at this; omega
      have MD : Hid ((P.map pd).length + 1 ≤ 9223372036854775807) := by show _ ≤ _; rw [List.length_map, HPN.out]; omega
      have BM : Hid (((P.map pm).length + 1) * 8 ≤ 140737488355328) := by show _ ≤ _; rw [List.length_map, HPN.out]; have := HSM.out; rw [HN.out] at this; omega
      have MM : Hid ((P.map pm).length + 1 ≤ 9223372036854775807) := by show _ ≤ _; rw [List.length_map, HPN.out]; omega
      clear hT hk hlt HA
      go_wp2_with (first
        | (at_builtin; refine wpList_append_one fp rfl (.tmp 43) (.tmp 44) 57 rfl W.heap.size 27 i27 (fp none) 8 Try.u57 j1 hz j3 j4 rfl _ (P.map pd) rfl O1.out wr.heap.size 1 _ rfl X1.out rfl BD.out MD.out S1.out ?_
           intro dv' w3 ho3 hg3 hb3
           have x4 := Ext.of_alloc (w := w3) (.cells #[fp none] 59)
           have P3 := Lib.hid ((P1.out.grown hg3 O1.out (by decide) (by decide)).ext' x4)
           have O3 := Lib.hid (x4.own ho3)
           have Q3 := Lib.hid (x4.own (Q1.out.kept hg3 (own_other Q1.out O1.out (by decide))))
           have X3 : Hid ((w3.alloc (.cells #[fp none] 59)).cell? ⟨w3.heap.size, 0, none⟩ = some (fp none)) := by show _ = _; rw [World.cell?_alloc_new]; rfl
           have S3 := Lib.hid (P3.out.ext.size)
           clear x4 ho3 hg3 hb3 O1 Q1 X1 S1 P1)
        | (at_builtin; refine wpList_append_one fp rfl (.tmp 46) (.tmp 47) 58 rfl W.heap.size 59 i59 (fp none) 8 Try.u58 q1 hy q3 q4 rfl _ (P.map pm) rfl Q3.out w3.heap.size 1 _ rfl X3.out rfl BM.out MM.out S3.out ?_
           intro mv' w6 ho6 hg6 hb6
           have P6 := Lib.hid (P3.out.grown hg6 Q3.out (by decide) (by decide))
           have O6 := Lib.hid (O3.out.kept hg6 (own_other O3.out Q3.out (by decide)))
           have Q6 := Lib.hid ho6
           clear ho6 hg6 hb6 P3 O3 Q3 X3 S3)
        | fail)
      obtain ⟨dg, dc, rfl, _, hdr, hdc1, hdc2⟩ := O6.out.has (by simp)
      obtain ⟨mg, mc, rfl, _, hmr, hmc1, hmc2⟩ := Q6.out.has (by simp)
      have hdl : (P.map pd ++ [none]).length = k + 1 := by rw [List.length_append, List.length_map, HPN.out]; rfl
      have hml : (P.map pm ++ [none]).length = k + 1 := by rw [List.length_append, List.length_map, HPN.out]; rfl
      have R0 : Hid (Prs W w6 P ∧ HasRow w6 fp 27 dg (P.map pd ++ [none]) ∧ HasRow w6 fp 59 mg (P.map pm ++ [none])) := ⟨P6.out, hdr, hmr⟩
      rw [hdl, hml]
      have HRD : Hid (∀ i, i < k + 1 → ∀ wx, HasRow wx fp 27 dg (P.map pd ++ [none]) → wx.cell? ⟨dg, i, none⟩ = some (.pointer (pD P i))) := fun i hi wx h => by
        rw [h.cell i (by rw [hdl]; exact hi), row_d HPN.out hi]
      have HRM : Hid (∀ i, i < k + 1 → ∀ wx, HasRow wx fp 59 mg (P.map pm ++ [none]) → wx.cell? ⟨mg, i, none⟩ = some (.pointer (pM P i))) := fun i hi wx h => by
        rw [h.cell i (by rw [hml]; exact hi), row_m HPN.out hi]
      clear hdr hmr hdc1 hdc2 hmc1 hmc2 hdl hml P6 O6 Q6 HP
      obtain ⟨rowD, hrd⟩ : ∃ x, P.map pd ++ [none] = x := ⟨_, rfl⟩
      obtain ⟨rowM, hrm⟩ : ∃ x, P.map pm ++ [none] = x := ⟨_, rfl⟩
      rw [hrd, hrm] at R0
      rw [hrd] at HRD
      rw [hrm] at HRM
      clear hrd hrm BD MD BM MM
      go_loopw [10, 11, 12] (fun iv _ _ wx => ∃ (j : Nat) (P' : List Tri), j ≤ l.length ∧ iv = .int .i64 j ∧ Hid (Prs W wx P' ∧ P'.length = k ∧ (∀ j, pD P' j = pD P j) ∧ (∀ j, pM P' j = pM P j) ∧ HasRow wx fp 27 dg rowD ∧ HasRow wx fp 59 mg rowM)) (fun iv _ _ _ => (l.length - (intOf iv).toNat))
      case atStart => exact ⟨0, P, by omega, rfl, R0.out.1, HPN.out, fun _ => rfl, fun _ => rfl, R0.out.2.1, R0.out.2.2⟩
      case round =>
        clear R0
        obtain ⟨j, P', hj, rfl, hT⟩ := hrel
        by_cases hlt : j < l.length
        · obtain ⟨b1, o1, rfl, hop⟩ := HA2.out j hlt
          have hok := HOK.out l[j] (List.getElem_mem _)
          generalize l[j] = p at *
          obtain ⟨q, hq⟩ : ∃ q : Nat, p.which % ((k : Int) + 1) = (q : Int) := ⟨(p.which % ((k : Int) + 1)).toNat, by have := Int.emod_nonneg p.which (show (k : Int) + 1 ≠ 0 by omega); omega⟩
          have hqk : q < k + 1 := by have := Int.emod_lt_of_pos p.which (show (0 : Int) < (k : Int) + 1 by omega); omega
          have H24 := Lib.hid (fun w => round_calls p.which ((k : Int) + 1) hok.which.1 hok.which.2 (by omega) (by omega) w)
          rw [hq] at H24
          have hqi : (q : Int) < (k : Int) + 1 := by omega
          have hc1 := hT.out.1.ext.cell hop.c1
          have HSTEP := Lib.hid (fun w (h : Prs W w P') => h.step q p hok)
          obtain ⟨va, hva⟩ : ∃ x, pD P q = x := ⟨_, rfl⟩
          obtain ⟨vm, hvm⟩ : ∃ x, pM P q = x := ⟨_, rfl⟩
          rw [hT.out.2.2.1, hT.out.2.2.2.1, hva, hvm] at HSTEP
          have CB : Hid (∀ wx, Prs W wx P' ∨ Ext W wx → HasRow wx fp 27 dg rowD → HasRow wx fp 59 mg rowM → wx.cell? ⟨b1, o1 + j * 5, none⟩ = some (ci p.kind) ∧ wx.cell? ⟨b1, o1 + j * 5 + 1, none⟩ = some (ci p.which) ∧ wx.cell? ⟨b1, o1 + j * 5 + 2, none⟩ = some (ci p.n) ∧ wx.cell? ⟨b1, o1 + j * 5 + 3, none⟩ = some (cw p.far) ∧ wx.cell? ⟨b1, o1 + j * 5 + 4, none⟩ = some p.wv ∧ wx.cell? ⟨dg, q, none⟩ = some (.pointer va) ∧ wx.cell? ⟨mg, q, none⟩ = some (.pointer vm)) := fun wx h1 h2 h3 => by
            have h := hop.ext (show Ext W wx by rcases h1 with h | h; exact h.ext; exact h)
            refine ⟨h.c0, h.c1, h.c2, h.c3, h.c4, ?_, ?_⟩
            · rw [← hva]; exact HRD.out q hqk wx h2
            · rw [← hvm]; exact HRM.out q hqk wx h3
          have K9 := CB.out wr (Or.inl hT.out.1) hT.out.2.2.2.2.1 hT.out.2.2.2.2.2
          have HS : Hid (Calls Try.prog 35 #[.pointer va, .pointer vm, .agg #[ci p.kind, ci p.which, ci p.n, cw p.far, p.wv]] wr.drew fun e w' => e = .returned (.bool true) ∧ (∃ P'', Prs W w' P'' ∧ P''.length = k ∧ (∀ j, pD P'' j = pD P j) ∧ (∀ j, pM P'' j = pM P j) ∧ HasRow w' fp 27 dg rowD ∧ HasRow w' fp 59 mg rowM) ∧ (w'.cell? ⟨b1, o1 + j * 5, none⟩ = some (ci p.kind) ∧ w'.cell? ⟨b1, o1 + j * 5 + 1, none⟩ = some (ci p.which) ∧ w'.cell? ⟨b1, o1 + j * 5 + 2, none⟩ = some (ci p.n) ∧ w'.cell? ⟨b1, o1 + j * 5 + 3, none⟩ = some (cw p.far) ∧ w'.cell? ⟨b1, o1 + j * 5 + 4, none⟩ = some p.wv ∧ w'.cell? ⟨dg, q, none⟩ = some (.pointer va) ∧ w'.cell? ⟨mg, q, none⟩ = some (.pointer vm))) := by
            refine (HSTEP.out wr.drew (hT.out.1.ext' (Ext.refl wr).drew)).mono fun e w' ⟨h1, h2, P'', h3, h4, h5, h6⟩ => ?_
            have r1 := (hT.out.2.2.2.2.1.ext (Ext.refl wr).drew).oth h2 (by decide) (by decide)
            have r2 := (hT.out.2.2.2.2.2.ext (Ext.refl wr).drew).oth h2 (by decide) (by decide)
            exact ⟨h1, ⟨P'', h3, by rw [h4]; exact hT.out.2.1, fun j => by rw [h5, hT.out.2.2.1], fun j => by rw [h6, hT.out.2.2.2.1], r1, r2⟩, CB.out w' (Or.inr h3.ext) r1 r2⟩
          clear hva hvm hq hok hop HSTEP CB
          generalize p.kind = f0 at *
          generalize p.which = f1 at *
          generalize p.n = f2 at *
          generalize p.far = f3 at *
          generalize p.wv = f4 at *
          go_upto_region 18 with (first | (go_at_call 24; refine (H24.out _).mono ?_; clear H24; rintro e w' ⟨rfl, rfl⟩) | fail)
          go_region_held3 (fun w' => w'.cell? ⟨b1, o1 + j * 5, none⟩ = some (ci f0) ∧ w'.cell? ⟨b1, o1 + j * 5 + 1, none⟩ = some (ci f1) ∧ w'.cell? ⟨b1, o1 + j * 5 + 2, none⟩ = some (ci f2) ∧ w'.cell? ⟨b1, o1 + j * 5 + 3, none⟩ = some (cw f3) ∧ w'.cell? ⟨b1, o1 + j * 5 + 4, none⟩ = some f4 ∧ w'.cell? ⟨dg, q, none⟩ = some (.pointer va) ∧ w'.cell? ⟨mg, q, none⟩ = some (.pointer vm)) (first | exact K10 | exact K9)
            (first
              | (go_at_call 35; refine HS.out.mono ?_
                 rintro e w4 ⟨rfl, ⟨P'', q1⟩, K10⟩
                 have P4 := Lib.hid q1
                 clear q1))
          all_goals go_wp2_with fail
          all_goals exact ⟨⟨j + 1, P'', hlt, by simp, P4⟩, by simp only [intOf]; omega⟩
        · obtain rfl : j = l.length := by omega
          have T9 := Lib.hid hT.out
          have okN : Sop.ok W ⟨1, 0, 0, 0#64, .slice none 0 0, []⟩ := ⟨by simp, by simp, rd_nil, by simp⟩
          have HOKN := Lib.hid okN
          have hb0 : Bv 0#64 = 0 := rfl
          clear hT hj hlt HOK HA2 okN
          go_wp2_with fail
          go_loopw [13, 14] (fun iv _ wx => ∃ (q : Nat) (P' : List Tri), q ≤ k + 1 ∧ iv = .int .i64 q ∧ Hid (Prs W wx P' ∧ P'.length = k ∧ (∀ j, pD P' j = pD P j) ∧ (∀ j, pM P' j = pM P j) ∧ HasRow wx fp 27 dg rowD ∧ HasRow wx fp 59 mg rowM)) (fun iv _ _ => (k + 1 - (intOf iv).toNat))
          case atStart => exact ⟨0, _, by omega, rfl, T9.out⟩
          case round =>
            clear T9
            obtain ⟨q, P', hq, rfl, hT⟩ := hrel
            by_cases hlt : q < k + 1
            · have hqi : (q : Int) < (k : Int) + 1 := by omega
              have HSTEP := Lib.hid (fun w (h : Prs W w P') => h.step q _ HOKN.out)
              obtain ⟨va, hva⟩ : ∃ x, pD P q = x := ⟨_, rfl⟩
              obtain ⟨vm, hvm⟩ : ∃ x, pM P q = x := ⟨_, rfl⟩
              rw [hT.out.2.2.1, hT.out.2.2.2.1, hva, hvm] at HSTEP
              have CB : Hid (∀ wx, HasRow wx fp 27 dg rowD → HasRow wx fp 59 mg rowM → wx.cell? ⟨dg, q, none⟩ = some (.pointer va) ∧ wx.cell? ⟨mg, q, none⟩ = some (.pointer vm)) := fun wx h2 h3 => by
                refine ⟨?_, ?_⟩
                · rw [← hva]; exact HRD.out q hlt wx h2
                · rw [← hvm]; exact HRM.out q hlt wx h3
              have K9 := CB.out wr hT.out.2.2.2.2.1 hT.out.2.2.2.2.2
              have HS : Hid (Calls Try.prog 35 #[.pointer va, .pointer vm, .agg #[ci 1, ci 0, ci 0, .int .u64 0, .slice none 0 0]] wr.drew fun e w' => e = .returned (.bool true) ∧ (∃ P'', Prs W w' P'' ∧ P''.length = k ∧ (∀ j, pD P'' j = pD P j) ∧ (∀ j, pM P'' j = pM P j) ∧ HasRow w' fp 27 dg rowD ∧ HasRow w' fp 59 mg rowM) ∧ (w'.cell? ⟨dg, q, none⟩ = some (.pointer va) ∧ w'.cell? ⟨mg, q, none⟩ = some (.pointer vm))) := by
                refine (HSTEP.out wr.drew (hT.out.1.ext' (Ext.refl wr).drew)).mono fun e w' ⟨h1, h2, P'', h3, h4, h5, h6⟩ => ?_
                have r1 := (hT.out.2.2.2.2.1.ext (Ext.refl wr).drew).oth h2 (by decide) (by decide)
                have r2 := (hT.out.2.2.2.2.2.ext (Ext.refl wr).drew).oth h2 (by decide) (by decide)
                exact ⟨h1, ⟨P'', h3, by rw [h4]; exact hT.out.2.1, fun j => by rw [h5, hT.out.2.2.1], fun j => by rw [h6, hT.out.2.2.2.1], r1, r2⟩, CB.out w' r1 r2⟩
              clear hva hvm HSTEP CB
              go_upto_region 24 with (fail)
              go_region_held3 (fun w' => w'.cell? ⟨dg, q, none⟩ = some (.pointer va) ∧ w'.cell? ⟨mg, q, none⟩ = some (.pointer vm)) (first | exact K10 | exact K9)
                (first
                  | (go_at_call 35; refine HS.out.mono ?_
                     rintro e w4 ⟨rfl, ⟨P'', q1⟩, K10⟩
                     have P4 := Lib.hid q1
                     clear q1))
              all_goals go_wp2_with fail
              all_goals exact ⟨⟨q + 1, P'', hlt, by simp, P4⟩, by simp only [intOf]; omega⟩
            · obtain rfl : q = k + 1 := by omega
              have K9 : wr.cell? ⟨dg, k, none⟩ = some (.pointer none) := by
                rw [HRD.out k (by omega) wr hT.out.2.2.2.2.1]
                unfold pD
                rw [List.getElem?_eq_none (by rw [HPN.out]; exact Nat.le_refl _)]
                rfl
              have hi1 : IntKind.i64.wrap ((k : Int) + 1 - 1) = (k : Int) := by
                simp only [IntKind.wrap, IntKind.bits, IntKind.signed]; simp; omega
              have HE := Lib.hid hT.out.1.ext
              have hk1 : (k : Int) < (k : Int) + 1 := by omega
              clear hT HRD HRM hq hlt
              go_wp2_with (first | (go_at_call 31; refine (pick_nil _ _).mono ?_; rintro e w5 ⟨rfl, rfl⟩) | fail)
              go_ret
              exact ⟨rfl, HE.out⟩
theorem scripts_walk' (sv ov : Value) (seeds : List (BitVec 64)) (l : List Sop) (W : World) (hs : Rd W cw sv seeds) (hsm : seeds.length * 8 ≤ 140737488351232) (ho : RdO W ov l) (hok : ∀ o ∈ l, o.ok W) (hlm : l.length * 56 ≤ 140737488351232) :
    Calls Try.prog 10 #[sv, ov] W fun e w' => e = .returned (.bool true) ∧ Below W.heap.size W w' :=
  (scripts_walk sv ov seeds l W hs hsm ho hok hlm).mono fun e w' ⟨h1, h2⟩ => ⟨h1, h2.to⟩
end Go.Proofs.Ytaneknfhilfalaa
