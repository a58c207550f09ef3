/- Layer 25 (balance): the program's next move. -/
import Derived.Test.YtkpjnikmcojdlaaB25l
import Derived.WalkMore
namespace Go.Proofs.Ytkpjnikmcojdlaa
open Go.RowKit
set_option linter.unusedVariables false

theorem ldS_good (v : Int) : ∀ (l : List Nat) (q : List Int) (y : Nat), good y → (∀ x ∈ l, nn x) → good (ldS v y l q)
  | [], q, y, hy, _ => by rw [ldS_nil]; exact hy
  | x :: r, [], y, hy, _ => by unfold ldS; exact hy
  | x :: r, o :: q, y, hy, h => by
    rw [ldS_cons]
    refine ldS_good v r q _ ?_ (fun z hz => h z (by simp [hz]))
    split
    · exact (fadd_eq hy (h x (by simp))).2
    · exact hy
theorem zero_good : good 0 := by unfold good inf64; omega
theorem sums_good {L : List Nat} {O : List Int} {n : Nat} (h : ∀ x ∈ L, nn x) : ∀ x ∈ sumsOf L O n, good x := fun x hx => by
  unfold sumsOf at hx
  obtain ⟨j, _, rfl⟩ := List.mem_map.1 hx
  exact ldS_good _ _ _ _ zero_good h
theorem left_good {L : List Nat} {O : List Int} {f i t : Nat} (h : ∀ x ∈ L, nn x) : good (leftOf L O f i t) := good_max (ldS_good _ _ _ _ zero_good h) (ldS_good _ _ _ _ zero_good h)
/-- the best move so far, as it lies -/
def bvv (f : Nat) : Option (Nat × Nat) → Array Value
  | none => #[ci 0, ci 0, ci 0]
  | some m => #[ci m.1, ci f, ci m.2]
structure Nx (w0 w wr : World) (rb bb : Nat) (ov nv : Value) (O : List Int) (S : List Nat) (B : Array Value) : Prop where
  ext : Ext w0 wr
  gr : w.grownBy wr ov.ownBlock
  o : Own wr w0.heap.size 3 ci ov O
  s : Own wr w0.heap.size 48 cf nv S
  r : Blk wr rb #[ci 0, ci 0, ci 0] 29
  b : Blk wr bb B 29
  ne : rb ≠ bb
  lo : w.heap.size ≤ rb ∧ w.heap.size ≤ bb ∧ w0.heap.size ≤ w.heap.size
theorem own_other {α β : Type} {w : World} {B B' : Nat} {T T' : TypeId} {f : α → Value} {f' : β → Value} {v v' : Value} {l : List α} {l' : List β} (h : Own w B T f v l) (h' : Own w B' T' f' v' l') (ht : T' ≠ T) : v.ownBlock = none ∨ v.ownBlock ≠ v'.ownBlock := by
  obtain ⟨h1, ⟨rfl, h0⟩ | ⟨g, cap, cur, rfl, hB, hg, hle, hmx, hsz, htake⟩⟩ := h
  · exact Or.inl rfl
  · exact Or.inr (h'.type (show Blk w g cur T from hg) ht)
theorem grown_set_new {w w' : World} {row : Option Nat} {g : Nat} (h : w.grownBy w' row) (hg : w.heap.size ≤ g) (i : Nat) (v : Value) : w.grownBy (w'.setCell ⟨g, i, none⟩ v) row := by
  have s := grown_set w' g i v
  exact ⟨s.os.trans h.os, s.tape.trans h.tape, s.output.trans h.output, Nat.le_trans h.size s.size, fun k hk hne => (s.block k (Nat.lt_of_lt_of_le hk h.size) (fun e => by have := Option.some.inj e; omega)).trans (h.block k hk hne)⟩
theorem Nx.ext' {w0 w wr wx : World} {rb bb : Nat} {ov nv : Value} {O : List Int} {S : List Nat} {B : Array Value} (h : Nx w0 w wr rb bb ov nv O S B) (e : Ext wr wx) : Nx w0 w wx rb bb ov nv O S B :=
  ⟨h.ext.trans e, grown_trans h.gr (e.grownBy _), e.own h.o, e.own h.s, h.r.ext e, h.b.ext e, h.ne, h.lo⟩
theorem Nx.at' {w0 w wr : World} {rb bb : Nat} {ov nv : Value} {O : List Int} {S : List Nat} {B : Array Value} (h : Nx w0 w wr rb bb ov nv O S B) {i : Nat} (hi : i < O.length) :
    ∃ g c, ov = .slice (some ⟨g, 0, none⟩) O.length c ∧ w0.heap.size ≤ g ∧ wr.cell? ⟨g, i, none⟩ = some (ci O[i]) ∧ wr.frozen? ⟨g, i, none⟩ = false ∧ ∀ x : Int, Nx w0 w (wr.setCell ⟨g, i, none⟩ (ci x)) rb bb ov nv (O.set i x) S B := by
  obtain ⟨qa, c, rfl, hform⟩ := h.o.form
  obtain ⟨g, rfl, hB, hgl, hc, hf, hset⟩ := hform i hi
  refine ⟨g, c, rfl, hB, hc, hf, fun x => ⟨h.ext.set hB _, grown_trans h.gr (grown_set _ _ _ _), hset x, h.s.kept (grown_set wr g i _) (own_other h.s h.o (by decide)), ?_, ?_, h.ne, h.lo⟩⟩
  · exact h.r.far _ (fun e => h.o.type h.r (by decide) (by rw [e]; rfl)) _
  · exact h.b.far _ (fun e => h.o.type h.b (by decide) (by rw [e]; rfl)) _
theorem Nx.put3 {w0 w wr : World} {rb bb : Nat} {ov nv : Value} {O : List Int} {S : List Nat} {x y z : Value} (h : Nx w0 w wr rb bb ov nv O S #[x, y, z]) (a b c : Value) :
    Nx w0 w (((wr.setCell ⟨bb, 0, none⟩ a).setCell ⟨bb, 1, none⟩ b).setCell ⟨bb, 2, none⟩ c) rb bb ov nv O S #[a, b, c] := by
  have g : wr.grownBy (((wr.setCell ⟨bb, 0, none⟩ a).setCell ⟨bb, 1, none⟩ b).setCell ⟨bb, 2, none⟩ c) (some bb) := grown_trans (grown_set _ _ _ _) (grown_trans (grown_set _ _ _ _) (grown_set _ _ _ _))
  have hl := h.lo
  refine ⟨h.ext.grown1 g (by omega), grown_set_new (grown_set_new (grown_set_new h.gr hl.2.1 _ _) hl.2.1 _ _) hl.2.1 _ _, h.o.kept g (Or.inr (Ne.symm (h.o.type h.b (by decide)))), h.s.kept g (Or.inr (Ne.symm (h.s.type h.b (by decide)))), h.r.grown g (fun e => h.ne (Option.some.inj e)), ?_, h.ne, h.lo⟩
  exact ((h.b.set 0 a).set 1 b).set 2 c
theorem Nx.fin3 {w0 w wr : World} {rb bb : Nat} {ov nv : Value} {O : List Int} {S : List Nat} {B : Array Value} (h : Nx w0 w wr rb bb ov nv O S B) (a b c : Value) :
    Own (((wr.setCell ⟨rb, 0, none⟩ a).setCell ⟨rb, 1, none⟩ b).setCell ⟨rb, 2, none⟩ c) w0.heap.size 3 ci ov O ∧ Ext w0 (((wr.setCell ⟨rb, 0, none⟩ a).setCell ⟨rb, 1, none⟩ b).setCell ⟨rb, 2, none⟩ c) ∧ w.grownBy (((wr.setCell ⟨rb, 0, none⟩ a).setCell ⟨rb, 1, none⟩ b).setCell ⟨rb, 2, none⟩ c) ov.ownBlock := by
  have g : wr.grownBy (((wr.setCell ⟨rb, 0, none⟩ a).setCell ⟨rb, 1, none⟩ b).setCell ⟨rb, 2, none⟩ c) (some rb) := grown_trans (grown_set _ _ _ _) (grown_trans (grown_set _ _ _ _) (grown_set _ _ _ _))
  have hl := h.lo
  exact ⟨h.o.kept g (Or.inr (Ne.symm (h.o.type h.r (by decide)))), h.ext.grown1 g (by omega), grown_set_new (grown_set_new (grown_set_new h.gr hl.1 _ _) hl.1 _ _) hl.1 _ _⟩
theorem bvv_three (f : Nat) (mm : Option (Nat × Nat)) : ∃ a b c : Int, bvv f mm = #[ci a, ci b, ci c] ∧ ∀ m, mm = some m → c = (m.2 : Int) := by
  cases mm with
  | none => exact ⟨0, 0, 0, rfl, fun m h => by cases h⟩
  | some m => exact ⟨m.1, f, m.2, rfl, fun m' h => by cases h; rfl⟩
theorem getD_mem (S : List Nat) (f : Nat) (h : f < S.length) : S.getD f 0 ∈ S := by rw [getD_eq 0 h]; exact List.getElem_mem _
set_option maxHeartbeats 4000000 in
set_option maxRecDepth 100000 in
theorem next_calls (lv ov : Value) (ld : List Nat) (O : List Int) (n : Nat) (w0 w : World) (h0 : Ext w0 w) (hl : Rd w0 cf lv ld) (ho : Own w w0.heap.size 3 ci ov O) (rt : Rt ld O (n : Int)) :
    Calls Try.prog 42 #[lv, ov, ci n] w fun e w' => e = .returned (.tuple #[.agg (bvv (fullOf (sumsOf ld O n)) (nextM ld O n)), .bool (nextM ld O n).isSome]) ∧ Own w' w0.heap.size 3 ci ov O ∧ Ext w0 w' ∧ w.grownBy w' ov.ownBlock := by
  have hn8 : (n : Int) ≤ 8 := rt.hi
  have hn1 : (0 : Int) < n := rt.lo
  have hO64 : (O.length : Int) ≤ 64 := by have := rt.many; omega
  obtain ⟨S, hS⟩ : ∃ S, sumsOf ld O n = S := ⟨_, rfl⟩
  have hSl : S.length = n := by rw [← hS, sumsOf_len]
  have hSg : ∀ x ∈ S, good x := by rw [← hS]; exact sums_good rt.nn
  obtain ⟨f, hf⟩ : ∃ f, fullOf S = f := ⟨_, rfl⟩
  have hfn : f < n := by rw [← hf, ← hSl]; exact fullOf_lt (by rw [hSl]; omega)
  obtain ⟨R, hR⟩ : ∃ R, nextM ld O n = R := ⟨_, rfl⟩
  have HR : Hid ((seekTo ld O S f n O.length).2 = R) := by show _ = _; rw [← hR, ← hf, ← hS]; rfl
  rw [hR, hS, hf]
  obtain ⟨qa, oc, rfl, -⟩ := ho.form
  obtain ⟨top, htop⟩ : ∃ x, S.getD f 0 = x := ⟨_, rfl⟩
  have HTOP := Lib.hid htop
  have X0 := Lib.hid (Ext.of_alloc (w := w) (.cells #[ci 0, ci 0, ci 0] 29))
  have H0 := Lib.hid h0
  have HL := Lib.hid hl
  have HO := Lib.hid ho
  have RT := Lib.hid rt
  have HSL := Lib.hid hSl
  have HSG := Lib.hid hSg
  have HF := Lib.hid hf
  have HFN := Lib.hid hfn
  have hfi : (f : Int) < n := by omega
  have H39 := Lib.hid (sums_calls lv _ ld O n _ ((h0.trans X0.out).rd hl) (X0.out.own ho).rd rt (by have := rt.len; have := rt.many; omega))
  rw [hS] at H39
  have RB := Lib.hid (Blk.new w #[ci 0, ci 0, ci 0] 29)
  clear h0 hl ho rt hSl hSg hf hfn hR hS htop
  go_enter Try.func42, Try.ntmps42
  go_wp2_with fail
  go_step3
  go_wp2_with (first
    | (go_at_call 39; refine H39.out.mono ?_; clear H39; rintro e w1 ⟨nv, rfl, o1, e1⟩
       have E1 := Lib.hid (X0.out.trans e1)
       have O1 := Lib.hid (o1.mono (H0.out.trans X0.out).size)
       have R1 := Lib.hid (RB.out.ext e1)
       have M1 := Lib.hid (max_calls nv S w1 o1.rd HSG.out (by rw [HSL.out]; omega) (by rw [HSL.out]; omega))
       clear o1 e1)
    | (go_at_call 49; refine M1.out.mono ?_; clear M1; rintro e w2 ⟨⟨mx, rfl, q1, q2, q3⟩, rfl⟩
       have I1 := Lib.hid (index_calls' nv S mx w1 O1.out.rd HSG.out q1 q3 q2 (by rw [HSL.out]; omega))
       rw [HF.out] at I1
       clear q1 q2 q3)
    | (go_at_call 48; refine I1.out.mono ?_; clear I1; rintro e w2 ⟨rfl, rfl⟩
       obtain ⟨qb, cc, rfl, hform⟩ := O1.out.form
       obtain ⟨sg, rfl, -, -, hcf, -, -⟩ := hform f (by rw [HSL.out]; exact HFN.out)
       have hSf : S.getD f 0 = S[f]'(by rw [HSL.out]; exact HFN.out) := getD_eq 0 _
       rw [← hSf, HTOP.out] at hcf
       rw [HSL.out] at O1 ⊢
       clear hform hSf)
    | fail)
  go_step3
  go_wp2_with fail
  have N0 : Hid (Nx w0 w (w1.alloc (.cells #[ci 0, ci 0, ci 0] 29)) w.heap.size w1.heap.size (.slice qa O.length oc) (.slice (some ⟨sg, 0, none⟩) n cc) O S #[ci 0, ci 0, ci 0]) := by
    have x := Ext.of_alloc (w := w1) (.cells #[ci 0, ci 0, ci 0] 29)
    refine ⟨H0.out.trans (E1.out.trans x), (E1.out.trans x).grownBy _, (E1.out.trans x).own HO.out, x.own O1.out, R1.out.ext x, Blk.new _ _ _, ?_, Nat.le_refl _, E1.out.size, H0.out.size⟩
    have := R1.out.lt; omega
  obtain ⟨w2, hw2⟩ : ∃ x, w1.alloc (.cells #[ci 0, ci 0, ci 0] 29) = x := ⟨_, rfl⟩
  obtain ⟨rb, hrb⟩ : ∃ x, w.heap.size = x := ⟨_, rfl⟩
  obtain ⟨bb, hbb⟩ : ∃ x, w1.heap.size = x := ⟨_, rfl⟩
  rw [hw2] at N0 ⊢
  rw [hrb, hbb] at N0
  rw [hrb, hbb]
  clear hw2 hbb O1 R1 E1 hcf X0 RB
  go_loopw [10, 12, 13, 14, 15, 30] (fun lv0 pv0 _ _ _ iv wr => ∃ (k : Nat), k ≤ O.length ∧ iv = .int .i64 k ∧ lv0 = cf (seekTo ld O S f n k).1 ∧ pv0 = .bool (seekTo ld O S f n k).2.isSome ∧ Hid (Nx w0 w wr rb bb (.slice qa O.length oc) (.slice (some ⟨sg, 0, none⟩) n cc) O S (bvv f (seekTo ld O S f n k).2) ∧ good (seekTo ld O S f n k).1)) (fun _ _ _ _ _ iv _ => (O.length - (intOf iv).toNat))
  case atStart => exact ⟨0, by omega, rfl, by rw [seekTo_zero, HTOP.out], by rw [seekTo_zero]; rfl, by rw [seekTo_zero]; exact N0.out, by rw [seekTo_zero]; exact HSG.out _ (getD_mem S f (by rw [HSL.out]; exact HFN.out))⟩
  case round =>
    clear N0
    obtain ⟨k, hk, rfl, rfl, rfl, hT⟩ := hrel
    by_cases hlt : k < O.length
    · obtain ⟨ob, oc', hov, hlo, hco, hfo, hset⟩ := hT.out.1.at' hlt
      injection hov with hov _ hcap
      subst hov hcap
      have hrow := seekTo_succ ld O S f n k
      have hO : O.getD k 0 = O[k] := getD_eq 0 hlt
      unfold rowAll at hrow
      rw [hO] at hrow
      have hok0 := seekTo_ok ld O S f n k hk
      obtain ⟨st, hst⟩ : ∃ x, seekTo ld O S f n k = x := ⟨_, rfl⟩
      rw [hst] at hT hrow hok0 ⊢
      have HROW := Lib.hid hrow
      have HOK0 := Lib.hid hok0
      clear hok0
      clear hrow hst
      by_cases he : O[k] = (f : Int)
      · have hin : O.set k (f : Int) = O := by
          apply List.ext_getElem (by simp)
          intro i h1 h2
          rw [List.getElem_set]
          split
          · rename_i e; subst e; exact he.symm
          · rfl
        have t1 : (O[k] != (f : Int)) = false := by simp [he]
        have HR2 : Hid (seekTo ld O S f n (k + 1) = rowTo ld O S f k st n) := by show _ = _; rw [HROW.out, if_pos he]
        have HSET := Lib.hid hset
        have HIN := Lib.hid hin
        have HLT := Lib.hid hlt
        have HOE : Hid (O.getD k 0 = (f : Int)) := by show _ = _; rw [hO]; exact he
        have N1 := Lib.hid hT.out
        rw [he] at hco t1
        clear hset hO he HROW hin hT hfo
        go_wp2_with fail
        go_loopw [10, 12, 14, 15, 40] (fun lv0 pv0 _ _ iv wx => ∃ (t : Nat), t ≤ n ∧ iv = .int .i64 t ∧ lv0 = cf (rowTo ld O S f k st t).1 ∧ pv0 = .bool (rowTo ld O S f k st t).2.isSome ∧ Hid (Nx w0 w wx rb bb (.slice (some ⟨ob, 0, none⟩) O.length oc) (.slice (some ⟨sg, 0, none⟩) n cc) O S (bvv f (rowTo ld O S f k st t).2) ∧ good (rowTo ld O S f k st t).1)) (fun _ _ _ _ iv _ => (n - (intOf iv).toNat))
        case atStart => exact ⟨0, by omega, rfl, rfl, rfl, N1.out⟩
        case round =>
          clear N1 hco HSET
          obtain ⟨t, ht, rfl, rfl, rfl, hT⟩ := hrel
          by_cases htn : t < n
          · obtain ⟨ob', oc2, hov, -, hco, hfo, hset⟩ := hT.out.1.at' HLT.out
            injection hov with hov _ hcap
            injection hov with hov
            injection hov with hov _ _
            subst hov hcap
            have hstep := rowTo_succ ld O S f k st t
            unfold stp at hstep
            have hok1 := rowTo_ok HOK0.out HLT.out HOE.out t ht
            obtain ⟨⟨l, mm⟩, hst⟩ : ∃ x, rowTo ld O S f k st t = x := ⟨_, rfl⟩
            rw [hst] at hT hstep hset hok1 ⊢
            have HOK1 := Lib.hid hok1
            clear hok1
            simp only at hT ⊢
            have HSTEP := Lib.hid hstep
            clear hstep hst
            by_cases htf : t = f
            · have t2 : ((t : Int) == (f : Int)) = true := by simp [htf]
              have HS2 : Hid (rowTo ld O S f k st (t + 1) = (l, mm)) := by show _ = _; rw [HSTEP.out, if_pos htf]
              clear hset htf HSTEP
              go_wp2_with fail
              go_roundw
              case measure => simp only [intOf]; omega
              case rel => exact ⟨t + 1, by omega, by go_num, by rw [HS2.out], by rw [HS2.out], by rw [HS2.out]; exact hT.out⟩
            · have t2 : ((t : Int) == (f : Int)) = false := by simp; omega
              rw [if_neg htf] at HSTEP
              have hle : leftOf ld O f k t = leftOf ld O f k t := rfl
              obtain ⟨x, hx⟩ : ∃ x, leftOf ld O f k t = x := ⟨_, rfl⟩
              have hgx : good x := by rw [← hx]; exact left_good RT.out.nn
              have hgl := hT.out.2
              have hx2 : max (ldS (f : Int) 0 ld (O.set k (t : Int))) (ldS (t : Int) 0 ld (O.set k (t : Int))) = x := hx
              have NA := Lib.hid (hset (t : Int))
              have NB := Lib.hid (hset (f : Int))
              rw [HIN.out] at NB
              have LL := Lib.hid (show ld.length = (O.set k (t : Int)).length by rw [List.length_set]; exact RT.out.len)
              have LM := Lib.hid (show ld.length ≤ 9223372036854775807 by have := RT.out.len; have := RT.out.many; omega)
              have L1 := Lib.hid (of_calls lv (.slice (some ⟨ob, 0, none⟩) O.length oc) ld (O.set k (t : Int)) f _ (NA.out.ext.rd HL.out) NA.out.o.rd LL.out RT.out.nn LM.out)
              have L2 := Lib.hid (of_calls lv (.slice (some ⟨ob, 0, none⟩) O.length oc) ld (O.set k (t : Int)) t _ (NA.out.ext.rd HL.out) NA.out.o.rd LL.out RT.out.nn LM.out)
              have hg1 : good (ldS (f : Int) 0 ld (O.set k (t : Int))) := ldS_good _ _ _ _ zero_good RT.out.nn
              have hg2 : good (ldS (t : Int) 0 ld (O.set k (t : Int))) := ldS_good _ _ _ _ zero_good RT.out.nn
              obtain ⟨p, hp⟩ : ∃ p, ldS (f : Int) 0 ld (O.set k (t : Int)) = p := ⟨_, rfl⟩
              obtain ⟨q, hq⟩ : ∃ p, ldS (t : Int) 0 ld (O.set k (t : Int)) = p := ⟨_, rfl⟩
              rw [hp] at L1 hx2 hg1
              rw [hq] at L2 hx2 hg2
              have hmx := fun (ts : Array TypeId) (ty : TypeId) (w : World) => run_max_good (P := Try.prog) ts ty hg1 hg2 w
              rw [hx2] at hmx
              have hog := ord_gt hgx hgl
              have hoe := ord_eq hgx hgl
              have HSTEP2 : Hid (rowTo ld O S f k st (t + 1) = if takes ld O S f k t (l, mm) = true then (x, some (k, t)) else (l, mm)) := by show _ = _; rw [HSTEP.out, hx]
              have HXX := Lib.hid hx
              have HGX := Lib.hid hgx
              have HGL := Lib.hid hgl
              have HTN := Lib.hid htn
              have htn' : (t : Int) < n := by omega
              have hcs : (wr.setCell ⟨ob, k, none⟩ (ci f)).cell? ⟨sg, t, none⟩ = some (cf (S.getD t 0)) := by
                obtain ⟨qz, cz, hvz, hfz⟩ := NB.out.s.form
                injection hvz with hvz _ _
                subst hvz
                obtain ⟨g', hg', _, _, hc', _, _⟩ := hfz t (by rw [HSL.out]; exact htn)
                injection hg' with hg'
                injection hg' with hg' _ _
                subst hg'
                rw [hc', getD_eq 0 (by rw [HSL.out]; exact htn)]
              have hgt0 : good (S.getD t 0) := HSG.out _ (getD_mem S t (by rw [HSL.out]; exact htn))
              obtain ⟨zt, hzt⟩ : ∃ z, S.getD t 0 = z := ⟨_, rfl⟩
              rw [hzt] at hcs hgt0
              have HZT := Lib.hid hzt
              have HGT0 := Lib.hid hgt0
              clear hset HSTEP hle hx hgx hgl hx2 hg1 hg2 hp hq htf hzt hgt0
              by_cases hlx : l < x
              · rw [decide_eq_true hlx] at hog
                have HS2 : Hid (rowTo ld O S f k st (t + 1) = (l, mm)) := by
                  show _ = _
                  rw [HSTEP2.out, if_neg]
                  unfold takes
                  rw [HXX.out, decide_eq_false (p := x < l) (by omega), decide_eq_false (p := x = l) (by omega)]
                  simp
                clear hlx hoe
                go_wp2_with (first
                  | (go_at_call 50; refine L1.out.mono ?_; clear L1; rintro e w3 ⟨⟨rfl, -⟩, rfl⟩)
                  | (go_at_call 50; refine L2.out.mono ?_; clear L2; rintro e w3 ⟨⟨rfl, -⟩, rfl⟩)
                  | fail)
                go_quiet (fail)
                go_wp2_with fail
                go_roundw
                case measure => simp only [intOf]; omega
                case rel => exact ⟨t + 1, by omega, by go_num, by rw [HS2.out], by rw [HS2.out], by rw [HS2.out]; exact ⟨NB.out.ext' ((Ext.refl _).drewN _), HGL.out⟩⟩
              · rw [decide_eq_false hlx] at hog
                by_cases hxe : x = l
                · rw [decide_eq_true hxe] at hoe
                  cases mm with
                  | none =>
                    have HS2 : Hid (rowTo ld O S f k st (t + 1) = (l, none)) := by
                      show _ = _
                      rw [HSTEP2.out, if_neg]
                      unfold takes
                      rw [HXX.out, decide_eq_false (p := x < l) (by omega)]
                      simp
                    clear hlx hxe
                    go_wp2_with (first
                      | (go_at_call 50; refine L1.out.mono ?_; clear L1; rintro e w3 ⟨⟨rfl, -⟩, rfl⟩)
                      | (go_at_call 50; refine L2.out.mono ?_; clear L2; rintro e w3 ⟨⟨rfl, -⟩, rfl⟩)
                      | fail)
                    go_quiet (fail)
                    go_wp2_with fail
                    go_roundw
                    case measure => simp only [intOf]; omega
                    case rel => exact ⟨t + 1, by omega, by go_num, by rw [HS2.out], by rw [HS2.out]; rfl, by rw [HS2.out]; exact ⟨NB.out.ext' ((Ext.refl _).drewN _), HGL.out⟩⟩
                  | some m =>
                    obtain ⟨am, bm⟩ := m
                    have hmn : bm < n := (HOK1.out.at' _ rfl).2.2.1
                    have hcb : (wr.setCell ⟨ob, k, none⟩ (ci f)).cell? ⟨bb, 2, none⟩ = some (ci bm) := NB.out.b.cell 2
                    have hcm : (wr.setCell ⟨ob, k, none⟩ (ci f)).cell? ⟨sg, bm, none⟩ = some (cf (S.getD bm 0)) := by
                      obtain ⟨qz, cz, hvz, hfz⟩ := NB.out.s.form
                      injection hvz with hvz _ _
                      subst hvz
                      obtain ⟨g', hg', _, _, hc', _, _⟩ := hfz bm (by rw [HSL.out]; exact hmn)
                      injection hg' with hg'
                      injection hg' with hg' _ _
                      subst hg'
                      rw [hc', getD_eq 0 (by rw [HSL.out]; exact hmn)]
                    have hgm : good (S.getD bm 0) := HSG.out _ (getD_mem S bm (by rw [HSL.out]; exact hmn))
                    have hmn' : (bm : Int) < n := by omega
                    obtain ⟨zm, hzm⟩ : ∃ z, S.getD bm 0 = z := ⟨_, rfl⟩
                    have HZM := Lib.hid hzm
                    rw [hzm] at hcm hgm
                    have hoz := ord_ge HGT0.out hgm
                    clear hgm hzm
                    by_cases hzz : zm ≤ zt
                    · rw [decide_eq_true hzz] at hoz
                      have HS2 : Hid (rowTo ld O S f k st (t + 1) = (l, some (am, bm))) := by
                        show _ = _
                        rw [HSTEP2.out, if_neg]
                        unfold takes
                        simp only
                        rw [HXX.out, HZT.out, HZM.out, decide_eq_false (p := x < l) (by omega), decide_eq_false (p := zt < zm) (by omega)]
                        simp
                      clear hlx hxe hzz
                      go_wp2_with (first
                        | (go_at_call 50; refine L1.out.mono ?_; clear L1; rintro e w3 ⟨⟨rfl, -⟩, rfl⟩)
                        | (go_at_call 50; refine L2.out.mono ?_; clear L2; rintro e w3 ⟨⟨rfl, -⟩, rfl⟩)
                        | fail)
                      go_quiet (fail)
                      go_wp2_with fail
                      go_roundw
                      case measure => simp only [intOf]; omega
                      case rel => exact ⟨t + 1, by omega, by go_num, by rw [HS2.out], by rw [HS2.out]; rfl, by rw [HS2.out]; exact ⟨NB.out.ext' ((Ext.refl _).drewN _), HGL.out⟩⟩
                    · rw [decide_eq_false hzz] at hoz
                      have HS2 : Hid (rowTo ld O S f k st (t + 1) = (x, some (k, t))) := by
                        show _ = _
                        rw [HSTEP2.out, if_pos]
                        unfold takes
                        simp only
                        rw [HXX.out, HZT.out, HZM.out]
                        simp
                        exact Or.inr ⟨hxe, by omega⟩
                      have hab : bvv f (some (am, bm)) = #[ci am, ci f, ci bm] := rfl
                      have NBP := Lib.hid NB.out
                      rw [hab] at NBP
                      have k0 : (wr.setCell ⟨ob, k, none⟩ (ci f)).cell? ⟨bb, 0, none⟩ = some (ci am) := NBP.out.b.cell 0
                      have k1 : (wr.setCell ⟨ob, k, none⟩ (ci f)).cell? ⟨bb, 1, none⟩ = some (ci f) := NBP.out.b.cell 1
                      have k2 : (wr.setCell ⟨ob, k, none⟩ (ci f)).cell? ⟨bb, 2, none⟩ = some (ci bm) := NBP.out.b.cell 2
                      have k3 := NBP.out.b.free 0
                      have k4 := NBP.out.b.free 1
                      have k5 := NBP.out.b.free 2
                      clear hab
                      clear hlx hxe hzz hcb
                      go_wp2_with (first
                        | (go_at_call 50; refine L1.out.mono ?_; clear L1; rintro e w3 ⟨⟨rfl, -⟩, rfl⟩)
                        | (go_at_call 50; refine L2.out.mono ?_; clear L2; rintro e w3 ⟨⟨rfl, -⟩, rfl⟩)
                        | fail)
                      go_quiet (fail)
                      go_wp2_with fail
                      go_roundw
                      case measure => simp only [intOf]; omega
                      case rel => exact ⟨t + 1, by omega, by go_num, by rw [HS2.out], by rw [HS2.out]; rfl, by rw [HS2.out]; exact ⟨(NBP.out.ext' ((Ext.refl _).drewN _)).put3 _ _ _, HGX.out⟩⟩
                · rw [decide_eq_false hxe] at hoe
                  have HS2 : Hid (rowTo ld O S f k st (t + 1) = (x, some (k, t))) := by
                    show _ = _
                    rw [HSTEP2.out, if_pos]
                    unfold takes
                    rw [HXX.out]
                    simp
                    exact Or.inl (by omega)
                  obtain ⟨a0, b0, c0, hab, -⟩ := bvv_three f mm
                  have NBP := Lib.hid NB.out
                  rw [hab] at NBP
                  have k0 : (wr.setCell ⟨ob, k, none⟩ (ci f)).cell? ⟨bb, 0, none⟩ = some (ci a0) := NBP.out.b.cell 0
                  have k1 : (wr.setCell ⟨ob, k, none⟩ (ci f)).cell? ⟨bb, 1, none⟩ = some (ci b0) := NBP.out.b.cell 1
                  have k2 : (wr.setCell ⟨ob, k, none⟩ (ci f)).cell? ⟨bb, 2, none⟩ = some (ci c0) := NBP.out.b.cell 2
                  have k3 := NBP.out.b.free 0
                  have k4 := NBP.out.b.free 1
                  have k5 := NBP.out.b.free 2
                  clear hab
                  clear hlx hxe
                  go_wp2_with (first
                    | (go_at_call 50; refine L1.out.mono ?_; clear L1; rintro e w3 ⟨⟨rfl, -⟩, rfl⟩)
                    | (go_at_call 50; refine L2.out.mono ?_; clear L2; rintro e w3 ⟨⟨rfl, -⟩, rfl⟩)
                    | fail)
                  go_quiet (fail)
                  go_wp2_with fail
                  go_roundw
                  case measure => simp only [intOf]; omega
                  case rel => exact ⟨t + 1, by omega, by go_num, by rw [HS2.out], by rw [HS2.out]; rfl, by rw [HS2.out]; exact ⟨(NBP.out.ext' ((Ext.refl _).drewN _)).put3 _ _ _, HGX.out⟩⟩
          · obtain rfl : t = n := by omega
            go_wp2_with fail
            go_roundw
            case measure => simp only [intOf]; omega
            case rel => exact ⟨k + 1, by omega, by go_num, by rw [HR2.out], by rw [HR2.out], by rw [HR2.out]; exact hT.out⟩
      · have t1 : (O[k] != (f : Int)) = true := by simp [he]
        have HR2 : Hid (seekTo ld O S f n (k + 1) = st) := by show _ = _; rw [HROW.out, if_neg he]
        generalize O[k] = y at *
        clear hset hO he HROW
        go_wp2_with fail
        go_roundw
        case measure => simp only [intOf]; omega
        case rel => exact ⟨k + 1, by omega, by go_num, by rw [HR2.out], by rw [HR2.out], by rw [HR2.out]; exact hT.out⟩
    · obtain rfl : k = O.length := by omega
      have HRR := HR.out
      generalize (seekTo ld O S f n O.length).1 = l at *
      rw [HRR] at hT ⊢
      obtain ⟨a, b, c, habc, -⟩ := bvv_three f R
      rw [habc] at hT
      have x0 : wr.cell? ⟨bb, 0, none⟩ = some (ci a) := hT.out.1.b.cell 0
      have x1 : wr.cell? ⟨bb, 1, none⟩ = some (ci b) := hT.out.1.b.cell 1
      have x2 : wr.cell? ⟨bb, 2, none⟩ = some (ci c) := hT.out.1.b.cell 2
      have y0 : wr.cell? ⟨rb, 0, none⟩ = some (ci 0) := hT.out.1.r.cell 0
      have y1 : wr.cell? ⟨rb, 1, none⟩ = some (ci 0) := hT.out.1.r.cell 1
      have y2 : wr.cell? ⟨rb, 2, none⟩ = some (ci 0) := hT.out.1.r.cell 2
      have z0 := hT.out.1.r.free 0
      have z1 := hT.out.1.r.free 1
      have z2 := hT.out.1.r.free 2
      have HT := Lib.hid hT.out.1
      clear hT hk hlt HRR
      have HABC := Lib.hid habc
      clear habc
      go_wp2_with fail
      rw [Exit.noGoto_ret]
      have B3 : Blk (((wr.setCell ⟨rb, 0, none⟩ (ci a)).setCell ⟨rb, 1, none⟩ (ci b)).setCell ⟨rb, 2, none⟩ (ci c)) rb #[ci a, ci b, ci c] 29 := ((HT.out.r.set 0 (ci a)).set 1 (ci b)).set 2 (ci c)
      have F3 := HT.out.fin3 (ci a) (ci b) (ci c)
      have hE : (((wr.setCell ⟨rb, 0, none⟩ (.int .i64 a)).setCell ⟨rb, 1, none⟩ (.int .i64 b)).setCell ⟨rb, 2, none⟩ (.int .i64 c)) = (((wr.setCell ⟨rb, 0, none⟩ (ci a)).setCell ⟨rb, 1, none⟩ (ci b)).setCell ⟨rb, 2, none⟩ (ci c)) := rfl
      rw [hE]
      generalize (((wr.setCell ⟨rb, 0, none⟩ (ci a)).setCell ⟨rb, 1, none⟩ (ci b)).setCell ⟨rb, 2, none⟩ (ci c)) = w3 at *
      have e0 : w3.cell? ⟨rb, 0, none⟩ = some (ci a) := B3.cell 0
      have e1 : w3.cell? ⟨rb, 1, none⟩ = some (ci b) := B3.cell 1
      have e2 : w3.cell? ⟨rb, 2, none⟩ = some (ci c) := B3.cell 2
      refine bodyPost_ret (v := .tuple #[.agg #[ci a, ci b, ci c], .bool R.isSome]) (by simp [results, Try.results42, go_sem, e0, e1, e2]) rfl ⟨?_, F3⟩
      rw [HABC.out]
end Go.Proofs.Ytkpjnikmcojdlaa
