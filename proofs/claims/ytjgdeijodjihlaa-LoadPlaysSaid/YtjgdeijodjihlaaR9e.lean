/- Layer 9 (load): the reference: a new meter, the clock, a hit. -/
import Derived.Test.YtjgdeijodjihlaaR9d
import Derived.Deep.RegionLaw
namespace Go.Proofs.Ytjgdeijodjihlaa
open Go.RowKit
set_option linter.unusedVariables false

theorem i64w (x : Int) (h : -9223372036854775808 ≤ x ∧ x ≤ 9223372036854775807) : IntKind.i64.wrap x = x := IntWalk.i64_in x h
theorem rnew_calls (n h : Int) (w : World) : Calls Try.prog 23 #[ci n, ci h] w fun e w' =>
    (fitB n h = false ∧ e = .returned (.tuple #[.pointer none, ci 2]) ∧ w = w') ∨
    (fitB n h = true ∧ e = .returned (.tuple #[.pointer (some ⟨w.heap.size, 0, none⟩), ci 0]) ∧ w.alloc (.cells #[ci n, ci h, ci 0, .slice none 0 0] 71) = w') := by
  by_cases h1 : n < 1
  · have hf : Hid (fitB n h = false) := by show _ = _; unfold fitB; simp; omega
    have d1 : decide (n < 1) = true := decide_eq_true h1
    clear h1
    go_enter Try.func23, Try.ntmps23
    go_wp2_with fail
    go_ret2
    exact Or.inl ⟨hf.out, rfl, rfl⟩
  · have d1 : decide (n < 1) = false := decide_eq_false h1
    by_cases h2 : 64 < n
    · have hf : Hid (fitB n h = false) := by show _ = _; unfold fitB; simp; omega
      have d2 : decide (64 < n) = true := decide_eq_true h2
      clear h1 h2
      go_enter Try.func23, Try.ntmps23
      go_wp2_with fail
      go_ret2
      exact Or.inl ⟨hf.out, rfl, rfl⟩
    · have d2 : decide (64 < n) = false := decide_eq_false h2
      by_cases h3 : h < 1
      · have hf : Hid (fitB n h = false) := by show _ = _; unfold fitB; simp; omega
        have d3 : decide (h < 1) = true := decide_eq_true h3
        clear h1 h2 h3
        go_enter Try.func23, Try.ntmps23
        go_wp2_with fail
        go_ret2
        exact Or.inl ⟨hf.out, rfl, rfl⟩
      · have d3 : decide (h < 1) = false := decide_eq_false h3
        by_cases h4 : 1048576 < h
        · have hf : Hid (fitB n h = false) := by show _ = _; unfold fitB; simp; omega
          have d4 : decide (1048576 < h) = true := decide_eq_true h4
          clear h1 h2 h3 h4
          go_enter Try.func23, Try.ntmps23
          go_wp2_with fail
          go_ret2
          exact Or.inl ⟨hf.out, rfl, rfl⟩
        · have hf : Hid (fitB n h = true) := (fitB_iff n h).2 (by omega)
          have d4 : decide (1048576 < h) = false := decide_eq_false h4
          clear h1 h2 h3 h4
          go_enter Try.func23, Try.ntmps23
          go_wp2_with fail
          go_ret2
          exact Or.inr ⟨hf.out, rfl, rfl⟩
/-- the reference's clock: what it answers, and what it writes -/
theorem rgo_calls (r : Nat) (m : Mt) (av : Value) (A : List Ht) (t : Int) (W : World) (h : Rm W r m av A) :
    Calls Try.prog 35 #[.pointer (some ⟨r, 0, none⟩), ci t] W fun e w' => e = .returned (ci (onP m t).1) ∧ ((onP m t).1 ≠ 0 ∧ W = w' ∨ (onP m t).1 = 0 ∧ W.setCell ⟨r, 2, none⟩ (ci t) = w') := by
  have k2 := h.b.c2
  have f2 := h.b.b.free 2
  unfold onP
  by_cases h1 : t < 0
  · rw [if_pos (Or.inl h1)]
    have d1 : decide (t < 0) = true := decide_eq_true h1
    clear h h1
    go_enter Try.func35, Try.ntmps35
    go_wp2_with fail
    go_ret
    exact ⟨rfl, Or.inl ⟨by decide, rfl⟩⟩
  · have d1 : decide (t < 0) = false := decide_eq_false h1
    by_cases h2 : 1099511627776 < t
    · rw [if_pos (Or.inr h2)]
      have d2 : decide (1099511627776 < t) = true := decide_eq_true h2
      clear h h1 h2
      go_enter Try.func35, Try.ntmps35
      go_wp2_with fail
      go_ret
      exact ⟨rfl, Or.inl ⟨by decide, rfl⟩⟩
    · rw [if_neg (by omega)]
      have d2 : decide (1099511627776 < t) = false := decide_eq_false h2
      by_cases h3 : t < m.now
      · rw [if_pos h3]
        have d3 : decide (t < m.now) = true := decide_eq_true h3
        clear h h1 h2 h3
        go_enter Try.func35, Try.ntmps35
        go_wp2_with fail
        go_ret
        exact ⟨rfl, Or.inl ⟨by decide, rfl⟩⟩
      · rw [if_neg h3]
        have d3 : decide (t < m.now) = false := decide_eq_false h3
        clear h h1 h2 h3
        go_enter Try.func35, Try.ntmps35
        go_wp2_with fail
        go_ret
        exact ⟨rfl, Or.inr ⟨(by first | rfl | trivial), rfl⟩⟩
/-- one element more, as one step of a region that draws -/
theorem step_append_row {P : Program} {ops : Array Oper} {o : Oper} {a : Act} {w : World} {K : Act → World → Prop} {Q : Exit → Act → World → Prop} {E : Prop} (hgd : o.guard = none) (s x : Operand) (t : TypeId)
    (ho : o.op = .call { callee := .builtin .append, args := #[s, x], argTypes := #[t, t] })
    (e : TypeId) (i : TypeInfo) (z : Value) (size bytes : Nat) (ht : P.underlying t = some (.slice e)) (hi : P.info? e = some i) (hz : i.zero = some z)
    (hsize : i.size = size) (hby : i.bytes = bytes) (hzs : z.cells.size = size) (hsz : 0 < size)
    (v : Value) (n : Nat) (xs : List Value) (hs : a.eval s = v) (hv : Rw w e size v n xs) (g c : Nat) (ys : List Value) (hx : a.eval x = .slice (some ⟨g, 0, none⟩) 1 c) (hl : ys.length = size)
    (hnews : ∀ j u, ys[j]? = some u → w.cell? ((⟨g, 0, none⟩ : Addr).add j) = some u) (h1 : ∀ u ∈ ys, u.oneCell' = true)
    (hbytes : (n + 1) * bytes ≤ 140737488355328) (h63 : n + 1 ≤ 9223372036854775807)
    (h : ∀ v' w', Rw w' e size v' (n + 1) (xs ++ ys) → (v'.ownBlock = v.ownBlock ∨ v'.ownBlock = some w.heap.size) → w.grownBy w' v.ownBlock → K (a.put o.dst v') w') :
    if Region.wanted o (yielded ops a.tmps) = true then Oper.wp P o a w K Q else E := by
  have hw : Region.wanted o (yielded ops a.tmps) = true := by simp [Region.wanted, hgd]
  rw [if_pos hw]
  obtain ⟨v', w', hr, h2, h3, h4, h5⟩ := run_append_row (P := P) w t o.type e i z size bytes ht hi hz hsize hby hzs hsz v n xs hv g c ys hl hnews h1 hbytes h63
  unfold Oper.wp execOp
  simp only [ho, resolve, invoke, builtin, Sem.run_bind, Sem.run_pure, Result.andThen_ok, List.map_toArray, List.map_cons, List.map_nil, hs, hx, hr]
  exact h v' w' h2 h3 h4
theorem cells_new (w : World) (c : List Value) (T : TypeId) : ∀ (j : Nat) (u : Value), c[j]? = some u → (w.alloc (.cells c.toArray T)).cell? ((⟨w.heap.size, 0, none⟩ : Addr).add j) = some u := fun j u hj => by
  rw [Addr.add_mid, Nat.zero_add, (Blk.new w c.toArray T).cell]
  simpa using hj
theorem Try.u69 : Try.prog.underlying 69 = some (.slice 78) := by kernel_rfl
theorem Try.info78 : (Try.prog.info? 78).map (fun i => (i.zero, i.size, i.bytes)) = some (some (.agg #[.int .i64 0, .int .i64 0, .float .f64 0]), 3, 24) := by kernel_rfl
theorem rhit_bad (r : Nat) (m : Mt) (av : Value) (A : List Ht) (s t : Int) (x : Nat) (W : World) (h : Rm W r m av A) (hx : x < 18446744073709551616) (hb : (hitP m s t x).1 ≠ 0) :
    Calls Try.prog 34 #[.pointer (some ⟨r, 0, none⟩), ci s, ci t, cf x] W fun e w' => e = .returned (ci (hitP m s t x).1) ∧ W = w' := by
  have k0 := h.b.c0
  have k2 := h.b.c2
  unfold hitP at hb ⊢
  by_cases h1 : s < 0
  · rw [if_pos (Or.inl h1)]
    have d1 : decide (s < 0) = true := decide_eq_true h1
    clear h hb h1
    go_enter Try.func34, Try.ntmps34
    go_wp2_with fail
    go_ret
    exact ⟨rfl, rfl⟩
  · have d1 : decide (s < 0) = false := decide_eq_false h1
    by_cases h2 : (m.L.length : Int) ≤ s
    · rw [if_pos (Or.inr (Or.inl h2))]
      have d2 : decide ((m.L.length : Int) ≤ s) = true := decide_eq_true h2
      clear h hb h1 h2
      go_enter Try.func34, Try.ntmps34
      go_wp2_with fail
      go_ret
      exact ⟨rfl, rfl⟩
    · have d2 : decide ((m.L.length : Int) ≤ s) = false := decide_eq_false h2
      cases hw : wtB x with
      | false =>
        rw [if_pos (Or.inr (Or.inr rfl))]
        unfold wtB at hw
        cases hg : gb x with
        | false =>
          have hg' : (FloatKind.f64.format.order x 0 == some .gt || FloatKind.f64.format.order x 0 == some .eq) = false := (gb_eq x).symm.trans hg
          clear h hb h1 h2 hw hg
          go_enter Try.func34, Try.ntmps34
          go_wp2_with fail
          go_ret
          exact ⟨rfl, rfl⟩
        | true =>
          have hg' : (FloatKind.f64.format.order x 0 == some .gt || FloatKind.f64.format.order x 0 == some .eq) = true := (gb_eq x).symm.trans hg
          have hl := gt_le hx hg
          rw [hg, Bool.true_and] at hw
          rw [hw, Bool.not_false] at hl
          have hl' : (FloatKind.f64.format.order x 4787326403894837248 == some .gt) = true := (gtB_eq x _).symm.trans hl
          clear h hb h1 h2 hw hg hl
          go_enter Try.func34, Try.ntmps34
          go_wp2_with fail
          go_ret
          exact ⟨rfl, rfl⟩
      | true =>
        have hwt : ¬ (s < 0 ∨ (m.L.length : Int) ≤ s ∨ wtB x = false) := by rw [hw]; rintro (c | c | c); exact h1 c; exact h2 c; cases c
        rw [hw] at hwt
        rw [hw] at hb
        rw [if_neg hwt] at hb ⊢
        have hw2 := hw
        unfold wtB at hw2
        rw [Bool.and_eq_true] at hw2
        have hg' : (FloatKind.f64.format.order x 0 == some .gt || FloatKind.f64.format.order x 0 == some .eq) = true := (gb_eq x).symm.trans hw2.1
        have hl := gt_le hx hw2.1
        rw [hw2.2, Bool.not_true] at hl
        have hl' : (FloatKind.f64.format.order x 4787326403894837248 == some .gt) = false := (gtB_eq x _).symm.trans hl
        by_cases h3 : (onP m t).1 = 0
        · rw [if_pos h3] at hb
          exact absurd rfl hb
        · rw [if_neg h3]
          unfold onP at h3 ⊢
          by_cases h4 : t < 0
          · rw [if_pos (Or.inl h4)]
            have d4 : decide (t < 0) = true := decide_eq_true h4
            clear h hb h1 h2 hw hw2 hl hwt h3 h4
            go_enter Try.func34, Try.ntmps34
            go_wp2_with fail
            go_ret
            exact ⟨rfl, rfl⟩
          · have d4 : decide (t < 0) = false := decide_eq_false h4
            by_cases h5 : 1099511627776 < t
            · rw [if_pos (Or.inr h5)]
              have d5 : decide (1099511627776 < t) = true := decide_eq_true h5
              clear h hb h1 h2 hw hw2 hl hwt h3 h4 h5
              go_enter Try.func34, Try.ntmps34
              go_wp2_with fail
              go_ret
              exact ⟨rfl, rfl⟩
            · have d5 : decide (1099511627776 < t) = false := decide_eq_false h5
              rw [if_neg (by omega)] at h3 ⊢
              by_cases h6 : t < m.now
              · rw [if_pos h6]
                have d6 : decide (t < m.now) = true := decide_eq_true h6
                clear h hb h1 h2 hw hw2 hl hwt h3 h4 h5 h6
                go_enter Try.func34, Try.ntmps34
                go_wp2_with fail
                go_ret
                exact ⟨rfl, rfl⟩
              · rw [if_neg h6] at h3
                exact absurd rfl h3
theorem rhit_fin {W W1 w1 w2 : World} {r n half T C x : Nat} {s : Int} {av v' : Value} {A : List Ht} (G1 : W.grownBy W1 (some r)) (e : Ext W1 w1) (B2 : Blk w2 r #[ci n, ci half, ci T, av] 71) (T1 : Rw w2 78 3 v' (A.length + 1) (A.flatMap h3 ++ [ci s, ci C, cf x]))
    (T2 : v'.ownBlock = av.ownBlock ∨ v'.ownBlock = some w1.heap.size) (T3 : w1.grownBy w2 av.ownBlock) (hne : av.ownBlock = none ∨ av.ownBlock ≠ some r) (hr : r < W1.heap.size) :
    RB (w2.setCell ⟨r, 3, none⟩ v') r n half T v' (A ++ [(s, C, x)]) ∧ Bar W (w2.setCell ⟨r, 3, none⟩ v') (.slice (some ⟨r, 0, none⟩) 0 0) av ∧ (v'.ownBlock = av.ownBlock ∨ ∃ k, v'.ownBlock = some k ∧ W.heap.size ≤ k) := by
  refine ⟨⟨B2.set 3 v', ?_⟩, ?_, ?_⟩
  · have h : Rw (w2.setCell ⟨r, 3, none⟩ v') 78 3 v' (A.length + 1) (A.flatMap h3 ++ [ci s, ci C, cf x]) := World.ownsRow.kept T1 (grown_set _ _ _ _) (by
      rcases T2 with e2 | e2
      · rw [e2]; exact hne
      · rw [e2]
        refine Or.inr (fun c => ?_)
        have := Option.some.inj c
        have := e.size
        omega)
    rw [List.length_append, List.flatMap_append]
    exact h
  · exact ((((Bar.refl W (.slice (some ⟨r, 0, none⟩) 0 0) av).grown G1 (fun k hk => Or.inl hk)).ext e).grown T3 (fun k hk => Or.inr hk)).grown (grown_set _ _ _ _) (fun k hk => Or.inl hk)
  · rcases T2 with e2 | e2
    · exact Or.inl e2
    · exact Or.inr ⟨_, e2, Nat.le_trans G1.size e.size⟩
theorem RB.ext' {w w' : World} {r n half now : Nat} {av : Value} {A : List Ht} {W : World} {q : Value} (h : RB w r n half now q A ∧ Bar W w (.slice (some ⟨r, 0, none⟩) 0 0) av ∧ (q.ownBlock = av.ownBlock ∨ ∃ k, q.ownBlock = some k ∧ W.heap.size ≤ k)) (e : Ext w w') : RB w' r n half now q A ∧ Bar W w' (.slice (some ⟨r, 0, none⟩) 0 0) av ∧ (q.ownBlock = av.ownBlock ∨ ∃ k, q.ownBlock = some k ∧ W.heap.size ≤ k) :=
  ⟨h.1.ext e, h.2.1.ext e, h.2.2⟩
set_option maxHeartbeats 2000000 in
set_option maxRecDepth 100000 in
theorem rhit_ok (r : Nat) (m : Mt) (av : Value) (A : List Ht) (s t : Int) (x : Nat) (W : World) (h : Rm W r m av A) (hx : x < 18446744073709551616) (hw : wtB x = true) (h1 : 0 ≤ s) (h2 : s < m.L.length) (h4 : 0 ≤ t) (h5 : t ≤ 1099511627776) (h6 : (m.now : Int) ≤ t) :
    Calls Try.prog 34 #[.pointer (some ⟨r, 0, none⟩), ci s, ci t, cf x] W fun e w' => e = .returned (ci 0) ∧ ∃ av', RB w' r m.L.length m.half t.toNat av' (A ++ [(s, t.toNat / m.half, x)]) ∧ Bar W w' (.slice (some ⟨r, 0, none⟩) 0 0) av ∧ (av'.ownBlock = av.ownBlock ∨ ∃ k, av'.ownBlock = some k ∧ W.heap.size ≤ k) := by
  obtain ⟨i78, j1, j2, j3, j4⟩ := info_parts Try.info78
  obtain ⟨aq, ac, rfl, -⟩ := h.b.row
  have k0 := h.b.c0
  have k2 := h.b.c2
  have f2 := h.b.b.free 2
  have hw2 := hw
  unfold wtB at hw2
  rw [Bool.and_eq_true] at hw2
  have hg' : (FloatKind.f64.format.order x 0 == some .gt || FloatKind.f64.format.order x 0 == some .eq) = true := (gb_eq x).symm.trans hw2.1
  have hl := gt_le hx hw2.1
  rw [hw2.2, Bool.not_true] at hl
  have hl' : (FloatKind.f64.format.order x 4787326403894837248 == some .gt) = false := (gtB_eq x _).symm.trans hl
  have d1 : decide (s < 0) = false := decide_eq_false (by omega)
  have d2 : decide ((m.L.length : Int) ≤ s) = false := decide_eq_false (by omega)
  have d4 : decide (t < 0) = false := decide_eq_false (by omega)
  have d5 : decide (1099511627776 < t) = false := decide_eq_false (by omega)
  have d6 : decide (t < m.now) = false := decide_eq_false (by omega)
  obtain ⟨T, rfl⟩ : ∃ T : Nat, t = (T : Int) := ⟨t.toNat, by omega⟩
  have d7 : decide (T < m.now) = false := decide_eq_false (by omega)
  have hh1 : 1 ≤ m.half := h.ok.h1
  rw [Int.toNat_natCast]
  obtain ⟨C, hC⟩ : ∃ C, T / m.half = C := ⟨_, rfl⟩
  have htd : Int.tdiv (T : Int) (m.half : Int) = (C : Int) := by rw [Int.tdiv_eq_ediv_of_nonneg (by omega), ← hC]; rfl
  have hCb : C ≤ T := by rw [← hC]; exact Nat.div_le_self _ _
  have hwr : wrap64 (C : Int) = C := wrap_in _ ⟨by omega, by omega⟩
  have hwi : IntKind.i64.wrap (C : Int) = C := i64w _ (by have h7 := hCb; clear hC htd; omega)
  have hh2 : ¬ m.half = 0 := Nat.one_le_iff_ne_zero.1 hh1
  have hh0 : (m.half : Int) ≠ 0 := fun e => hh2 (Int.ofNat.inj e)
  rw [hC]
  obtain ⟨W1, hW1⟩ : ∃ x, W.setCell ⟨r, 2, none⟩ (ci T) = x := ⟨_, rfl⟩
  have B1 : Blk W1 r #[ci m.L.length, ci m.half, ci T, .slice aq A.length ac] 71 := by rw [← hW1]; exact h.b.b.set 2 (ci T)
  have G1 : W.grownBy W1 (some r) := by rw [← hW1]; exact grown_set _ _ _ _
  have A1 : Rw W1 78 3 (.slice aq A.length ac) A.length (A.flatMap h3) := World.ownsRow.kept h.b.a G1 (by
    rcases Go.Proofs.Ytjgdeijodjihlaa.World.ownsRow.diff (T := 78) (U := 71) h.b.a (v := .slice (some ⟨r, 0, none⟩) 0 4) (s := 3) (t := 1) (C := 0) (m := 0) (ys := []) ⟨rfl, Or.inr ⟨r, 4, _, rfl, Nat.zero_le _, h.b.b, by omega, by unfold maxLen; omega, rfl, rfl⟩⟩ (by decide) with e | e
    · exact Or.inl e
    · exact Or.inr e)
  have c1 : W1.cell? ⟨r, 1, none⟩ = some (ci m.half) := B1.cell 1
  have c3 : W1.cell? ⟨r, 3, none⟩ = some (.slice aq A.length ac) := B1.cell 3
  have c3b : (W1.alloc (.cells #[ci s, ci C, cf x] 78)).cell? ⟨r, 3, none⟩ = some (.slice aq A.length ac) := (B1.alloc _).cell 3
  have HA := Lib.hid (And.intro B1 (And.intro A1 G1))
  have HW1 := Lib.hid hW1
  have HLEN := Lib.hid h.len
  have HNE : Hid (Value.ownBlock (.slice aq A.length ac) = none ∨ Value.ownBlock (.slice aq A.length ac) ≠ some r) := by
    rcases Go.Proofs.Ytjgdeijodjihlaa.World.ownsRow.diff (T := 78) (U := 71) h.b.a (v := .slice (some ⟨r, 0, none⟩) 0 4) (s := 3) (t := 1) (C := 0) (m := 0) (ys := []) ⟨rfl, Or.inr ⟨r, 4, _, rfl, Nat.zero_le _, h.b.b, by omega, by unfold maxLen; omega, rfl, rfl⟩⟩ (by decide) with e | e
    · exact Or.inl e
    · exact Or.inr e
  clear h hw hw2 hl h1 h2 h4 h5 h6 hC hW1 hCb B1 G1 A1
  go_enter Try.func34, Try.ntmps34
  go_upto_region 8 with fail
  rw [HW1.out]
  go_region_law (first
    | (refine step_append_row rfl (.tmp 52) (.tmp 62) 69 rfl 78 i78 (.agg #[ci 0, ci 0, cf 0]) 3 24 Try.u69 j1 j2 j3 j4 rfl (by decide) (.slice aq A.length ac) A.length (A.flatMap h3) rfl (Rw.ext HA.out.2.1 ((Ext.refl W1).drew.alloc _)) W1.heap.size 1 [ci s, ci C, cf x] rfl rfl (cells_new _ _ _) (fun u hu => by simp at hu; rcases hu with rfl | rfl | rfl <;> rfl) (by have := HLEN.out; omega) (by have := HLEN.out; omega) ?_
       intro v' w2 p1 p2 p3
       obtain ⟨qa, qc, rfl, -⟩ := p1.form
       have T1 := Lib.hid p1
       have T2 := Lib.hid p2
       have T3 := Lib.hid p3
       have B2 : Hid (Blk w2 r #[ci m.L.length, ci m.half, ci T, .slice aq A.length ac] 71) := ((HA.out.1.ext ((Ext.refl W1).drew.alloc _)).grown p3 (by rcases HNE.out with e | e; (rw [e]; intro c; cases c); exact fun c => e c.symm))
       have e1 := B2.out.cell 3
       have e2 := B2.out.free 3
       have FIN := Lib.hid (rhit_fin HA.out.2.2 ((Ext.refl W1).drew.alloc _) B2.out p1 p2 p3 HNE.out HA.out.1.lt)
       clear p1 p2 p3))
  all_goals (try go_wp2_with fail)
  all_goals go_ret
  all_goals exact ⟨rfl, _, RB.ext' FIN.out (by first | exact Ext.refl _ | exact (Ext.refl _).drew)⟩
end Go.Proofs.Ytjgdeijodjihlaa
