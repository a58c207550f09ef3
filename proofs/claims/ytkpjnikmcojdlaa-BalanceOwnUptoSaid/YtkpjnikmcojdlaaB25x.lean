/- Layer 25: loads and owners that are written over where they lie (turnAbout). -/
import Derived.Test.YtkpjnikmcojdlaaTwo
import Derived.Test.YtkpjnikmcojdlaaB25v
namespace Go.Proofs.Ytkpjnikmcojdlaa
open Go.RowKit Ieee
set_option linter.unusedVariables false

theorem sum_comm (a b : Datum) : Datum.sum a b = Datum.sum b a := by
  cases a <;> cases b <;> simp [Datum.sum, Int.add_comm, Bool.and_comm, Int.min_comm]
  rename_i s t
  cases s <;> cases t <;> rfl
theorem add_nn {x y : Nat} (hx : nn x) (hy : good y) : ∃ z, good z ∧ floatBits .add .f64 x y = some z := by
  have e : floatBits .add .f64 x y = floatBits .add .f64 y x := by
    show D64.add x y = D64.add y x
    unfold Format.add
    rw [sum_comm]
  rw [e]
  exact add_good hy hx
theorem nn_word {x : Nat} (h : nn x) : x < 18446744073709551616 := by
  unfold nn good inf64 at h; omega
/-- the loads (at g1, with one more behind them) and the owners (at g2, likewise), that may be written over -/
structure Pr (W w : World) (B g1 k1 g2 k2 n : Nat) (L : List Nat) (x : Nat) (O : List Int) (y : Int) : Prop where
  l : Own w B 48 cf (.slice (some ⟨g1, 0, none⟩) (n + 1) k1) (L ++ [x])
  o : Own w B 3 ci (.slice (some ⟨g2, 0, none⟩) (n + 1) k2) (O ++ [y])
  nl : L.length = n
  no : O.length = n
  bar : Bar W w (.slice (some ⟨g1, 0, none⟩) 0 0) (.slice (some ⟨g2, 0, none⟩) 0 0)
theorem Own.head {α : Type} {w : World} {B : Nat} {T : TypeId} {f : α → Value} {g n k c : Nat} {L : List α} {x : α} (h : Own w B T f (.slice (some ⟨g, 0, none⟩) (n + 1) k) (L ++ [x])) (hn : L.length = n) : Rd w f (.slice (some ⟨g, 0, none⟩) n c) L := by
  obtain ⟨g', c', cur, e, _, hg, _, _, hc⟩ := h.form1 (by simp)
  injection e with e _ _
  injection e with e
  injection e with e
  subst e
  exact HasRow.rd (m := [x]) ⟨cur, hg, hc⟩ hn.symm
theorem Own.at' {α : Type} {w : World} {B : Nat} {T : TypeId} {f : α → Value} {g n k : Nat} {L : List α} {x : α} (h : Own w B T f (.slice (some ⟨g, 0, none⟩) (n + 1) k) (L ++ [x])) (hn : L.length = n) (i : Nat) (hi : i < L.length) :
    B ≤ g ∧ w.cell? ⟨g, i, none⟩ = some (f L[i]) ∧ w.frozen? ⟨g, i, none⟩ = false ∧ ∀ v, Own (w.setCell ⟨g, i, none⟩ (f v)) B T f (.slice (some ⟨g, 0, none⟩) (n + 1) k) (L.set i v ++ [x]) := by
  obtain ⟨qa, c, e, hf⟩ := h.form
  obtain ⟨g', e2, hB, _, hc, hfz, hs⟩ := hf i (by simp; omega)
  injection e with e _ _
  rw [e2] at e
  injection e with e
  injection e with e
  subst e
  refine ⟨hB, ?_, hfz, fun v => ?_⟩
  · rw [hc, List.getElem_append_left hi]
  · have := hs v
    rwa [List.set_append_left _ _ hi] at this
section
variable {W w w' : World} {B g1 k1 g2 k2 n : Nat} {L : List Nat} {x : Nat} {O : List Int} {y : Int}
theorem Pr.ne (h : Pr W w B g1 k1 g2 k2 n L x O y) : g1 ≠ g2 := fun e => by
  obtain ⟨g, c, cur, e1, _, hg, _⟩ := h.l.form1 (by simp)
  obtain ⟨g', c', cur', e2, _, hg', _⟩ := h.o.form1 (by simp)
  injection e1 with e1 _ _
  injection e1 with e1
  injection e1 with e1
  injection e2 with e2 _ _
  injection e2 with e2
  injection e2 with e2
  subst e e1 e2
  rw [hg] at hg'
  injection hg' with hg'
  injection hg' with _ hg'
  cases hg'
theorem Pr.ext (h : Pr W w B g1 k1 g2 k2 n L x O y) (e : Ext w w') : Pr W w' B g1 k1 g2 k2 n L x O y := ⟨e.own h.l, e.own h.o, h.nl, h.no, h.bar.ext e⟩
theorem Pr.setL (h : Pr W w B g1 k1 g2 k2 n L x O y) {i : Nat} (hi : i < n) (v : Nat) : Pr W (w.setCell ⟨g1, i, none⟩ (cf v)) B g1 k1 g2 k2 n (L.set i v) x O y :=
  ⟨(h.l.at' h.nl i (by rw [h.nl]; exact hi)).2.2.2 v, h.o.kept (grown_set w g1 i (cf v)) (Or.inr (fun e => h.ne (Option.some.inj e).symm)), by rw [List.length_set]; exact h.nl, h.no, h.bar.grown (grown_set w g1 i (cf v)) (fun k hk => Or.inl hk)⟩
theorem Pr.setO (h : Pr W w B g1 k1 g2 k2 n L x O y) {i : Nat} (hi : i < n) (v : Int) : Pr W (w.setCell ⟨g2, i, none⟩ (ci v)) B g1 k1 g2 k2 n L x (O.set i v) y :=
  ⟨h.l.kept (grown_set w g2 i (ci v)) (Or.inr (fun e => h.ne (Option.some.inj e))), (h.o.at' h.no i (by rw [h.no]; exact hi)).2.2.2 v, h.nl, by rw [List.length_set]; exact h.no, h.bar.grown (grown_set w g2 i (ci v)) (fun k hk => Or.inr hk)⟩
theorem Pr.cellL (h : Pr W w B g1 k1 g2 k2 n L x O y) {i : Nat} (hi : i < n) : w.cell? ⟨g1, i, none⟩ = some (cf (L[i]'(by rw [h.nl]; exact hi))) ∧ w.frozen? ⟨g1, i, none⟩ = false := by
  have h1 := h.l.at' h.nl i (by rw [h.nl]; exact hi)
  exact ⟨h1.2.1, h1.2.2.1⟩
theorem Pr.cellO (h : Pr W w B g1 k1 g2 k2 n L x O y) {i : Nat} (hi : i < n) : w.cell? ⟨g2, i, none⟩ = some (ci (O[i]'(by rw [h.no]; exact hi))) ∧ w.frozen? ⟨g2, i, none⟩ = false := by
  have h1 := h.o.at' h.no i (by rw [h.no]; exact hi)
  exact ⟨h1.2.1, h1.2.2.1⟩
theorem Pr.rdL (h : Pr W w B g1 k1 g2 k2 n L x O y) (c : Nat) : Rd w cf (.slice (some ⟨g1, 0, none⟩) n c) L := h.l.head h.nl
theorem Pr.rdO (h : Pr W w B g1 k1 g2 k2 n L x O y) (c : Nat) : Rd w ci (.slice (some ⟨g2, 0, none⟩) n c) O := h.o.head h.no
theorem Pr.again (h : Pr W w B g1 k1 g2 k2 n L x O y) : Pr w w B g1 k1 g2 k2 n L x O y := ⟨h.l, h.o, h.nl, h.no, Bar.refl _ _ _⟩
end
theorem leH_whl {y : Nat} (h : y ≤ 9007199254740992) : leH (whl y) = true := by
  have h1 := whl_mono h (Nat.le_refl _)
  rw [whl_top] at h1
  have hg : good 9214364837600034815 := by unfold good inf64; omega
  rw [leH_eq, show FloatKind.f64.format.order (whl y) 9214364837600034815 = _ from order_good (whl_good h) hg, Nat.compare_eq_lt.2 (by omega)]
  rfl
theorem gb_whl {y : Nat} (h : y ≤ 9007199254740992) : gb (whl y) = true := by
  have hg : good 0 := Nat.zero_le _
  rw [gb_eq, show FloatKind.f64.format.order (whl y) 0 = _ from order_good (whl_good h) hg]
  generalize whl y = z
  rcases Nat.eq_zero_or_pos z with h0 | h0
  · subst h0; rfl
  · rw [Nat.compare_eq_gt.2 h0]; rfl
theorem rest2_whl : ∀ (l : List Nat) (y : Nat), y + l.sum ≤ 9007199254740992 → rest2 (whl y) (l.map whl) = true
  | [], y, h => by rw [List.map_nil, rest2_nil]; exact leH_whl (by simpa using h)
  | x :: r, y, h => by
    rw [List.sum_cons] at h
    have e : fadd (whl y) (whl x) = whl (y + x) := by unfold fadd; rw [whl_add (by omega)]; rfl
    rw [List.map_cons, rest2_cons, if_pos (gb_whl (by omega)), e]
    exact rest2_whl r (y + x) (by omega)
theorem range_sum : ∀ n, n ≤ 64 → (List.range n).sum ≤ 9007199254740992 := by decide +kernel
theorem whl_right {n : Nat} {s : Int} (hn : n ≤ 64) (h0 : 0 < s) (h8 : s ≤ 8) : rightB ((List.range n).map whl) (List.replicate n 0) s = true := by
  have hs : ∀ o ∈ List.replicate n (0 : Int), stranger s o = false := fun o ho => by
    obtain ⟨_, rfl⟩ := List.mem_replicate.1 ho
    unfold stranger
    rw [decide_eq_false (by omega), decide_eq_false (by omega)]; rfl
  have ha : (List.replicate n (0 : Int)).any (stranger s) = false := by
    rw [List.any_eq_false]; intro o ho; rw [hs o ho]; decide
  have hr : rest2 0 ((List.range n).map whl) = true := by
    have := rest2_whl (List.range n) 0 (by rw [Nat.zero_add]; exact range_sum n hn)
    rwa [whl_zero] at this
  rw [right_crowd, hr]
  unfold crowd
  rw [ha, decide_eq_true (by simpa using hn), decide_eq_true h0, decide_eq_true h8, decide_eq_true (by simp)]
  rfl
theorem zeros_apply {n : Nat} {s : Int} (hn : n ≤ 64) (h0 : 0 < s) (h8 : s ≤ 8) : applied (List.replicate n 0) s [] = some (List.replicate n 0) := by
  have h := whl_right (n := n) hn h0 h8
  rw [right_crowd, Bool.and_eq_true] at h
  unfold applied
  rw [if_pos h.1]
  exact applyAll_nil _ _
theorem fill_list {α : Type} {F : Nat → α} {L : List α} {n : Nat} (hl : L.length = n) (h : ∀ q, q < n → L[q]? = some (F q)) : L = (List.range n).map F := by
  apply List.ext_getElem?
  intro q
  by_cases hq : q < n
  · rw [h q hq, List.getElem?_map, List.getElem?_range hq]; rfl
  · rw [List.getElem?_eq_none (by omega), List.getElem?_eq_none (by simp; omega)]
theorem fill_set {α : Type} {F : Nat → α} {L : List α} {k : Nat} (h : ∀ q, q < k → L[q]? = some (F q)) (hk : k < L.length) : ∀ q, q < k + 1 → (L.set k (F k))[q]? = some (F q) := fun q hq => by
  rw [List.getElem?_set]
  split
  · next e => subst e; first | rfl | (rw [if_pos hk])
  · exact h q (by omega)
theorem fill_const {α : Type} (a : α) (n : Nat) : (List.range n).map (fun _ => a) = List.replicate n a := by
  apply List.ext_getElem?
  intro q
  by_cases hq : q < n
  · simp [hq]
  · simp [hq]
theorem mem_set_nn {L : List Nat} {i v : Nat} (h : ∀ x ∈ L, nn x) (hv : nn v) : ∀ x ∈ L.set i v, nn x := fun x hx => by
  rcases List.mem_or_eq_of_mem_set hx with h1 | h1
  · exact h x h1
  · exact h1 ▸ hv
set_option maxHeartbeats 4000000 in
set_option maxRecDepth 100000 in
theorem turn_calls (B g1 k1 g2 k2 n c1 c2 : Nat) (L : List Nat) (x : Nat) (O : List Int) (y : Int) (W : World) (h : Pr W W B g1 k1 g2 k2 n L x O y) (hn : ∀ z ∈ L, nn z) (hc1 : n ≤ c1) (hc2 : n ≤ c2) (hm1 : c1 ≤ maxLen) (hm2 : c2 ≤ maxLen) (h64 : n ≤ 64) :
    Calls Try.prog 43 #[.slice (some ⟨g1, 0, none⟩) n c1, .slice (some ⟨g2, 0, none⟩) n c2] W fun e w' => e = .returned (.tuple #[]) ∧ ∃ L' O', Pr W w' B g1 k1 g2 k2 n L' x O' y ∧ ∀ z ∈ L', nn z := by
  have H0 := Lib.hid (And.intro h hn)
  have hc1' : (n : Int) ≤ c1 := by omega
  have hc2' : (n : Int) ≤ c2 := by omega
  have hm1' : (c1 : Int) ≤ 9223372036854775807 := by simp only [maxLen] at hm1; omega
  have hm2' : (c2 : Int) ≤ 9223372036854775807 := by simp only [maxLen] at hm2; omega
  have h64' : (n : Int) ≤ 64 := by omega
  clear h hn hc1 hc2 hm1 hm2
  go_enter Try.func43, Try.ntmps43
  go_wp2_with fail
  go_loopw [5] (fun iv wr => ∃ (i : Nat) (L' : List Nat), 2 * i ≤ n + 1 ∧ iv = .int .i64 i ∧ Hid (Pr W wr B g1 k1 g2 k2 n L' x O y ∧ ∀ z ∈ L', nn z)) (fun iv _ => (n - (intOf iv).toNat))
  case atStart => exact ⟨0, L, by omega, rfl, H0.out⟩
  case round =>
    clear H0
    obtain ⟨i, L', hi, rfl, hT⟩ := hrel
    have hw0 : IntKind.i64.wrap (2 * (i : Int)) = 2 * (i : Int) := wrap_id (by omega)
    have hw1 : IntKind.i64.wrap (2 * (i : Int) + 1) = 2 * (i : Int) + 1 := wrap_id (by omega)
    have hw2 : IntKind.i64.wrap ((n : Int) - 1) = (n : Int) - 1 := wrap_id (by omega)
    have hw3 : IntKind.i64.wrap ((n : Int) - 1 - (i : Int)) = (n : Int) - 1 - (i : Int) := wrap_id (by omega)
    by_cases hlt : 2 * i + 1 < n
    · have hlt' : 2 * (i : Int) + 1 < n := by omega
      obtain ⟨j, hj⟩ : ∃ j, j = n - 1 - i := ⟨_, rfl⟩
      have hji : (n : Int) - 1 - (i : Int) = (j : Int) := by omega
      have hjn : j < n := by omega
      have hjn' : (j : Int) < n := by omega
      have hin : i < n := by omega
      have hin' : (i : Int) < n := by omega
      rw [hji] at hw3
      obtain ⟨a1, a2⟩ := hT.out.1.cellL hin
      obtain ⟨b1, b2⟩ := hT.out.1.cellL hjn
      have hz1 := hT.out.2 _ (List.getElem_mem (l := L') (by rw [hT.out.1.nl]; exact hin))
      have hz2 := hT.out.2 _ (List.getElem_mem (l := L') (by rw [hT.out.1.nl]; exact hjn))
      generalize L'[i]'(by rw [hT.out.1.nl]; exact hin) = u at *
      generalize L'[j]'(by rw [hT.out.1.nl]; exact hjn) = v at *
      have HS := Lib.hid ((hT.out.1.setL hin v).setL hjn u)
      have HN := Lib.hid (mem_set_nn (i := j) (mem_set_nn (i := i) hT.out.2 hz2) hz1)
      clear hT hz1 hz2 hj hi
      go_wp2_with fail
      go_region
      go_wp2_with fail
      go_roundw
      case measure => simp only [intOf]; omega
      case rel => exact ⟨i + 1, _, by omega, by go_num, HS.out.ext ((Ext.refl _).drew), HN.out⟩
    · have hlt' : ¬ 2 * (i : Int) + 1 < n := by omega
      have H1 := Lib.hid hT.out
      clear hT hlt hi hw2 hw3
      go_wp2_with fail
      go_loopw [6] (fun iv wr => ∃ (i : Nat) (L' : List Nat) (O' : List Int), i ≤ n ∧ iv = .int .i64 i ∧ Hid (Pr W wr B g1 k1 g2 k2 n L' x O' y ∧ ∀ z ∈ L', nn z)) (fun iv _ => (n - (intOf iv).toNat))
      case atStart => exact ⟨0, L', O, by omega, rfl, H1.out⟩
      case round =>
        clear H1
        obtain ⟨i, L', O', hi, rfl, hT⟩ := hrel
        by_cases hlt : i < n
        · have hlt' : (i : Int) < n := by omega
          have hw1 : IntKind.i64.wrap ((n : Int) - 1) = (n : Int) - 1 := wrap_id (by omega)
          obtain ⟨j, hj⟩ : ∃ j, j = n - 1 := ⟨_, rfl⟩
          have hji : (n : Int) - 1 = (j : Int) := by omega
          have hjn : j < n := by omega
          have hjn' : (j : Int) < n := by omega
          rw [hji] at hw1
          obtain ⟨a1, a2⟩ := hT.out.1.cellO hlt
          obtain ⟨b1, b2⟩ := hT.out.1.cellO hjn
          obtain ⟨d1, d2⟩ := (hT.out.1.setO hlt (O'[j]'(by rw [hT.out.1.no]; exact hjn))).cellL hlt
          have hz1 := hT.out.2 _ (List.getElem_mem (l := L') (by rw [hT.out.1.nl]; exact hlt))
          generalize L'[i]'(by rw [hT.out.1.nl]; exact hlt) = u at *
          generalize O'[j]'(by rw [hT.out.1.no]; exact hjn) = v at *
          generalize O'[i]'(by rw [hT.out.1.no]; exact hlt) = v0 at *
          have hcv : ∀ w, (convert 3 48 (.int .i64 (i : Int))).run Try.prog w = .ok (cf (whl i)) w := fun w => by
            rw [run_convert_int_float (P := Try.prog) w 3 48 .i64 .f64 _ (by kernel_rfl) (by kernel_rfl)]
            unfold whl; rfl
          obtain ⟨z, hz, hadd⟩ := add_nn hz1 (whl_good (m := i) (by omega))
          have hfa := fun w => run_float_arith (P := Try.prog) w .add 48 .f64 _ _ _ hadd
          have HS := Lib.hid ((hT.out.1.setO hlt v).setL hlt z)
          have HN := Lib.hid (mem_set_nn (i := i) hT.out.2 (Or.inl hz))
          clear hT hz1 hz hj hi
          go_wp2_with fail
          go_roundw
          case measure => simp only [intOf]; omega
          case rel => exact ⟨i + 1, _, _, by omega, by go_num, HS.out, HN.out⟩
        · have HT := Lib.hid hT.out
          clear hT
          obtain rfl : n = i := by omega
          go_wp2_with fail
          go_end0
          exact ⟨rfl, _, _, HT.out⟩
end Go.Proofs.Ytkpjnikmcojdlaa
