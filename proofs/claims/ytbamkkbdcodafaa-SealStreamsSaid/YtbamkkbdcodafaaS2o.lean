/- Two streams and a nil one, and what was written to each. -/
import Derived.Test.YtbamkkbdcodafaaS2n
namespace Go.Proofs.Ytbamkkbdcodafaa
open Go.RowKit
set_option linter.unusedVariables false

def lpv (g0 g1 j : Nat) : Value := if j = 0 then .pointer (some ⟨g0, 0, none⟩) else if j = 1 then .pointer (some ⟨g1, 0, none⟩) else .pointer none
def F32 : BitVec 32 := 0xFFFFFFFF#32
structure Sm (W w : World) (g0 g1 gl ga : Nat) (L A : Nat → List (BitVec 8)) (av : Nat → Value) : Prop where
  ext : Ext W w
  s0 : StrAt w g0 (tkn F32 (L 0)) (L 0).length
  s1 : StrAt w g1 (tkn F32 (L 1)) (L 1).length
  row : Blk w gl #[lpv g0 g1 0, lpv g0 g1 1, lpv g0 g1 2] 39
  all : Blk w ga #[av 0, av 1, av 2] 44
  own : ∀ j, j < 3 → Own w W.heap.size 5 cb (av j) (A j)
  ne : ∀ i j, i < 3 → j < 3 → i ≠ j → (av i).ownBlock = none ∨ (av i).ownBlock ≠ (av j).ownBlock
  lo : W.heap.size ≤ g0 ∧ W.heap.size ≤ g1 ∧ W.heap.size ≤ gl ∧ W.heap.size ≤ ga
  gne : g0 ≠ g1
theorem Blk.type {w : World} {g : Nat} {c c' : Array Value} {t t' : TypeId} (h : Blk w g c t) (k : Blk w g c' t') : t = t' := by
  unfold Blk at h k
  rw [h] at k
  injection k with k
  injection k with _ k
theorem Own.type {α : Type} {w : World} {B : Nat} {T : TypeId} {f : α → Value} {v : Value} {l : List α} {g : Nat} {c : Array Value} {t : TypeId} (h : Own w B T f v l) (k : Blk w g c t) (ht : T ≠ t) : some g ≠ v.ownBlock := by
  obtain ⟨_, ⟨rfl, _⟩ | ⟨g', cap, cur, rfl, _, hg, _⟩⟩ := h
  · intro e; cases e
  · intro e
    have : g = g' := Option.some.inj e
    subst this
    exact ht (Blk.type (show Blk w g cur T from hg) k)
theorem Sm.ext' {W w w' : World} {g0 g1 gl ga : Nat} {L A : Nat → List (BitVec 8)} {av : Nat → Value} (h : Sm W w g0 g1 gl ga L A av) (e : Ext w w') : Sm W w' g0 g1 gl ga L A av :=
  ⟨h.ext.trans e, Blk.ext h.s0 e, Blk.ext h.s1 e, h.row.ext e, h.all.ext e, fun j hj => e.own (h.own j hj), h.ne, h.lo, h.gne⟩
theorem Sm.drewN {W w : World} {g0 g1 gl ga : Nat} {L A : Nat → List (BitVec 8)} {av : Nat → Value} (h : Sm W w g0 g1 gl ga L A av) (m : Nat) : Sm W (w.drewN m) g0 g1 gl ga L A av :=
  ⟨h.ext.drewN _, h.s0, h.s1, h.row, h.all, fun j hj => (h.own j hj).drewN, h.ne, h.lo, h.gne⟩
theorem Sm.avlt {W w : World} {g0 g1 gl ga : Nat} {L A : Nat → List (BitVec 8)} {av : Nat → Value} (h : Sm W w g0 g1 gl ga L A av) {g : Nat} (hg : w.heap.size ≤ g) : ∀ j, j < 3 → (av j).ownBlock ≠ some g := fun j hj e => by
  have := ((h.own j hj).lt _ e).2
  omega
/-- a block of its own, that is none of these, is written over -/
theorem Sm.grown {W w w' : World} {g0 g1 gl ga g : Nat} {L A : Nat → List (BitVec 8)} {av : Nat → Value} {p : List (BitVec 8)} (h : Sm W w g0 g1 gl ga L A av) (hp : LentAt w g p) (hg : W.heap.size ≤ g) (hav : ∀ j, j < 3 → (av j).ownBlock ≠ some g) (k : w.grownBy w' (some g)) : Sm W w' g0 g1 gl ga L A av := by
  refine ⟨h.ext.grown1 k hg, Blk.grown h.s0 k (fun e => ?_), Blk.grown h.s1 k (fun e => ?_), h.row.grown k (fun e => ?_), h.all.grown k (fun e => ?_), fun j hj => (h.own j hj).kept k (Or.inr (hav j hj)), h.ne, h.lo, h.gne⟩
  · have := Option.some.inj e; subst this; exact absurd (Blk.type h.s0 hp) (by decide)
  · have := Option.some.inj e; subst this; exact absurd (Blk.type h.s1 hp) (by decide)
  · have := Option.some.inj e; subst this; exact absurd (Blk.type h.row hp) (by decide)
  · have := Option.some.inj e; subst this; exact absurd (Blk.type h.all hp) (by decide)
theorem Sm.cell {W w : World} {g0 g1 gl ga : Nat} {L A : Nat → List (BitVec 8)} {av : Nat → Value} (h : Sm W w g0 g1 gl ga L A av) (j : Nat) (hj : j < 3) : w.cell? ⟨gl, j, none⟩ = some (lpv g0 g1 j) := by
  rw [h.row.cell]
  match j, hj with
  | 0, _ => rfl
  | 1, _ => rfl
  | 2, _ => rfl
theorem Sm.allcell {W w : World} {g0 g1 gl ga : Nat} {L A : Nat → List (BitVec 8)} {av : Nat → Value} (h : Sm W w g0 g1 gl ga L A av) (j : Nat) (hj : j < 3) : w.cell? ⟨ga, j, none⟩ = some (av j) := by
  rw [h.all.cell]
  match j, hj with
  | 0, _ => rfl
  | 1, _ => rfl
  | 2, _ => rfl
theorem Sm.write {W w : World} {g0 g1 gl ga : Nat} {L A : Nat → List (BitVec 8)} {av : Nat → Value} (h : Sm W w g0 g1 gl ga L A av) (j : Nat) (hj : j < 3) (sv : Value) (p : List (BitVec 8)) (hp : Rd w cb sv p) (hb : (L j).length + p.length ≤ 9223372036854775807) :
    Calls Try.prog 22 #[lpv g0 g1 j, sv] w fun e w' => e = .returned (.tuple #[]) ∧ Sm W w' g0 g1 gl ga (upd L j (L j ++ p)) A av ∧ (∀ g c t, Blk w g c t → t ≠ 58 → Blk w' g c t) ∧ w.heap.size ≤ w'.heap.size := by
  have key : ∀ g w', w.grownBy w' (some g) → (∀ c t, Blk w g c t → t = 58) → (∀ g' c t, Blk w g' c t → t ≠ 58 → Blk w' g' c t) := fun g w' hg ht g' c t hq h58 => Blk.grown hq hg (fun e => by
    have := Option.some.inj e; subst this; exact absurd (ht _ _ hq) h58)
  match j, hj with
  | 0, _ =>
    refine (write_calls g0 _ _ sv p w h.s0 hp (by omega) (by omega) (by omega)).mono fun e w' ⟨he, hs, hg⟩ => ⟨he, ?_, key g0 w' hg (fun c t k => (Blk.type h.s0 k).symm), hg.size⟩
    refine ⟨h.ext.grown1 hg h.lo.1, by rw [upd_at, tkn_append]; simpa using hs, by rw [upd_ne _ _ _ (by decide)]; exact Blk.grown h.s1 hg (fun e => h.gne (Option.some.inj e).symm), h.row.grown hg (fun e => ?_), h.all.grown hg (fun e => ?_), fun j hj => (h.own j hj).kept hg (Or.inr (Ne.symm ((h.own j hj).type h.s0 (by decide)))), h.ne, h.lo, h.gne⟩
    · have := Option.some.inj e; subst this; exact absurd (Blk.type h.row h.s0) (by decide)
    · have := Option.some.inj e; subst this; exact absurd (Blk.type h.all h.s0) (by decide)
  | 1, _ =>
    refine (write_calls g1 _ _ sv p w h.s1 hp (by omega) (by omega) (by omega)).mono fun e w' ⟨he, hs, hg⟩ => ⟨he, ?_, key g1 w' hg (fun c t k => (Blk.type h.s1 k).symm), hg.size⟩
    refine ⟨h.ext.grown1 hg h.lo.2.1, by rw [upd_ne _ _ _ (by decide)]; exact Blk.grown h.s0 hg (fun e => h.gne (Option.some.inj e)), by rw [upd_at, tkn_append]; simpa using hs, h.row.grown hg (fun e => ?_), h.all.grown hg (fun e => ?_), fun j hj => (h.own j hj).kept hg (Or.inr (Ne.symm ((h.own j hj).type h.s1 (by decide)))), h.ne, h.lo, h.gne⟩
    · have := Option.some.inj e; subst this; exact absurd (Blk.type h.row h.s1) (by decide)
    · have := Option.some.inj e; subst this; exact absurd (Blk.type h.all h.s1) (by decide)
  | 2, _ =>
    refine (write_nil sv w).mono fun e w' ⟨he, hw⟩ => ?_
    subst hw
    exact ⟨he, ⟨h.ext, by rw [upd_ne _ _ _ (by decide)]; exact h.s0, by rw [upd_ne _ _ _ (by decide)]; exact h.s1, h.row, h.all, h.own, h.ne, h.lo, h.gne⟩, fun g c t k _ => k, Nat.le_refl _⟩
def sumv (L : Nat → List (BitVec 8)) (j : Nat) : Int := if j = 2 then 0 else Bv (~~~ tkn F32 (L j))
def lenv (L : Nat → List (BitVec 8)) (j : Nat) : Int := if j = 2 then 0 else ((L j).length : Int)
theorem Sm.sum {W w : World} {g0 g1 gl ga : Nat} {L A : Nat → List (BitVec 8)} {av : Nat → Value} (h : Sm W w g0 g1 gl ga L A av) (j : Nat) (hj : j < 3) :
    Calls Try.prog 24 #[lpv g0 g1 j] w fun e w' => e = .returned (.int .u32 (sumv L j)) ∧ w = w' := by
  match j, hj with
  | 0, _ => exact sum_calls g0 _ _ w h.s0
  | 1, _ => exact sum_calls g1 _ _ w h.s1
  | 2, _ => exact sum_nil w
theorem Sm.len {W w : World} {g0 g1 gl ga : Nat} {L A : Nat → List (BitVec 8)} {av : Nat → Value} (h : Sm W w g0 g1 gl ga L A av) (j : Nat) (hj : j < 3) :
    Calls Try.prog 25 #[lpv g0 g1 j] w fun e w' => e = .returned (.int .i64 (lenv L j)) ∧ w = w' := by
  match j, hj with
  | 0, _ => exact len_calls g0 _ _ w h.s0
  | 1, _ => exact len_calls g1 _ _ w h.s1
  | 2, _ => exact len_nil w
/-- what was written is laid behind what is kept of it -/
theorem Sm.put {W w w1 w2 : World} {g0 g1 gl ga : Nat} {L A : Nat → List (BitVec 8)} {av : Nat → Value} (h : Sm W w g0 g1 gl ga L A av) (j : Nat) (hj : j < 3) {v' : Value} {m : List (BitVec 8)} (ho : Own w1 W.heap.size 5 cb v' (A j ++ m)) (hg : w.grownBy w1 (av j).ownBlock) (hb : v'.ownBlock = (av j).ownBlock ∨ v'.ownBlock = some w.heap.size)
    (h2 : w2.heap = (w1.setCell ⟨ga, j, none⟩ v').heap ∧ w2.os = w1.os ∧ w2.tape = w1.tape ∧ w2.output = w1.output) : Sm W w2 g0 g1 gl ga L (upd A j (A j ++ m)) (upd av j v') := by
  have hne : ∀ k, k < 3 → k ≠ j → Own w1 W.heap.size 5 cb (av k) (A k) := fun k hk hkj => (h.own k hk).kept hg (h.ne k j hk hj hkj)
  have hav : ∀ {g c t}, Blk w g c t → (5 : Nat) ≠ t → Blk w1 g c t := fun {g c t} k ht => k.grown hg ((h.own j hj).type k ht)
  have a1 := hav h.all (by decide)
  have E1 : Ext W w1 := h.ext.grown hg (fun k hk => ((h.own j hj).lt k hk).1)
  have G2 : w1.grownBy w2 (some ga) := by
    have g := grown_set w1 ga j v'
    exact ⟨h2.2.1, h2.2.2.1, h2.2.2.2, by rw [h2.1]; exact g.size, fun k hk hne => by rw [h2.1]; exact g.block k hk hne⟩
  have far : ∀ {g c t}, Blk w1 g c t → t ≠ 44 → Blk w2 g c t := fun {g c t} k ht => k.grown G2 (fun e => by have := Option.some.inj e; subst this; exact ht (Blk.type k a1))
  have ofar : ∀ {v : Value} {l : List (BitVec 8)}, Own w1 W.heap.size 5 cb v l → Own w2 W.heap.size 5 cb v l := fun {v l} k => k.kept G2 (Or.inr (Ne.symm (k.type a1 (by decide))))
  refine ⟨E1.grown1 G2 h.lo.2.2.2, far (hav h.s0 (by decide)) (by decide), far (hav h.s1 (by decide)) (by decide), far (hav h.row (by decide)) (by decide), ?_, fun k hk => ?_, fun i k hi hk hik => ?_, h.lo, h.gne⟩
  · have k2 : Blk w2 ga (#[av 0, av 1, av 2].setIfInBounds j v') 44 := by
      have := a1.set j v'
      unfold Blk at this ⊢
      rw [h2.1]; exact this
    have e : #[av 0, av 1, av 2].setIfInBounds j v' = #[upd av j v' 0, upd av j v' 1, upd av j v' 2] := by
      match j, hj with
      | 0, _ => simp [upd]
      | 1, _ => simp [upd]
      | 2, _ => simp [upd]
    rw [e] at k2; exact k2
  · by_cases hkj : k = j
    · subst hkj; rw [upd_at, upd_at]; exact ofar ho
    · rw [upd_ne _ _ _ hkj, upd_ne _ _ _ hkj]; exact ofar (hne k hk hkj)
  · by_cases hij : i = j
    · subst hij
      rw [upd_at, upd_ne _ _ _ (Ne.symm hik)]
      rcases hb with b | b
      · rw [b]; exact h.ne i k hi hk hik
      · rw [b]; exact Or.inr (fun e => by have := ((h.own k hk).lt _ e.symm).2; omega)
    · rw [upd_ne _ _ _ hij]
      by_cases hkj : k = j
      · subst hkj
        rw [upd_at]
        rcases hb with b | b
        · rw [b]; exact h.ne i k hi hk hik
        · rw [b]; exact Or.inr (fun e => by have := ((h.own i hi).lt _ e).2; omega)
      · rw [upd_ne _ _ _ hkj]; exact h.ne i k hi hk hik
/-- append, as one step of a region that draws -/
theorem step_append_rd {P : Program} {α : Type} (f : α → Value) (hf1 : ∀ a, (f a).oneCell' = true) {ops : Array Oper} {o : Oper} {a : Act} {w : World} {K : Act → World → Prop} {Q : Exit → Act → World → Prop} {E : Prop} (hgd : o.guard = none) (s x : Operand) (t : TypeId)
    (ho : o.op = .call { callee := .builtin .append, args := #[s, x], argTypes := #[t, t] })
    (B : Nat) (e : TypeId) (i : TypeInfo) (z : α) (bytes : Nat) (ht : P.underlying t = some (.slice e)) (hi : P.info? e = some i) (hz : i.zero = some (f z))
    (hsize : i.size = 1) (hby : i.bytes = bytes) (hzs : (f z).cells.size = 1)
    (v : Value) (l : List α) (hs : a.eval s = v) (hown : Own w B e f v l) (sv : Value) (m : List α) (hx : a.eval x = sv) (hm : Rd w f sv m)
    (hbytes : (l.length + m.length) * bytes ≤ 140737488355328) (h63 : l.length + m.length ≤ 9223372036854775807) (hB : B ≤ w.heap.size)
    (h : ∀ v' w', Own w' B e f v' (l ++ m) → w.grownBy w' v.ownBlock → (v'.ownBlock = v.ownBlock ∨ v'.ownBlock = some w.heap.size) → K (a.put o.dst v') w') :
    if Region.wanted o (yielded ops a.tmps) = true then Oper.wp P o a w K Q else E := by
  have hw : Region.wanted o (yielded ops a.tmps) = true := by simp [Region.wanted, hgd]
  rw [if_pos hw]
  have hmx : l.length + m.length ≤ maxLen := by unfold maxLen; omega
  have fin : ∀ v' w', w'.ownsRow B e 1 v' (l.length + m.length) (l.map f ++ m.map f) → Own w' B e f v' (l ++ m) := fun v' w' h => by
    unfold Own; rw [List.length_append, List.map_append]; exact h
  have go : ∀ ad c, sv = .slice (some ad) m.length c → (∀ j u, (m.map f)[j]? = some u → w.cell? (ad.add j) = some u) → Oper.wp P o a w K Q := fun ad c hsv hnews => by
    obtain ⟨v', w', hr, h2, h3, _, h5⟩ := run_append_own_at (P := P) w B t o.type e i (f z) 1 bytes ht hi hz hsize hby hzs (by decide) v l.length (l.map f) hown ad m.length c (m.map f) (by simp) hnews (fun u hu => by
      obtain ⟨y, _, rfl⟩ := List.mem_map.1 hu
      exact hf1 y) hmx hbytes hB
    subst hsv
    unfold Oper.wp execOp
    simp only [ho, resolve, invoke, builtin, Sem.run_bind, Sem.run_pure, Result.andThen_ok, List.map_toArray, List.map_cons, List.map_nil, hs, hx, hr]
    exact h v' w' (fin v' w' h2) h3 h5
  rcases hm with ⟨ao, c, rfl, rfl, hc0⟩ | ⟨b, off, c, n, rfl, hn, hp, hc⟩
  · cases ao with
    | some ad => exact go ad c rfl (fun j u hj => by simp at hj)
    | none =>
      obtain rfl := hc0 rfl
      have hrun := run_append_owned_none (P := P) (w := w) B t o.type e i 1 ht hi v l.length (l.map f) hown
      unfold Oper.wp
      simp [execOp, ho, resolve, invoke, builtin, hs, hx, hrun, Result.andThen]
      exact h v w (by rw [List.append_nil]; exact hown) (World.grownBy.refl _ _) (Or.inl rfl)
  · subst hn
    exact go ⟨b, off, none⟩ c rfl (fun j u hu => by
      obtain ⟨hj, rfl⟩ := List.getElem?_eq_some_iff.1 hu
      rw [Addr.add_mid, hc j (by simpa using hj), List.getElem_map])
end Go.Proofs.Ytbamkkbdcodafaa
