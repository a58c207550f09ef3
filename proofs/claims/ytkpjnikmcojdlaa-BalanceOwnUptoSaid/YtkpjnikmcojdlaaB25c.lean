/- Layer 25 (balance): rows of moves, three numbers each. -/
import Derived.Test.YtkpjnikmcojdlaaB25b
namespace Go.Proofs.Ytkpjnikmcojdlaa
open Go.RowKit
set_option linter.unusedVariables false

abbrev Mv := Int × Int × Int
def f3 (m : Mv) : List Value := [ci m.1, ci m.2.1, ci m.2.2]
theorem f3_len (l : List Mv) : (l.flatMap f3).length = l.length * 3 := by
  induction l with
  | nil => rfl
  | cons m r ih => rw [List.flatMap_cons, List.length_append, ih]; simp [f3]; omega
theorem f3_at : ∀ (l : List Mv) (i : Nat) (hi : i < l.length), (l.flatMap f3)[i * 3]? = some (ci l[i].1) ∧ (l.flatMap f3)[i * 3 + 1]? = some (ci l[i].2.1) ∧ (l.flatMap f3)[i * 3 + 2]? = some (ci l[i].2.2)
  | m :: r, 0, _ => by simp [f3]
  | m :: r, i + 1, hi => by
    have ih := f3_at r i (by simpa using hi)
    have e : ∀ j, 3 ≤ j → ((m :: r).flatMap f3)[j]? = (r.flatMap f3)[j - 3]? := fun j hj => by
      rw [List.flatMap_cons, List.getElem?_append_right (by simpa [f3] using hj)]
      rfl
    rw [e _ (by omega), e _ (by omega), e _ (by omega)]
    rw [show (i + 1) * 3 - 3 = i * 3 by omega, show (i + 1) * 3 + 1 - 3 = i * 3 + 1 by omega, show (i + 1) * 3 + 2 - 3 = i * 3 + 2 by omega]
    simpa using ih
/-- a slice that reads as these moves -/
def RdM (w : World) (v : Value) (l : List Mv) : Prop :=
  (∃ a c, v = .slice a 0 c ∧ l = [] ∧ (a = none → c = 0)) ∨
  ∃ b o c n, v = .slice (some ⟨b, o, none⟩) n c ∧ n = l.length ∧ 0 < n ∧ ∀ j u, (l.flatMap f3)[j]? = some u → w.cell? ⟨b, o + j, none⟩ = some u
theorem RdM.of_cells {w w' : World} {v : Value} {l : List Mv} (h : RdM w v l) (hw : ∀ b o, b < w.heap.size → w'.cell? ⟨b, o, none⟩ = w.cell? ⟨b, o, none⟩) : RdM w' v l := by
  rcases h with h | ⟨b, o, c, n, h1, h2, h3, h⟩
  · exact Or.inl h
  · exact Or.inr ⟨b, o, c, n, h1, h2, h3, fun j u hj => by rw [hw b (o + j) (World.block_lt_of_cell? w _ (h j u hj))]; exact h j u hj⟩
theorem RdM.ext {w w' : World} {v : Value} {l : List Mv} (h : RdM w v l) (e : Ext w w') : RdM w' v l := h.of_cells (fun b o hlt => e.to.cell (p := ⟨b, o, none⟩) hlt)
theorem RdM.drewN {w : World} {v : Value} {l : List Mv} (h : RdM w v l) (n : Nat) : RdM (w.drewN n) v l := h.of_cells (fun _ _ _ => rfl)
theorem RdM.at {w : World} {v : Value} {l : List Mv} (h : RdM w v l) : ∃ ad c, v = .slice ad l.length c ∧ ∀ i, (hi : i < l.length) → ∃ b o, ad = some ⟨b, o, none⟩ ∧ w.cell? ⟨b, o + i * 3, none⟩ = some (ci l[i].1) ∧ w.cell? ⟨b, o + i * 3 + 1, none⟩ = some (ci l[i].2.1) ∧ w.cell? ⟨b, o + i * 3 + 2, none⟩ = some (ci l[i].2.2) := by
  rcases h with ⟨a, c, rfl, h0, _⟩ | ⟨b, o, c, n, rfl, hn, hp, hc⟩
  · subst h0
    exact ⟨a, c, rfl, fun i hi => absurd hi (by simp)⟩
  · refine ⟨some ⟨b, o, none⟩, c, by rw [hn], fun i hi => ⟨b, o, rfl, hc _ _ (f3_at l i hi).1, ?_, ?_⟩⟩
    · have := hc _ _ (f3_at l i hi).2.1
      rwa [← Nat.add_assoc] at this
    · have := hc _ _ (f3_at l i hi).2.2
      rwa [← Nat.add_assoc] at this
def OwnM (w : World) (B : Nat) (v : Value) (l : List Mv) : Prop := w.ownsRow B 29 3 v l.length (l.flatMap f3)
theorem OwnM.ext {w w' : World} {B : Nat} {v : Value} {l : List Mv} (h : OwnM w B v l) (e : Ext w w') : OwnM w' B v l := by
  obtain ⟨h1, h | ⟨g, cap, cur, h2, h3, h4, h5⟩⟩ := h
  · exact ⟨h1, Or.inl h⟩
  · exact ⟨h1, Or.inr ⟨g, cap, cur, h2, h3, e.heap h4, h5⟩⟩
theorem OwnM.made {w : World} {B : Nat} (hB : B ≤ w.heap.size) : OwnM (w.alloc (.cells #[] 29)) B (.slice (some ⟨w.heap.size, 0, none⟩) 0 0) [] :=
  World.ownsRow_made w #[] 0 hB (by unfold maxLen; omega) rfl
theorem OwnM.nil {w : World} {B : Nat} : OwnM w B (.slice none 0 0) [] := World.ownsRow_nil _ _ _ _
/-- its cells, one by one, and where they lie -/
theorem OwnM.has {w : World} {B : Nat} {v : Value} {l : List Mv} (h : OwnM w B v l) (hl : 0 < l.length) : ∃ (g c : Nat) (cur : Array Value), v = .slice (some ⟨g, 0, none⟩) l.length c ∧ B ≤ g ∧ w.heap[g]? = some (.cells cur 29 (0, 0)) ∧ l.length ≤ c ∧ c ≤ maxLen ∧ ∀ (j : Nat) (u : Value), (l.flatMap f3)[j]? = some u → cur[j]? = some u := by
  obtain ⟨h1, ⟨_, h0⟩ | ⟨g, cap, cur, rfl, hB, hg, hle, hmx, hsz, htake⟩⟩ := h
  · omega
  · refine ⟨g, cap, cur, rfl, hB, hg, hle, hmx, fun j u hj => ?_⟩
    rw [← htake, List.getElem?_take] at hj
    split at hj
    · simpa using hj
    · cases hj
theorem OwnM.rd {w : World} {B : Nat} {v : Value} {l : List Mv} (h : OwnM w B v l) : RdM w v l := by
  rcases Nat.eq_zero_or_pos l.length with h0 | h0
  · have e : l = [] := List.eq_nil_of_length_eq_zero h0
    subst e
    obtain ⟨h1, ⟨rfl, _⟩ | ⟨g, cap, cur, rfl, _⟩⟩ := h
    · exact Or.inl ⟨_, _, rfl, rfl, fun _ => rfl⟩
    · exact Or.inl ⟨_, _, rfl, rfl, fun h => by cases h⟩
  · obtain ⟨g, c, cur, rfl, _, hg, _, _, hc⟩ := h.has h0
    exact Or.inr ⟨g, 0, c, _, rfl, rfl, h0, fun j u hj => by rw [Nat.zero_add, cell_of_row w g j cur 29 (0, 0) hg]; exact hc j u hj⟩
theorem Try.u23 : Try.prog.underlying 23 = some (.slice 29) := by kernel_rfl
theorem Try.info29 : (Try.prog.info? 29).map (fun i => (i.zero, i.size, i.bytes)) = some (some (.agg #[.int .i64 0, .int .i64 0, .int .i64 0]), 3, 24) := by kernel_rfl
theorem f3_one (l : List Mv) : ∀ u ∈ l.flatMap f3, u.oneCell' = true := fun u hu => by
  obtain ⟨m, _, hm⟩ := List.mem_flatMap.1 hu
  simp [f3] at hm
  rcases hm with rfl | rfl | rfl <;> rfl
/-- 'append(v, x...)' of moves -/
theorem wpList_append_moves {ops : Array Oper} {rest : List Oper} {o : Oper} {a : Act} {w : World} {Q : Exit → Act → World → Prop} (hgd : o.guard = none) (s x : Operand)
    (ho : o.op = .call { callee := .builtin .append, args := #[s, x], argTypes := #[23, 23] }) (B : Nat)
    (v : Value) (l : List Mv) (hs : a.eval s = v) (hown : OwnM w B v l) (sv : Value) (m : List Mv) (hx : a.eval x = sv) (hm : RdM w sv m)
    (hbytes : (l.length + m.length) * 24 ≤ 140737488355328) (hB : B ≤ w.heap.size)
    (h : ∀ v' w', OwnM w' B v' (l ++ m) → w.grownBy w' v.ownBlock → (v'.ownBlock = v.ownBlock ∨ v'.ownBlock = some w.heap.size) → wpList Try.prog ops Q rest (a.put o.dst v') w') : wpList Try.prog ops Q (o :: rest) a w := by
  obtain ⟨i29, j1, j2, j3, j4⟩ := info_parts Try.info29
  have hmx : l.length + m.length ≤ maxLen := by unfold maxLen; omega
  have fin : ∀ v' w', w'.ownsRow B 29 3 v' (l.length + m.length) (l.flatMap f3 ++ m.flatMap f3) → OwnM w' B v' (l ++ m) := fun v' w' h => by
    unfold OwnM; rw [List.length_append, List.flatMap_append]; exact h
  have go : ∀ ad c, a.eval x = .slice (some ad) m.length c → (∀ j u, (m.flatMap f3)[j]? = some u → w.cell? (ad.add j) = some u) → wpList Try.prog ops Q (o :: rest) a w := fun ad c hx' hnews =>
    wpList_append_own_at w hgd s x 23 ho B 29 i29 _ 3 24 Try.u23 j1 j2 j3 j4 rfl (by decide) v l.length (l.flatMap f3) hs hown ad m.length c (m.flatMap f3) hx' (f3_len m) hnews (f3_one m) hmx hbytes hB
      (fun v' w' h1 h2 _ h4 => h v' w' (fin v' w' h1) h2 h4)
  rcases hm with ⟨ao, c, rfl, rfl, hc0⟩ | ⟨b, off, c, n, rfl, hn, hp, hc⟩
  · cases ao with
    | some ad => exact go ad c hx (fun j u hj => by simp at hj)
    | none =>
      obtain rfl := hc0 rfl
      exact wpList_append_own_none hgd s x 23 ho B 29 i29 3 Try.u23 j1 v l.length (l.flatMap f3) hs hown hx
        (h v w (by rw [List.append_nil]; exact hown) (World.grownBy.refl _ _) (Or.inl rfl))
  · subst hn
    exact go ⟨b, off, none⟩ c hx (fun j u hu => by rw [Addr.add_mid]; exact hc j u hu)
theorem sameMoves_calls (sa sb : Value) (l : List Mv) (w : World) (ha : RdM w sa l) (hb : RdM w sb l) (hl : l.length ≤ 9223372036854775807) :
    Calls Try.prog 15 #[sa, sb] w fun e w' => e = .returned (.bool true) ∧ ∃ n, w.drewN n = w' := by
  have hl' : (l.length : Int) ≤ 9223372036854775807 := by omega
  clear hl
  obtain ⟨ad, c, rfl, hA⟩ := ha.at
  obtain ⟨bd, d, rfl, hB⟩ := hb.at
  have HA := Lib.hid hA
  have HB := Lib.hid hB
  clear ha hb hA hB
  go_enter Try.func15, Try.ntmps15
  go_wp2_with fail
  go_loopw [5] (fun i wr => ∃ (k n : Nat), k ≤ l.length ∧ i = .int .i64 k ∧ wr = w.drewN n) (fun i _ => (l.length - (intOf i).toNat))
  case atStart => exact ⟨0, 0, by omega, rfl, rfl⟩
  case round =>
    obtain ⟨k, n, hk, rfl, rfl⟩ := hrel
    by_cases hlt : k < l.length
    · obtain ⟨b1, o1, rfl, a0, a1, a2⟩ := HA.out k hlt
      obtain ⟨b2, o2, rfl, b0, b1', b2'⟩ := HB.out k hlt
      generalize l[k] = y at *
      obtain ⟨x, y, z⟩ := y
      go_wp2_with fail
      go_quiet (fail)
      go_wp2_with fail
      go_roundw
      case measure => simp only [intOf]; omega
      case rel => exact ⟨k + 1, _, by omega, by go_num, rfl⟩
    · obtain rfl : l.length = k := by omega
      go_wp2_with fail
      go_ret
      exact ⟨rfl, _, rfl⟩
end Go.Proofs.Ytkpjnikmcojdlaa
