/- Layer 8 (disk): a row of writes that are remembered, beside a disk. -/
import Derived.Test.YtjcbmlpfpcpakaaE8g
import Derived.Test.YtjcbmlpfpcpakaaD8s
import Derived.Test.YtjcbmlpfpcpakaaD8w
import Derived.Test.YtjcbmlpfpcpakaaOpnW
import Derived.Deep.RegionHeld3
namespace Go.Proofs.Ytjcbmlpfpcpakaa
open Go.RowKit
set_option linter.unusedVariables false
/-- a row of the call's own of writes, each with its bytes in memory of their own -/
structure RowI (w : World) (B : Nat) (rv : Value) (E : List We) : Prop where
  p : w.ownsRow B 39 2 rv E.length (E.flatMap prc)
  e : ∀ x ∈ E, (∃ ge, x.v = .slice (some ⟨ge, 0, none⟩) 64 67 ∧ LentAt w ge x.l) ∧ x.l.length = 64
theorem prc_at : ∀ (R : List We) (j : Nat), (hj : j < R.length) → (R.flatMap prc)[j * 2]? = some (ci R[j].s) ∧ (R.flatMap prc)[j * 2 + 1]? = some R[j].v
  | [], j, hj => by simp at hj
  | p :: r, 0, hj => ⟨rfl, rfl⟩
  | p :: r, j + 1, hj => by
    have := prc_at r j (by simpa using hj)
    rw [List.flatMap_cons, List.getElem?_append_right (by simp [prc]; omega), List.getElem?_append_right (by simp [prc]; omega)]
    simp only [prc, List.length_cons, List.length_nil]
    rw [show (j + 1) * 2 - (0 + 1 + 1) = j * 2 by omega, show (j + 1) * 2 + 1 - (0 + 1 + 1) = j * 2 + 1 by omega]
    exact this
section
variable {w w' : World} {B : Nat} {rv : Value} {E : List We}
theorem RowI.ext (h : RowI w B rv E) (e : Ext w w') : RowI w' B rv E := ⟨row_ext h.p e, fun x hx => by
  obtain ⟨⟨ge, h1, h2⟩, h3⟩ := h.e x hx
  exact ⟨⟨ge, h1, Blk.ext h2 e⟩, h3⟩⟩
theorem RowI.kp {g sb : Nat} (h : RowI w B rv E) (k : Kp g sb w w') (hg : ∃ c, Blk w g c 130) (hs : ∃ c, Blk w sb c 132) : RowI w' B rv E := by
  obtain ⟨cg, hg⟩ := hg
  obtain ⟨cs, hs⟩ := hs
  refine ⟨?_, fun x hx => ?_⟩
  · obtain ⟨h1, h2 | ⟨y, cap, cur, h2, h3, h4, h5⟩⟩ := h.p
    · exact ⟨h1, Or.inl h2⟩
    · have hb : Blk w y cur 39 := h4
      exact ⟨h1, Or.inr ⟨y, cap, cur, h2, h3, k.2 y cur 39 hb (fun e => by subst e; exact absurd (Blk.type hb hg) (by decide)) (fun e => by subst e; exact absurd (Blk.type hb hs) (by decide)) (by decide), h5⟩⟩
  · obtain ⟨⟨ge, h1, h2⟩, h3⟩ := h.e x hx
    have hb : Blk w ge _ 5 := h2
    exact ⟨⟨ge, h1, k.2 ge _ 5 hb (fun e => by subst e; exact absurd (Blk.type hb hg) (by decide)) (fun e => by subst e; exact absurd (Blk.type hb hs) (by decide)) (by decide)⟩, h3⟩
theorem RowI.nil : RowI w B (.slice none 0 0) [] := ⟨⟨rfl, Or.inl ⟨rfl, rfl⟩⟩, fun x hx => by cases hx⟩
theorem RowI.rdw (h : RowI w B rv E) : RdW w rv E := by
  refine ⟨?_, fun x hx => ?_⟩
  · obtain ⟨h1, ⟨rfl, h2⟩ | ⟨y, cap, cur, rfl, h3, h4, h5, h6, h7, h8⟩⟩ := h.p
    · exact ⟨none, 0, by rw [h2], by omega, fun j hj => by omega⟩
    · refine ⟨_, cap, rfl, by unfold maxLen at h6; omega, fun j hj => ⟨y, 0, rfl, ?_⟩⟩
      obtain ⟨k1, k2⟩ := prc_at E j hj
      rw [← h8, List.getElem?_take] at k1 k2
      rw [Nat.zero_add, cell_of_row w y _ cur 39 (0, 0) h4, cell_of_row w y _ cur 39 (0, 0) h4]
      constructor
      · split at k1
        · simpa using k1
        · cases k1
      · split at k2
        · simpa using k2
        · cases k2
  · obtain ⟨⟨ge, h1, h2⟩, h3⟩ := h.e x hx
    refine ⟨⟨ge, 0, 67, h1, by decide, by decide, fun j v hv => ?_⟩, h3⟩
    obtain ⟨hj, rfl⟩ := List.getElem?_eq_some_iff.1 hv
    rw [List.length_map] at hj
    rw [Nat.zero_add, h2.cell, V_get, List.getElem?_append_left hj, List.getElem?_eq_getElem hj, List.getElem_map]
    rfl
theorem RowI.len (h : RowI w B rv E) : ∃ a c, rv = .slice a E.length c := by
  obtain ⟨h1, ⟨rfl, h2⟩ | ⟨y, cap, cur, rfl, h3, h4, h5⟩⟩ := h.p
  · exact ⟨none, 0, by rw [h2]⟩
  · exact ⟨_, _, rfl⟩
end
theorem Try.u34 : Try.prog.underlying 34 = some (.slice 39) := by kernel_rfl
theorem Try.info39 : (Try.prog.info? 39).map (fun i => (i.zero, i.size, i.bytes)) = some (some (.agg #[ci 0, .slice none 0 0]), 2, 32) := by kernel_rfl
/-- one write more, as one step of a region that draws -/
theorem step_append_we {ops : Array Oper} {o : Oper} {a : Act} {w : World} {K : Act → World → Prop} {Q : Exit → Act → World → Prop} {X : Prop} (hgd : o.guard = none) (s x : Operand)
    (ho : o.op = .call { callee := .builtin .append, args := #[s, x], argTypes := #[34, 34] })
    (B : Nat) (rv : Value) (E : List We) (hs : a.eval s = rv) (hown : RowI w B rv E) (b c : Nat) (y : We) (hx : a.eval x = .slice (some ⟨b, 0, none⟩) 1 c) (hb : Blk w b (prc y).toArray 39) (hy : ∃ ge, y.v = .slice (some ⟨ge, 0, none⟩) 64 67 ∧ LentAt w ge y.l) (hyl : y.l.length = 64)
    (hn : (E.length + 1) * 32 ≤ 140737488355328) (hB : B ≤ w.heap.size)
    (h : ∀ rv' w', RowI w' B rv' (E ++ [y]) → w.grownBy w' rv.ownBlock → K (a.put o.dst rv') w') : if Region.wanted o (yielded ops a.tmps) = true then Oper.wp Try.prog o a w K Q else X := by
  have hw : Region.wanted o (yielded ops a.tmps) = true := by simp [Region.wanted, hgd]
  rw [if_pos hw]
  obtain ⟨i, j1, j2, j3, j4⟩ := info_parts Try.info39
  have hone : ∀ u ∈ prc y, u.oneCell' = true := fun u hu => by
    obtain ⟨ge, hge, _⟩ := hy
    unfold prc at hu
    rcases List.mem_cons.1 hu with rfl | hu
    · rfl
    · rw [List.mem_singleton.1 hu, hge]; rfl
  obtain ⟨v', w', hr, h2, h3, _, h5⟩ := run_append_own_at (P := Try.prog) w B 34 o.type 39 i _ 2 32 Try.u34 j1 j2 j3 j4 (by simp [Value.cells]) (by decide) rv E.length (E.flatMap prc) hown.p ⟨b, 0, none⟩ 1 c (prc y) (by unfold prc; rfl)
    (fun j u hj => by
      rw [Addr.add_mid, Nat.zero_add, hb.cell]
      simpa using hj) hone (by unfold maxLen; omega) hn hB
  have e : E.flatMap prc ++ prc y = (E ++ [y]).flatMap prc := by rw [List.flatMap_append]; simp
  unfold Oper.wp execOp
  simp only [ho, resolve, invoke, builtin, Sem.run_bind, Sem.run_pure, Result.andThen_ok, List.map_toArray, List.map_cons, List.map_nil, hs, hx, hr]
  refine h v' w' ⟨?_, fun z hz => ?_⟩ h3
  · rw [List.length_append, List.length_singleton, ← e]
    exact h2
  · have keep : ∀ ge l, LentAt w ge l → LentAt w' ge l := fun ge l hl => Blk.grown hl h3 (fun e => ownsRow_type hown.p hl (by decide) e.symm)
    rcases List.mem_append.1 hz with hz | hz
    · obtain ⟨⟨ge, k1, k2⟩, k3⟩ := hown.e z hz
      exact ⟨⟨ge, k1, keep _ _ k2⟩, k3⟩
    · rw [List.mem_singleton.1 hz]
      obtain ⟨ge, k1, k2⟩ := hy
      exact ⟨⟨ge, k1, keep _ _ k2⟩, hyl⟩
/-- a write of whatever bytes to whatever sector -/
theorem DX.write_any {w0 w : World} {g sb : Nat} {d : Dk} (h : DX w0 w g sb d) (at' : Int) (dv : Value) (l : List (BitVec 8)) (hd : Rd w cb dv l) (hl : l.length ≤ 140737488351232) (hm : (d.R.length + 1) * 72 ≤ 140737488355328) :
    Calls Try.prog 27 #[.pointer (some ⟨g, 0, none⟩), ci at', dv] w fun e w' => ∃ (r : Int) (d' : Dk), e = .returned (ci r) ∧ DX w0 w' g sb d' ∧ Kp g sb w w' ∧
      ((r = 0 ∧ ∃ a : Nat, at' = a ∧ a < d.n ∧ l.length = 64 ∧ d' = writeD d a l) ∨ (r ≠ 0 ∧ d' = d)) := by
  rcases powP_cases d with hp | hp
  · by_cases hb : at' < 0 ∨ (d.n : Int) ≤ at'
    · refine (h.write_sector at' dv hp hb).mono ?_
      rintro e w' ⟨h1, rfl⟩
      exact ⟨81, d, h1, h, Kp.refl _ _ _, Or.inr ⟨by decide, rfl⟩⟩
    · obtain ⟨a, ha⟩ : ∃ a : Nat, at' = a := ⟨at'.toNat, by omega⟩
      subst ha
      have ha2 : a < d.n := by omega
      by_cases h64 : l.length = 64
      · exact (h.write a dv l hp ha2 h64 hd hm).mono fun e w' ⟨h1, h2, h3⟩ => ⟨0, _, h1, h2, h3, Or.inl ⟨rfl, a, rfl, ha2, h64, rfl⟩⟩
      · obtain ⟨da, dc, rfl⟩ := hd.form
        refine (h.write_size a da l.length dc hp ha2 h64 (by unfold maxLen; omega)).mono ?_
        rintro e w' ⟨h1, rfl⟩
        exact ⟨82, d, h1, h, Kp.refl _ _ _, Or.inr ⟨by decide, rfl⟩⟩
  · refine (h.write_power at' dv hp).mono ?_
    rintro e w' ⟨h1, rfl⟩
    exact ⟨80, d, h1, h, Kp.refl _ _ _, Or.inr ⟨by decide, rfl⟩⟩
theorem DX.sync_any {w0 w : World} {g sb : Nat} {d : Dk} (h : DX w0 w g sb d) :
    Calls Try.prog 29 #[.pointer (some ⟨g, 0, none⟩)] w fun e w' => ∃ (r : Int) (d' : Dk), e = .returned (ci r) ∧ DX w0 w' g sb d' ∧ Kp g sb w w' ∧ ((r = 0 ∧ d' = syncD d) ∨ (r ≠ 0 ∧ d' = d)) := by
  rcases powP_cases d with hp | hp
  · exact (h.sync hp).mono fun e w' ⟨h1, h2, h3⟩ => ⟨0, _, h1, h2, h3, Or.inl ⟨rfl, rfl⟩⟩
  · refine (h.sync_power hp).mono ?_
    rintro e w' ⟨h1, rfl⟩
    exact ⟨80, d, h1, h, Kp.refl _ _ _, Or.inr ⟨by decide, rfl⟩⟩
/-- what the loop over the writes keeps -/
structure CI (w0 w : World) (g sb n k : Nat) (rv : Value) (E : List We) (d : Dk) : Prop where
  x : DX w0 w g sb d
  r : RowI w w0.heap.size rv E
  n : d.n = n
  e : wR E = d.R
  l : E.length ≤ k
theorem CI.ext {w0 w w' : World} {g sb n k : Nat} {rv : Value} {E : List We} {d : Dk} (h : CI w0 w g sb n k rv E d) (e : Ext w w') : CI w0 w' g sb n k rv E d := ⟨h.x.ext e, h.r.ext e, h.n, h.e, h.l⟩
theorem wR_len (E : List We) : (wR E).length = E.length := by unfold wR; simp
theorem DX.row {w0 w w' : World} {g sb : Nat} {d : Dk} {rv : Value} {E : List We} (h : DX w0 w g sb d) (r : RowI w w0.heap.size rv E) (k : w.grownBy w' rv.ownBlock) : DX w0 w' g sb d := by
  obtain ⟨⟨cg, hg⟩, ⟨cs, hs⟩⟩ := h.gb
  obtain ⟨_, ⟨rfl, _⟩ | ⟨y, cap, cur, rfl, h3, h4, _⟩⟩ := r.p
  · exact h.ext (Ext.of ⟨k.os, k.tape, k.output, k.size, fun i hi => k.block i hi (fun e => by cases e)⟩)
  · have hb : Blk w y cur 39 := h4
    exact h.other hb (fun e => by subst e; exact absurd (Blk.type hb hg) (by decide)) (fun e => by subst e; exact absurd (Blk.type hb hs) (by decide)) (by decide) h3 ⟨k.os, k.tape, k.output, k.size, fun i hi hp => k.block i hi (fun e => hp (Option.some.inj e))⟩
theorem wR_app (E : List We) (y : We) : wR (E ++ [y]) = wR E ++ [(y.s, y.l)] := by unfold wR; simp
theorem Rd.rng {w : World} {b o n c : Nat} {l : List (BitVec 8)} (h : Rd w cb (.slice (some ⟨b, o, none⟩) n c) l) (h0 : 0 < l.length) : w.rangeAt b o (l.map cb) := by
  obtain ⟨b', o', c', e, hr⟩ := h.range h0
  injection e with e _ _
  injection e with e
  injection e with e1 e2 _
  subst e1 e2
  exact hr
theorem two_rd (w : World) : Rd (w.alloc (.cells #[.bool true, .bool true] 4)) Value.bool (.slice (some ⟨w.heap.size, 0, none⟩) 2 2) [true, true] := by
  have h := Blk.new w #[.bool true, .bool true] 4
  have h' : Blk (w.alloc (.cells #[.bool true, .bool true] 4)) w.heap.size (V Value.bool ([true, true] ++ [])) 4 := by rw [V_eq]; exact h
  exact Blk.rd h' rfl
end Go.Proofs.Ytjcbmlpfpcpakaa
