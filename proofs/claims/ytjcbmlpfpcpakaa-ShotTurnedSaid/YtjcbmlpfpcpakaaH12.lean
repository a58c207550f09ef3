/- Layer 12 (shot): the state within a Save, and its ends. -/
import Derived.Test.YtjcbmlpfpcpakaaH11
namespace Go.Proofs.Ytjcbmlpfpcpakaa
open Go Go.RowKit
set_option linter.unusedVariables false
set_option linter.unusedSimpArgs false
/-- what is neither the disk's nor the object's stays as it was -/
def Kz (g sb o : Nat) (w w' : World) : Prop := w.heap.size ≤ w'.heap.size ∧ ∀ k c t, Blk w k c t → k ≠ g → k ≠ sb → k ≠ o → t ≠ 134 → Blk w' k c t
theorem Kz.refl (g sb o : Nat) (w : World) : Kz g sb o w w := ⟨Nat.le_refl _, fun _ _ _ h _ _ _ _ => h⟩
theorem Kz.trans {g sb o : Nat} {a b c : World} (h : Kz g sb o a b) (k : Kz g sb o b c) : Kz g sb o a c := ⟨Nat.le_trans h.1 k.1, fun i x t hb h1 h2 h3 h4 => k.2 i x t (h.2 i x t hb h1 h2 h3 h4) h1 h2 h3 h4⟩
theorem Kz.ext {g sb o : Nat} {a b : World} (h : Ext a b) : Kz g sb o a b := ⟨h.size, fun _ _ _ k _ _ _ _ => k.ext h⟩
theorem Kz.kp {g sb o : Nat} {a b : World} (h : Kp g sb a b) : Kz g sb o a b := ⟨h.1, fun k c t hb h1 h2 _ h4 => h.2 k c t hb h1 h2 h4⟩
theorem Kz.set {g sb o : Nat} {a : World} (i : Nat) (v : Value) : Kz g sb o a (a.setCell ⟨o, i, none⟩ v) := ⟨by show a.heap.size ≤ (Array.modify _ _ _).size; simp, fun k c t hb _ _ h3 _ => hb.far _ h3 v⟩
/-- a store into a block that is newer than w -/
theorem Kz.setNew {g sb o : Nat} {w a : World} (h : Kz g sb o w a) {p : Addr} (hp : w.heap.size ≤ p.block) (v : Value) : Kz g sb o w (a.setCell p v) := ⟨by show w.heap.size ≤ (Array.modify _ _ _).size; simp; exact h.1, fun k c t hb h1 h2 h3 h4 => (h.2 k c t hb h1 h2 h3 h4).far p (by have := hb.lt; omega) v⟩
theorem Kz.put {g sb o : Nat} {w a : World} (h : Kz g sb o w a) {r : Nat} {ob : Obj} (x : Obj) (hr : a.heap[r]? = some ob) (ho : ob.isCells = false) : Kz g sb o w (a.putObj r x) := ⟨by rw [World.putObj_size]; exact h.1, fun k c t hb h1 h2 h3 h4 => (h.2 k c t hb h1 h2 h3 h4).put x hr ho⟩
theorem Blk.ne {w : World} {a b : Nat} {c c' : Array Value} {t t' : TypeId} (h : Blk w a c t) (k : Blk w b c' t') (ht : t ≠ t') : a ≠ b := fun e => ht (by subst e; exact Blk.type h k)
theorem Rd.kp {α : Type} {w w' : World} {f : α → Value} {v : Value} {l : List α} (h : Rd w f v l) (hk : ∀ b, v.ownBlock = some b → ∃ c T, Blk w b c T ∧ Blk w' b c T) : Rd w' f v l := by
  rcases h with h | ⟨b, off, c, n, rfl, h2, h3, h4⟩
  · exact Or.inl h
  · obtain ⟨c1, T, b1, b2⟩ := hk b rfl
    refine Or.inr ⟨b, off, c, n, rfl, h2, h3, fun i hi => ?_⟩
    have := h4 i hi
    rw [b1.cell] at this
    rw [b2.cell]
    exact this
/-- within a Save: w is the world at its beginning -/
structure SI (w0 w W : World) (g sb o fr size gen : Nat) (dv : Value) (data : By) (d : Dk) : Prop where
  dx : DX w0 W g sb d
  ob : Blk W o (sc g fr size gen false) 143
  ec : Blk W (w.heap.size + 1) #[ci 0] 29
  sp : Blk W w.heap.size #[.pointer (some ⟨o, 0, none⟩)] 68
  rd : Rd W cb dv data
  dvb : ∀ b, dv.ownBlock = some b → ∃ c T, Blk W b c T ∧ b ≠ g ∧ b ≠ sb ∧ T ≠ 134 ∧ b < w.heap.size
  fr : Kz g sb o w W
section
variable {w0 w W W' : World} {g sb o fr size gen : Nat} {dv : Value} {data : By} {d d' : Dk}
theorem DX.gb (h : DX w0 W g sb d) : ∃ c, Blk W g c 130 := by obtain ⟨rv, k⟩ := h.d; exact ⟨_, k.b⟩
theorem DX.sbb (h : DX w0 W g sb d) : ∃ c, Blk W sb c 132 := by obtain ⟨rv, k⟩ := h.d; exact ⟨_, k.s⟩
theorem SI.ext (h : SI w0 w W g sb o fr size gen dv data d) (e : Ext W W') : SI w0 w W' g sb o fr size gen dv data d :=
  ⟨h.dx.ext e, h.ob.ext e, h.ec.ext e, h.sp.ext e, e.rd h.rd, fun b hb => by obtain ⟨c, T, k, r⟩ := h.dvb b hb; exact ⟨c, T, k.ext e, r⟩, h.fr.trans (Kz.ext e)⟩
theorem Kp.blk (h : DX w0 W g sb d) (k : Kp g sb W W') {b : Nat} {c : Array Value} {t : TypeId} (hb : Blk W b c t) (h1 : t ≠ 130) (h2 : t ≠ 132) (h3 : t ≠ 134) : Blk W' b c t := by
  obtain ⟨c1, k1⟩ := h.gb
  obtain ⟨c2, k2⟩ := h.sbb
  exact k.2 b c t hb (hb.ne k1 h1) (hb.ne k2 h2) h3
theorem SI.kp (h : SI w0 w W g sb o fr size gen dv data d) (hd : DX w0 W' g sb d') (k : Kp g sb W W') : SI w0 w W' g sb o fr size gen dv data d' := by
  have hkeep : ∀ b, dv.ownBlock = some b → ∃ c T, Blk W b c T ∧ Blk W' b c T ∧ b ≠ g ∧ b ≠ sb ∧ T ≠ 134 ∧ b < w.heap.size := fun b hb => by
    obtain ⟨c, T, k1, k2, k3, k4, k5⟩ := h.dvb b hb
    exact ⟨c, T, k1, k.2 b c T k1 k2 k3 k4, k2, k3, k4, k5⟩
  refine ⟨hd, k.blk h.dx h.ob (by decide) (by decide) (by decide), k.blk h.dx h.ec (by decide) (by decide) (by decide), k.blk h.dx h.sp (by decide) (by decide) (by decide), ?_, ?_, h.fr.trans (Kz.kp k)⟩
  · exact h.rd.kp fun b hb => by obtain ⟨c, T, k1, k2, _⟩ := hkeep b hb; exact ⟨c, T, k1, k2⟩
  · intro b hb
    obtain ⟨c, T, k1, k2, k3⟩ := hkeep b hb
    exact ⟨c, T, k2, k3⟩
theorem SI.put (h : SI w0 w W g sb o fr size gen dv data d) {r : Nat} {ob : Obj} (x : Obj) (hr : W.heap[r]? = some ob) (ho : ob.isCells = false) (h0 : w0.heap.size ≤ r) : SI w0 w (W.putObj r x) g sb o fr size gen dv data d :=
  ⟨h.dx.put x hr ho h0, h.ob.put x hr ho, h.ec.put x hr ho, h.sp.put x hr ho, h.rd.put x hr ho, fun b hb => by obtain ⟨c, T, k, q⟩ := h.dvb b hb; exact ⟨c, T, k.put x hr ho, q⟩, h.fr.put x hr ho⟩
/-- a store into a block that is not the disk's -/
theorem DX.setOther (h : DX w0 W g sb d) {b : Nat} {c : Array Value} {t : TypeId} (hb : Blk W b c t) (h1 : t ≠ 130) (h2 : t ≠ 132) (h3 : t ≠ 134) (h0 : w0.heap.size ≤ b) (i : Nat) (v : Value) : DX w0 (W.setCell ⟨b, i, none⟩ v) g sb d := by
  obtain ⟨c1, k1⟩ := h.gb
  obtain ⟨c2, k2⟩ := h.sbb
  exact h.other hb (hb.ne k1 h1) (hb.ne k2 h2) h3 h0 (only_set _ _ _ _ rfl)
/-- a store into a block of the call's own -/
theorem SI.setNew (h : SI w0 w W g sb o fr size gen dv data d) {b : Nat} {c : Array Value} {t : TypeId} (hb : Blk W b c t) (ht : t = 3 ∨ t = 36 ∨ t = 146) (h0 : w0.heap.size ≤ w.heap.size) (hn : w.heap.size ≤ b) (i : Nat) (v : Value) : SI w0 w (W.setCell ⟨b, i, none⟩ v) g sb o fr size gen dv data d := by
  have h1 : t ≠ 130 := by rcases ht with rfl | rfl | rfl <;> decide
  have h2 : t ≠ 132 := by rcases ht with rfl | rfl | rfl <;> decide
  have h3 : t ≠ 134 := by rcases ht with rfl | rfl | rfl <;> decide
  have h4 : (143 : TypeId) ≠ t := by rcases ht with rfl | rfl | rfl <;> decide
  have h5 : (29 : TypeId) ≠ t := by rcases ht with rfl | rfl | rfl <;> decide
  have h6 : (68 : TypeId) ≠ t := by rcases ht with rfl | rfl | rfl <;> decide
  have hk : ∀ b', dv.ownBlock = some b' → ∃ c T, Blk W b' c T ∧ Blk (W.setCell ⟨b, i, none⟩ v) b' c T ∧ b' ≠ g ∧ b' ≠ sb ∧ T ≠ 134 ∧ b' < w.heap.size := fun b' hb' => by
    obtain ⟨c, T, k1, k2, k3, k4, k5⟩ := h.dvb b' hb'
    exact ⟨c, T, k1, k1.far _ (fun e => by simp only at e; omega) v, k2, k3, k4, k5⟩
  exact ⟨h.dx.setOther hb h1 h2 h3 (by omega) i v, h.ob.far _ (h.ob.ne hb h4) v, h.ec.far _ (h.ec.ne hb h5) v, h.sp.far _ (h.sp.ne hb h6) v, h.rd.kp fun b' hb' => by obtain ⟨c, T, k1, k2, _⟩ := hk b' hb'; exact ⟨c, T, k1, k2⟩,
    fun b' hb' => by obtain ⟨c, T, k1, k2, k3⟩ := hk b' hb'; exact ⟨c, T, k2, k3⟩, h.fr.setNew hn v⟩
theorem res50 (tmps : Array Value) (W : World) (ec : Nat) (x : Int) (ht : tmps[4]? = some (.pointer (some ⟨ec, 0, none⟩))) (hc : W.cell? ⟨ec, 0, none⟩ = some (ci x)) : (results Try.f50 tmps).run Try.prog W = .ok (ci x) W := by
  simp [results, Try.results50, go_sem, ht, hc]
abbrev saveClo (w : World) : Deferred := { target := .fn (.func 97) #[.pointer (some ⟨w.heap.size + 1, 0, none⟩), .pointer (some ⟨w.heap.size, 0, none⟩)], args := #[] }
theorem save_panic_end {R : Ending → World → Prop} {tmps : Array Value} (h : SI w0 w W g sb o fr size gen dv data d) (h0 : w0.heap.size ≤ w.heap.size) (h0o : w0.heap.size ≤ o) (ht : tmps[4]? = some (.pointer (some ⟨w.heap.size + 1, 0, none⟩)))
    (hR : ∀ W', DX w0 W' g sb d → Blk W' o (sc g fr size gen true) 143 → Kz g sb o w W' → R (.returned (ci 80)) W') :
    LeavesM Try.prog Try.f50 tmps R [saveClo w] (.panicking [flt 80]) W := by
  have n1 : w.heap.size + 1 ≠ o := h.ec.ne h.ob (by decide)
  have n2 : w.heap.size + 1 ≠ w.heap.size := by omega
  refine LeavesM.fn (f := 97) (args := #[.pointer (some ⟨w.heap.size + 1, 0, none⟩), .pointer (some ⟨w.heap.size, 0, none⟩)]) (by simp) (by simp [go_sem]) ?_
  refine (save_def_panic _ _ W 80 (by decide) (h.ec.cell 0) (h.ec.free 0) (h.sp.cell 0) (h.ob.cell 4) (h.ob.free 4) n1 n2).mono ?_
  rintro e u' w3 ⟨rfl, rfl, rfl⟩
  have xe := ((h.ec.set 0 (ci 80)).far ⟨o, 4, none⟩ n1 (.bool true)).drew
  have xo := ((h.ob.far ⟨w.heap.size + 1, 0, none⟩ n1.symm (ci 80)).set 4 (.bool true)).drew
  have b1 := h.ob.far ⟨w.heap.size + 1, 0, none⟩ n1.symm (ci 80)
  have xd := ((h.dx.setOther h.ec (by decide) (by decide) (by decide) (by omega) 0 (ci 80)).setOther b1 (by decide) (by decide) (by decide) h0o 4 (.bool true)).ext ((Ext.refl _).drew)
  have xk : Kz g sb o w ((W.setCell ⟨w.heap.size + 1, 0, none⟩ (ci 80)).setCell ⟨o, 4, none⟩ (.bool true)).drew := ((h.fr.setNew (p := ⟨w.heap.size + 1, 0, none⟩) (by show _ ≤ w.heap.size + 1; omega) (ci 80)).trans (Kz.set 4 (.bool true))).trans (Kz.ext (Ext.refl _).drew)
  generalize ((W.setCell ⟨w.heap.size + 1, 0, none⟩ (ci 80)).setCell ⟨o, 4, none⟩ (.bool true)).drew = w3 at *
  have xe' : Blk w3 (w.heap.size + 1) #[ci 80] 29 := xe
  have xo' : Blk w3 o (sc g fr size gen true) 143 := xo
  show LeavesM Try.prog Try.f50 tmps R [] (settle (.panicking [{ v := .iface 177 (ci 80), recovered := true }])) w3
  exact ⟨_, res50 tmps w3 _ 80 ht (xe'.cell 0), hR w3 xd xo' xk⟩
/-- the state where a Save has come through -/
theorem save_ret_end {R : Ending → World → Prop} {tmps : Array Value} {gen' : Nat} (hd : DX w0 W g sb d) (hob : Blk W o (sc g fr size gen' false) 143) (hec : Blk W (w.heap.size + 1) #[ci 0] 29) (hsp : Blk W w.heap.size #[.pointer (some ⟨o, 0, none⟩)] 68) (hfr : Kz g sb o w W) (h0 : w0.heap.size ≤ w.heap.size) (h0o : w0.heap.size ≤ o)
    (ht : tmps[4]? = some (.pointer (some ⟨w.heap.size + 1, 0, none⟩)))
    (hR : ∀ W', DX w0 W' g sb d → Blk W' o (sc g fr size gen' false) 143 → Kz g sb o w W' → R (.returned (ci 0)) W') :
    LeavesM Try.prog Try.f50 tmps R [saveClo w] .returning W := by
  have n1 : w.heap.size + 1 ≠ o := hec.ne hob (by decide)
  have n2 : w.heap.size + 1 ≠ w.heap.size := by omega
  refine LeavesM.fn (f := 97) (args := #[.pointer (some ⟨w.heap.size + 1, 0, none⟩), .pointer (some ⟨w.heap.size, 0, none⟩)]) (by simp) (by simp [go_sem]) ?_
  refine (save_def_ret _ _ W (hec.cell 0) (hec.free 0) (hsp.cell 0) (hob.cell 4) (hob.free 4) n1 n2).mono ?_
  rintro e u' w3 ⟨rfl, rfl, rfl⟩
  have xe := ((hec.set 0 (ci 0)).far ⟨o, 4, none⟩ n1 (.bool false)).drew
  have xo := ((hob.far ⟨w.heap.size + 1, 0, none⟩ n1.symm (ci 0)).set 4 (.bool false)).drew
  have b1 := hob.far ⟨w.heap.size + 1, 0, none⟩ n1.symm (ci 0)
  have xd := ((hd.setOther hec (by decide) (by decide) (by decide) (by omega) 0 (ci 0)).setOther b1 (by decide) (by decide) (by decide) h0o 4 (.bool false)).ext ((Ext.refl _).drew)
  have xk : Kz g sb o w ((W.setCell ⟨w.heap.size + 1, 0, none⟩ (ci 0)).setCell ⟨o, 4, none⟩ (.bool false)).drew := ((hfr.setNew (p := ⟨w.heap.size + 1, 0, none⟩) (by show _ ≤ w.heap.size + 1; omega) (ci 0)).trans (Kz.set 4 (.bool false))).trans (Kz.ext (Ext.refl _).drew)
  generalize ((W.setCell ⟨w.heap.size + 1, 0, none⟩ (ci 0)).setCell ⟨o, 4, none⟩ (.bool false)).drew = w3 at *
  have xe' : Blk w3 (w.heap.size + 1) #[ci 0] 29 := xe
  have xo' : Blk w3 o (sc g fr size gen' false) 143 := xo
  show LeavesM Try.prog Try.f50 tmps R [] (settle .returning) w3
  exact ⟨_, res50 tmps w3 _ 0 ht (xe'.cell 0), hR w3 xd xo' xk⟩
end
end Go.Proofs.Ytjcbmlpfpcpakaa
