/- Ranging over a function in the frame of one function; operations within a round. No program in sight. -/
import Derived.Test.YtjcbmlpfpcpakaaG1
import Derived.Test.YtjcbmlpfpcpakaaD8m
import Derived.TacticsIn
namespace Go.Proofs.Ytjcbmlpfpcpakaa
open Go Go.RowKit
set_option linter.unusedVariables false
/-- what is no cells lies as it lay -/
def Nc (w w' : World) : Prop := ∀ (k : Nat) (o : Obj), w.heap[k]? = some o → o.isCells = false → w'.heap[k]? = some o
theorem Nc.refl (w : World) : Nc w w := fun _ _ h _ => h
theorem Nc.trans {a b c : World} (h : Nc a b) (k : Nc b c) : Nc a c := fun i o hi ho => k i o (h i o hi ho) ho
theorem Nc.ext {a b : World} (h : Ext a b) : Nc a b := fun k o hk _ => h.heap hk
theorem Nc.set {a b : World} (h : Nc a b) (p : Addr) (v : Value) : Nc a (b.setCell p v) := fun k o hk ho => (KeepsOthers.setCell b p v).same k o (h k o hk ho) ho
theorem Nc.drew {a b : World} (h : Nc a b) : Nc a b.drew := h
theorem Nc.only {w w' : World} {p : Nat → Prop} (e : Only w w' p) (hp : ∀ k, p k → ∃ c t, Blk w k c t) : Nc w w' := fun k o hk ho => by
  have hlt := (Array.getElem?_eq_some_iff.1 hk).1
  rw [e.block k hlt (fun hh => by
    obtain ⟨c, t, hb⟩ := hp k hh
    unfold Blk at hb
    rw [hb] at hk
    cases hk
    cases ho)]
  exact hk
theorem DB.blocks {w : World} {B g sb : Nat} {rv : Value} {d : Dk} (h : DB w B g sb rv d) : ∀ k, mine g sb rv k → ∃ c t, Blk w k c t := by
  rintro k (rfl | rfl | hk)
  · exact ⟨_, _, h.b⟩
  · exact ⟨_, _, h.s⟩
  · obtain ⟨h1, ⟨rfl, h2⟩ | ⟨x, cap, cur, rfl, h3, h4, _⟩⟩ := h.r
    · cases hk
    · cases hk
      exact ⟨_, _, h4⟩
theorem Blk.put {w : World} {g r : Nat} {c : Array Value} {t : TypeId} (h : Blk w g c t) {ob : Obj} (o : Obj) (hr : w.heap[r]? = some ob) (ho : ob.isCells = false) : Blk (w.putObj r o) g c t := by
  unfold Blk at *
  rw [World.putObj_heap_other (fun e => by subst e; rw [h] at hr; cases hr; cases ho)]
  exact h
theorem only_put {w : World} {r : Nat} (o : Obj) : Only w (w.putObj r o) (· = r) := ⟨rfl, rfl, rfl, by simp, fun k _ hk => World.putObj_heap_other hk⟩
theorem DX.put {w0 w : World} {g sb r : Nat} {d : Dk} (h : DX w0 w g sb d) {ob : Obj} (o : Obj) (hr : w.heap[r]? = some ob) (ho : ob.isCells = false) (h0 : w0.heap.size ≤ r) : DX w0 (w.putObj r o) g sb d := by
  obtain ⟨rv, k⟩ := h.d
  refine ⟨h.e.of_only (only_put o) (fun i hi => by rw [hi]; exact h0), h.g0, h.s0, rv, k.only (only_put o) ?_⟩
  intro i hi e
  subst e
  obtain ⟨c, t, hb⟩ := k.blocks i hi
  unfold Blk at hb
  rw [hb] at hr
  cases hr
  cases ho
theorem Rd.put {α : Type} {w : World} {f : α → Value} {v : Value} {l : List α} {r : Nat} (h : Rd w f v l) {ob : Obj} (o : Obj) (hr : w.heap[r]? = some ob) (ho : ob.isCells = false) : Rd (w.putObj r o) f v l := by
  rcases h with h | ⟨b, off, c, n, h1, h2, h3, h4⟩
  · exact Or.inl h
  · refine Or.inr ⟨b, off, c, n, h1, h2, h3, fun i hi => ?_⟩
    have hc := h4 i hi
    by_cases e : b = r
    · subst e
      unfold World.cell? at hc
      simp only [hr] at hc
      cases ob <;> simp_all [Obj.isCells]
    · unfold World.cell? at hc ⊢
      simp only [World.putObj_heap_other e]
      exact hc
section
variable {P : Program}
theorem wpf_block {f : FuncId} {id : Nat} {c : Code} {Q : Exit → Act → World → Prop} {a : Act} {w : World} (h : wpf f P c (Exit.inBlock id Q) a w) : wpf f P (.block id c) Q a w := by
  intro b k cs hb
  obtain ⟨e, a', w', hq, harr⟩ := h b (.inBlock id :: k) cs hb
  have h1 : Arrives P (lone (b.at a (.code (.block id c) :: k)) cs w) b (.inBlock id :: k) cs e a' w' := .of_steps (.one step_block) harr
  cases e with
  | normal => exact ⟨.normal, a', w', hq, Steps.trans h1 (.one step_inBlock)⟩
  | exit i =>
    simp only [Exit.inBlock] at hq
    split at hq
    · next hi =>
      refine ⟨.normal, a', w', hq, ?_⟩
      exact h1 k (by simp [exitTo, hi])
    · next hi =>
      refine ⟨.exit i, a', w', hq, fun k' hk => h1 k' ?_⟩
      have : ¬ (id = i) := fun e => hi (by first | exact e | exact e.symm)
      simp [exitTo, this, hk]
  | goto t => exact ⟨.goto t, a', w', hq, fun k' hk => h1 k' (by simpa [gotoIn] using hk)⟩
  | ret => exact ⟨.ret, a', w', hq, h1⟩
  | panic ch => exact ⟨.panic ch, a', w', hq, h1⟩
  | outgrown => exact ⟨.outgrown, a', w', hq, h1⟩
/-- how a round's body may be left -/
def roundEnd (I : Nat → World → Prop) (Ip : List PanicEntry → World → Prop) (k : Nat) (W : World) : Exit → Act → World → Prop
  | .normal, _, W' => Nc W W' ∧ I (k + 1) W'
  | .panic ch, a, W' => a.defers = [] ∧ Nc W W' ∧ Ip ch W'
  | _, _, _ => False
/-- the statement over an iterator whose rounds are numbered -/
theorem wpf_rounds {f0 gf : FuncId} {fn0 : Func} (hf0 : P.funcs[f0]? = some fn0) {lb : Array Value} (eg : ∀ args w, (callFunc gf args).run P w = .ok (.enter gf args) w)
    {g : Operand} {ps : Array Tmp} {assign body : Code} {Q : Exit → Act → World → Prop} {a : Act} {w : World} (hg : a.eval g = .func (.func gf) #[] lb) (hps : ps.size = 1) (m N M : Nat) (pc : Nat → Value)
    (I : Nat → World → Prop) (Ip : List PanicEntry → World → Prop) (hext : ∀ k W W', I k W → Ext W W' → I k W')
    (hput : ∀ k W r o ob, I k W → w.heap.size ≤ r → W.heap[r]? = some ob → ob.isCells = false → I k (W.putObj r o)) (h0 : I 0 w) (a1 : Value → Act)
    (hiter : ∀ (l : Nat) (J : Nat → World → Prop) (Jp : List PanicEntry → World → Prop), (∀ k W, J k W → I k W) → (∀ k W, J k W → J k W.drew) →
      (∀ k W, J k W → k < N → YieldAt Fence.wide m P l #[pc k] W fun e W' => (e = .returned (.bool true) ∧ J (k + 1) W') ∨ (∃ ch, e = .panicked ch ∧ Jp ch W')) → ∀ W, J 0 W →
      Calls P gf (#[.func (.yield l) #[] #[]] ++ lb) W fun e W' => (∃ v, e = .returned v ∧ J M W') ∨ (∃ ch, e = .panicked ch ∧ Jp ch W'))
    (hassign : ∀ (l : Nat) (v : Value) (W : World) (K : Act → World → Prop), K (a1 v) W →
      assign.wpIn (Fence.wide.inRound l) m P (Exit.then K (fun _ _ _ => False)) { tmps := (ps.zip #[v]).foldl (fun t (p, v) => t.setIfInBounds p v) a.tmps, defers := [] } W)
    (hbody : ∀ (l k : Nat) (W : World), I k W → k < N → body.wpIn (Fence.wide.inRound l) m P (roundEnd I Ip k W) (a1 (pc k)) W)
    (hdone : ∀ (D : Nat) (W : World), D = w.heap.size → I M W → W.heap[D]? = some (.deferred (some [])) → Q .normal { a with defers := { target := .collected D, args := #[] } :: a.defers } W)
    (hpan : ∀ (D : Nat) (ch : List PanicEntry) (W : World), D = w.heap.size → Ip ch W → W.heap[D]? = some (.deferred (some [])) → Q (.panic ch) { a with defers := { target := .collected D, args := #[] } :: a.defers } W) :
    wpf f0 P (.rangeFunc g ps assign body) Q a w := by
  obtain ⟨rec, hrec⟩ : ∃ rec : LoopState → Option Code → Loop, rec = fun st pe => { state := st, pending := pe, fn := f0, tmps := a.tmps, params := ps, assign, body, defers := w.heap.size } := ⟨_, rfl⟩
  obtain ⟨W1, hW1⟩ : ∃ W1, (w.alloc (.deferred (some []))).alloc (.loop (rec .ready none)) = W1 := ⟨_, rfl⟩
  have hL1 : W1.heap[w.heap.size + 1]? = some (.loop (rec .ready none)) := by
    rw [← hW1]; have := World.alloc_heap_new (w.alloc (.deferred (some []))) (.loop (rec .ready none)); rwa [World.size_alloc] at this
  have hK1 : W1.heap[w.heap.size]? = some (.deferred (some [])) := by
    rw [← hW1]; exact (Below.heap_alloc _ _ _ (by simp)).trans (World.alloc_heap_new w _)
  have hI1 : I 0 W1 := hext 0 w W1 h0 (by rw [← hW1]; exact Ext.of_alloc2 _ _)
  refine wpf_range (l := w.heap.size + 1) (mark := [{ target := .collected w.heap.size, args := #[] }]) (w₁ := W1) (d := { target := .fn (.func gf) lb, args := #[.func (.yield (w.heap.size + 1)) #[] #[]] }) (w₁' := W1) (f := gf)
    (args := #[.func (.yield (w.heap.size + 1)) #[] #[]] ++ lb) (w₂ := W1) ?_ ?_ ?_ ?_
  · rw [← hW1, hrec]; exact run_enterLoop_outer _ _ _ _ _
  · simp only [resolve, hg]
    simp [go_sem]
  · simp [invoke, go_sem, eg]
  refine (hiter (w.heap.size + 1)
    (fun k W => I k W ∧ W.heap[w.heap.size + 1]? = some (.loop (rec .ready none)) ∧ W.heap[w.heap.size]? = some (.deferred (some [])))
    (fun ch W => Ip ch W ∧ W.heap[w.heap.size]? = some (.deferred (some [])))
    (fun k W h => h.1) (fun k W h => ⟨hext k W _ h.1 (Ext.refl W).drew, h.2⟩) ?_ W1 ⟨hI1, hL1, hK1⟩).mono ?_
  · rintro k W ⟨hi, hl, hk⟩ hkN
    have hlt : w.heap.size + 1 < W.heap.size := (Array.getElem?_eq_some_iff.1 hl).1
    have hy := run_yield (P := P) (args := #[pc k]) hl (by rw [hrec]; simp [hps])
    rw [hrec] at hy
    refine ⟨f0, _, assign, body, hy, roundIn_of_body hf0 (hassign _ (pc k) W _ ⟨_, run_beginRound hl (by rw [hrec]), ?_⟩)⟩
    have hl2 : (W.putObj (w.heap.size + 1) (.loop { rec .ready none with state := .busy })).heap[w.heap.size + 1]? = some (.loop { rec .ready none with state := .busy }) := World.putObj_heap_same hlt
    have hk2 : (W.putObj (w.heap.size + 1) (.loop { rec .ready none with state := .busy })).heap[w.heap.size]? = some (.deferred (some [])) := (World.putObj_heap_other (by omega)).trans hk
    have hI2 := hput k W (w.heap.size + 1) (.loop { rec .ready none with state := .busy }) _ hi (by omega) hl rfl
    refine wpIn_mono (hbody _ k _ hI2 hkN) ?_
    rintro e a3 W3 hp
    cases e with
    | normal =>
      obtain ⟨hn, hi3⟩ := hp
      have hl3 := hn _ _ hl2 rfl
      have hk3 := hn _ _ hk2 rfl
      have hend := run_endRound (P := P) none hl3
      have hI3 := hput (k + 1) W3 (w.heap.size + 1) (.loop { ({ rec .ready none with state := .busy } : Loop) with state := if (none : Option Code).isNone then .ready else .done, pending := none }) _ hi3 (by omega) hl3 rfl
      refine ⟨_, _, hend, .inl ⟨rfl, hI3, ?_, (World.putObj_heap_other (by omega)).trans hk3⟩⟩
      rw [World.putObj_heap_same (Array.getElem?_eq_some_iff.1 hl3).1]
      rw [hrec]
      rfl
    | panic ch =>
      obtain ⟨hd, hn, hi3⟩ := hp
      exact ⟨hd, .inr ⟨ch, rfl, hi3, hn _ _ hk2 rfl⟩⟩
    | ret => exact hp.elim
    | exit id => exact hp.elim
    | goto t => exact hp.elim
    | outgrown => exact hp.elim
  · rintro e W2 (⟨v, rfl, hi, hl, hk⟩ | ⟨ch, rfl, hi, hk⟩)
    · have hend := run_endLoop (P := P) hl (by rw [hrec]; simp)
      rw [hrec] at hend
      exact ⟨_, hend, hdone _ _ rfl (hput M W2 (w.heap.size + 1) _ _ hi (by omega) hl rfl) ((World.putObj_heap_other (by omega)).trans hk)⟩
    · exact hpan _ ch W2 rfl hi hk
/-- a post whose panics do not hang on the frame but for one variable and what is deferred -/
def Pst (F : Act → World → Prop) (i : Nat) (tm : Value) (defs : List Deferred) (PI : List PanicEntry → World → Prop) : Exit → Act → World → Prop
  | .normal, a, w => F a w
  | .panic ch, a, w => a.tmps[i]? = some tm ∧ a.defers = defs ∧ PI ch w
  | _, _, _ => False
theorem Pst.put {F : Act → World → Prop} {i : Nat} {tm : Value} {defs : List Deferred} {PI : List PanicEntry → World → Prop} {c : List PanicEntry} {a : Act} {d : Nat} {v : Value} {w : World} (h : Pst F i tm defs PI (.panic c) (a.put (some d) v) w) (hd : d ≠ i) : Pst F i tm defs PI (.panic c) a w := by
  obtain ⟨h1, h2, h3⟩ := h
  refine ⟨?_, h2, h3⟩
  simp only [Act.put] at h1
  rw [Array.getElem?_setIfInBounds_ne hd] at h1
  exact h1
theorem wpf_seq_p {f : FuncId} {x y : Code} {Q : Exit → Act → World → Prop} {a : Act} {w : World} (i : Nat) (tm : Value) (defs : List Deferred) (PI : List PanicEntry → World → Prop)
    (h : ∀ F : Act → World → Prop, Hid (∀ a w, wpf f P y Q a w → F a w) → x.wp P (Pst F i tm defs PI) a w) (hp : ∀ ch a w, a.tmps[i]? = some tm → a.defers = defs → PI ch w → Q (.panic ch) a w) : wpf f P (.seq x y) Q a w := by
  refine wpf_seq (wpf_of_wp (wp_mono (h _ (fun _ _ h => h)) ?_))
  intro e a w hh
  cases e with
  | normal => exact hh
  | panic ch => exact hp ch a w hh.1 hh.2.1 hh.2.2
  | exit id => exact hh.elim
  | goto l => exact hh.elim
  | ret => exact hh.elim
  | outgrown => exact hh.elim
/-- an operation within a round, by its run -/
theorem wpListIn_run {l n : Nat} {ops : Array Oper} {rest : List Oper} {o : Oper} {a : Act} {w w' : World} {Q : Exit → Act → World → Prop} {v : Value} (hgd : o.guard = none) (ho : ∀ c, o.op ≠ .defer c)
    (hr : (execOp a.eval o).run P w = .ok (.value v) w') (h : wpListIn (Fence.wide.inRound l) n P ops Q rest (a.put o.dst v) w') : wpListIn (Fence.wide.inRound l) n P ops Q (o :: rest) a w :=
  wpListIn_plain hgd fun K hK => ⟨fun _ _ => trivial, by
    have e : o.semAt (Fence.wide.inRound l).round a.eval = execOp a.eval o := Oper.semAt_some l _ _ ho
    rw [e, hr]
    exact hK _ _ h⟩
end
end Go.Proofs.Ytjcbmlpfpcpakaa
