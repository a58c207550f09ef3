/- Layer 8 (disk): writes. -/
import Derived.Test.YtjcbmlpfpcpakaaD8t
namespace Go.Proofs.Ytjcbmlpfpcpakaa
open Go.RowKit
set_option linter.unusedVariables false

theorem Rd.range {w : World} {dv : Value} {l : List (BitVec 8)} (h : Rd w cb dv l) (h0 : 0 < l.length) : ∃ b o c, dv = .slice (some ⟨b, o, none⟩) l.length c ∧ w.rangeAt b o (l.map cb) := by
  rcases h with ⟨a, c, rfl, rfl, _⟩ | ⟨b, o, c, n, rfl, rfl, _, h⟩
  · simp at h0
  · refine ⟨b, o, c, rfl, fun j v hv => ?_⟩
    obtain ⟨hj, rfl⟩ := List.getElem?_eq_some_iff.1 hv
    rw [List.getElem_map]
    exact h j (by simpa using hj)
def writeD (d : Dk) (at' : Nat) (l : List (BitVec 8)) : Dk := ⟨d.n, d.S, d.R ++ [(at', l)], d.fused, wrap64 (d.left - 1), wrap64 (d.c0 + 1), d.c1⟩
theorem writeD_ok {d : Dk} (h : d.ok) {at' : Nat} {l : List (BitVec 8)} (ha : at' < d.n) (hl : l.length = 64) : (writeD d at' l).ok :=
  ⟨h.n1, h.n2, h.s, fun p hp => by
    unfold writeD at hp
    rcases List.mem_append.1 hp with h1 | h1
    · exact h.r p h1
    · rw [List.mem_singleton.1 h1]; exact ⟨ha, hl⟩⟩
/-- what a row's end and its owner are behind an append -/
theorem row_some {w : World} {B : Nat} {rv : Value} {n : Nat} {xs : List Value} (h : w.ownsRow B 134 65 rv n xs) (hn : 0 < n) : ∃ x c, rv = .slice (some ⟨x, 0, none⟩) n c ∧ B ≤ x ∧ x < w.heap.size := by
  obtain ⟨h1, ⟨rfl, h2⟩ | ⟨x, cap, cur, rfl, h3, h4, _⟩⟩ := h
  · omega
  · exact ⟨x, cap, rfl, h3, (Array.getElem?_eq_some_iff.1 h4).1⟩
theorem row_kept {w w' : World} {B : Nat} {rv : Value} {n : Nat} {xs : List Value} {row : Option Nat} (h : w.ownsRow B 134 65 rv n xs) (k : w.grownBy w' row) (hr : rv.ownBlock = none ∨ rv.ownBlock ≠ row) : w'.ownsRow B 134 65 rv n xs := World.ownsRow.kept h k hr
theorem row_type {w : World} {B : Nat} {rv : Value} {n g : Nat} {xs : List Value} {c : Array Value} {t : TypeId} (h : w.ownsRow B 134 65 rv n xs) (k : Blk w g c t) (ht : 134 ≠ t) : some g ≠ rv.ownBlock := by
  obtain ⟨h1, ⟨rfl, h2⟩ | ⟨x, cap, cur, rfl, h3, h4, _⟩⟩ := h
  · intro e; cases e
  · intro e
    have : g = x := Option.some.inj e
    subst this
    exact ht (Blk.type (show Blk w g cur 134 from h4) k)
theorem wp_append_pend' {o : Oper} {a : Act} {w : World} {K : Act → World → Prop} {Q : Exit → Act → World → Prop} (s x : Operand) (ho : o.op = .call { callee := .builtin .append, args := #[s, x], argTypes := #[128, 128] })
    (B : Nat) (rv : Value) (R : List (Nat × List (BitVec 8))) (hs : a.eval s = rv) (hown : w.ownsRow B 134 65 rv R.length (pcs R)) (b c : Nat) (p : Nat × List (BitVec 8)) (hx : a.eval x = .slice (some ⟨b, 0, none⟩) 1 c) (hb : Blk w b (pc p).toArray 134) (hl : p.2.length = 64)
    (hn : (R.length + 1) * 72 ≤ 140737488355328) (hB : B ≤ w.heap.size)
    (h : ∀ x cx w', w'.ownsRow B 134 65 (.slice (some ⟨x, 0, none⟩) (R.length + 1) cx) (R.length + 1) (pcs (R ++ [p])) → w.grownBy w' rv.ownBlock → (rv.ownBlock = some x ∨ x = w.heap.size) → K (a.put o.dst (.slice (some ⟨x, 0, none⟩) (R.length + 1) cx)) w') : Oper.wp Try.prog o a w K Q := by
  refine wp_append_pend s x ho B rv R hs hown b c p hx hb hl hn hB fun rv' w' h1 h2 h3 => ?_
  rw [List.length_append, List.length_singleton] at h1
  obtain ⟨x, cx, rfl, _, _⟩ := row_some h1 (by omega)
  refine h x cx w' h1 h2 ?_
  rcases h3 with h3 | h3
  · exact Or.inl h3.symm
  · exact Or.inr (Option.some.inj h3)
set_option maxRecDepth 100000 in
set_option maxHeartbeats 2000000 in
theorem write_ok {w : World} {B g sb : Nat} {rv : Value} {d : Dk} (h : DB w B g sb rv d) (at' : Nat) (dv : Value) (l : List (BitVec 8)) (hp : powP d = 0) (ha : at' < d.n) (hl : l.length = 64) (hd : Rd w cb dv l) (hB : B ≤ w.heap.size) (hm : (d.R.length + 1) * 72 ≤ 140737488355328) :
    Calls Try.prog 27 #[.pointer (some ⟨g, 0, none⟩), ci at', dv] w fun e w' => e = .returned (ci 0) ∧ ∃ rv', DB w' B g sb rv' (writeD d at' l) ∧ Only w w' (mine g sb rv) ∧ ∀ k, rv'.ownBlock = some k → rv.ownBlock = some k ∨ w.heap.size ≤ k := by
  have H := Lib.hid (power_calls h)
  rw [hp] at H
  have c0 := h.cell0
  have c1 := h.cell1
  have HRW := Lib.hid h.r
  obtain ⟨a, c, hrv, hrow⟩ := h.row
  obtain ⟨b, o, c', rfl, hr⟩ := hd.range (by omega)
  rw [hl]
  have hn2 : (d.n : Int) ≤ 65536 := by have := h.ok.n2; omega
  have ha' : (at' : Int) < d.n := by omega
  have HR := Lib.hid hr
  have hf1 : decide ((at' : Int) < 0) = false := decide_eq_false (by omega)
  have hf2 : decide (d.n ≤ at') = false := decide_eq_false (by omega)
  have harr := array_run b o c'
  have HD := Lib.hid h
  have HL := Lib.hid hl
  have HB := Lib.hid hB
  have HM := Lib.hid hm
  have OK := Lib.hid (writeD_ok h.ok ha hl)
  subst hrv
  clear h hd hr hp hrow hl hB hm
  go_enter Try.func27, Try.ntmps27
  go_upto_region 8 with (first | (go_at_call 83; refine H.out.mono ?_; rintro e w1 ⟨rfl, rfl⟩) | fail)
  go_cut [] from 29 to 42 (fun wx => ∃ rv' x cx, rv' = .slice (some ⟨x, 0, none⟩) (d.R.length + 1) cx ∧ Hid (Blk wx g (dc d sb rv') 130 ∧ Blk wx sb (V cb d.S) 132 ∧ wx.ownsRow B 134 65 rv' (d.R ++ [(at', l)]).length (pcs (d.R ++ [(at', l)])) ∧ Only w wx (mine g sb (.slice a d.R.length c)) ∧ ∀ k, rv'.ownBlock = some k → (Value.slice a d.R.length c).ownBlock = some k ∨ w.heap.size ≤ k))
  case first =>
    have hl := HL.out
    have hr : w.drew.rangeAt b o (l.map cb) := HR.out
    have hr1 := range_ext hr (Ext.of_alloc (.cells (pc (at', l)).toArray 134))
    have hbp : Blk (w.drew.alloc (.cells (pc (at', l)).toArray 134)) w.drew.heap.size (pc (at', l)).toArray 134 := Blk.new w.drew _ 134
    have hrw : (w.drew.alloc (.cells (pc (at', l)).toArray 134)).ownsRow B 134 65 (.slice a d.R.length c) d.R.length (pcs d.R) := row_ext HRW.out ((Ext.refl w).drew.alloc _)
    have hBB : B ≤ (w.drew.alloc (.cells (pc (at', l)).toArray 134)).heap.size := by
      have := HB.out
      simp [World.alloc]
      omega
    have hn1 : some g ≠ (Value.slice a d.R.length c).ownBlock := row_type HRW.out HD.out.b (by decide)
    have hb2 : ∀ w2, (w.drew.alloc (.cells (pc (at', l)).toArray 134)).grownBy w2 (Value.slice a d.R.length c).ownBlock → Blk w2 g (dc d sb (.slice a d.R.length c)) 130 := fun w2 h2 => (HD.out.b.ext ((Ext.refl w).drew.alloc _)).grown h2 hn1
    have HF := Lib.hid (fun w2 h2 => (⟨hb2 w2 h2, (HD.out.s.ext ((Ext.refl w).drew.alloc _)).grown h2 (row_type HRW.out HD.out.s (by decide)), ((Ext.refl w).drew.alloc _).only.grown h2 (fun k hk => Or.inr (Or.inr hk))⟩ : Blk w2 g (dc d sb (.slice a d.R.length c)) 130 ∧ Blk w2 sb (V cb d.S) 132 ∧ Only w w2 (mine g sb (.slice a d.R.length c))))
    have hc1 : ∀ w2, (w.drew.alloc (.cells (pc (at', l)).toArray 134)).grownBy w2 (Value.slice a d.R.length c).ownBlock → w2.cell? ⟨g, 1, none⟩ = some (.slice a d.R.length c) ∧ w2.frozen? ⟨g, 1, none⟩ = false := fun w2 h2 => ⟨(hb2 w2 h2).cell 1, (hb2 w2 h2).free 1⟩
    have HN := Lib.hid HD.out.ne
    have c1' : (w.alloc (.cells (pc (at', l)).toArray 134)).cell? ⟨g, 1, none⟩ = some (.slice a d.R.length c) := (HD.out.b.ext (Ext.of_alloc _)).cell 1
    clear H c0 harr HR HB HD OK hn2 ha' hb2 hn1
    refine wp_region_any (by kernel_rfl) ?_
    try (change wpAny _ _ _ _ _ _ _ (World.drew _))
    refine wpAny_take (i := 0) (v := ?_) (by simp only [List.getElem?_toArray, List.getElem?_cons_zero]; exact rfl) (by kernel_rfl) (by kernel_rfl) (by kernel_rfl) (by intro _ _ _ h; exact h) (Or.inl ⟨by rfl, ?_⟩) ?_
    rotate_left
    · intro wz; go_simp; with_reducible rfl
    try simp only [Act.put, List.setIfInBounds_toArray, List.set_cons_zero, List.set_cons_succ]
    refine wpAny_take (i := 1) (v := ?_) (by simp only [List.getElem?_toArray, List.getElem?_cons_succ, List.getElem?_cons_zero]; exact rfl) (by kernel_rfl) (by kernel_rfl) (by kernel_rfl) (by intro _ _ _ h; exact h) (Or.inl ⟨by rfl, ?_⟩) ?_
    rotate_left
    · intro wz; go_simp; with_reducible rfl
    try simp only [Act.put, List.setIfInBounds_toArray, List.set_cons_zero, List.set_cons_succ]
    refine wpAny_take (i := 2) (v := ?_) (by simp only [List.getElem?_toArray, List.getElem?_cons_succ, List.getElem?_cons_zero]; exact rfl) (by kernel_rfl) (by kernel_rfl) (by kernel_rfl) (by intro _ _ _ h; exact h) (Or.inl ⟨by rfl, ?_⟩) ?_
    rotate_left
    · intro wz; go_simp; with_reducible rfl
    try simp only [Act.put, List.setIfInBounds_toArray, List.set_cons_zero, List.set_cons_succ]
    refine wpAny_take (i := 3) (v := ?_) (by simp only [List.getElem?_toArray, List.getElem?_cons_succ, List.getElem?_cons_zero]; exact rfl) (by kernel_rfl) (by kernel_rfl) (by kernel_rfl) (by intro _ _ _ h; exact h) (Or.inl ⟨by rfl, ?_⟩) ?_
    rotate_left
    · intro wz; go_simp; with_reducible rfl
    try simp only [Act.put, List.setIfInBounds_toArray, List.set_cons_zero, List.set_cons_succ]
    refine wpAny_take (i := 5) (v := ?_) (by simp only [List.getElem?_toArray, List.getElem?_cons_succ, List.getElem?_cons_zero]; exact rfl) (by kernel_rfl) (by kernel_rfl) (by kernel_rfl) (by intro _ _ _ h; exact h) (Or.inl ⟨by rfl, ?_⟩) ?_
    rotate_left
    · intro wz; go_simp; with_reducible rfl
    try simp only [Act.put, List.setIfInBounds_toArray, List.set_cons_zero, List.set_cons_succ]
    refine wpAny_take (i := 6) (v := ?_) (by simp only [List.getElem?_toArray, List.getElem?_cons_succ, List.getElem?_cons_zero]; exact rfl) (by kernel_rfl) (by kernel_rfl) (by kernel_rfl) (by intro _ _ _ h; exact h) (Or.inl ⟨by rfl, ?_⟩) ?_
    rotate_left
    · intro wz; go_simp; with_reducible rfl
    try simp only [Act.put, List.setIfInBounds_toArray, List.set_cons_zero, List.set_cons_succ]
    refine wpAny_take (i := 7) (v := ?_) (by simp only [List.getElem?_toArray, List.getElem?_cons_succ, List.getElem?_cons_zero]; exact rfl) (by kernel_rfl) (by kernel_rfl) (by kernel_rfl) (by intro _ _ _ h; exact h) (Or.inl ⟨by rfl, ?_⟩) ?_
    rotate_left
    · intro wz; (first | (refine exec_build_pend at' l hl ?_ ?_ <;> rfl) | (refine exec_array b o c' ?_; rfl))
    try simp only [Act.put, List.setIfInBounds_toArray, List.set_cons_zero, List.set_cons_succ]
    refine wpAny_ready (rs := [4, 8]) (by kernel_rfl) (by simp) ?_
    refine AllReady.cons (by simp only [List.getElem?_toArray, List.getElem?_cons_succ, List.getElem?_cons_zero]; exact rfl) (fun K hK => ?_) ?_
    · go_simp
      refine hK _ _ ?_
      clear hK K
      try simp only [Act.put, List.setIfInBounds_toArray, List.set_cons_zero, List.set_cons_succ]
      refine wpAny_ready (rs := [8]) (by kernel_rfl) (by simp) ?_
      refine AllReady.cons (by simp only [List.getElem?_toArray, List.getElem?_cons_succ, List.getElem?_cons_zero]; exact rfl) (fun K hK => ?_) ?_
      · (first
          | refine step_wp rfl (wp_load_sec _ rfl b o rfl l hl hr ?_)
          | refine step_wp rfl (wp_load_sec _ rfl b o rfl l hl hr1 ?_)
          | refine step_wp rfl (wp_slice_pend _ rfl (at', l) rfl hl ?_)
          | (refine step_wp rfl (wp_append_pend' _ _ rfl B (.slice a d.R.length c) d.R rfl hrw _ _ (at', l) rfl hbp hl HM.out hBB fun x cx w2 h1 h2 h3 => ?_)
             have hc2 := hc1 w2 h2
             have hc3 := hc2.1
             have hc4 := hc2.2))
        refine hK _ _ ?_
        clear hK K
        try simp only [Act.put, List.setIfInBounds_toArray, List.set_cons_zero, List.set_cons_succ]
        refine wpAny_take (i := 9) (v := ?_) (by simp only [List.getElem?_toArray, List.getElem?_cons_succ, List.getElem?_cons_zero]; exact rfl) (by kernel_rfl) (by kernel_rfl) (by kernel_rfl) (by intro _ _ _ h; exact h) (Or.inl ⟨by rfl, ?_⟩) ?_
        rotate_left
        · intro wz; (first | (refine exec_build_pend at' l hl ?_ ?_ <;> rfl) | (refine exec_array b o c' ?_; rfl))
        try simp only [Act.put, List.setIfInBounds_toArray, List.set_cons_zero, List.set_cons_succ]
        refine wpAny_ready (rs := [10]) (by kernel_rfl) (by simp) ?_
        refine AllReady.cons (by simp only [List.getElem?_toArray, List.getElem?_cons_succ, List.getElem?_cons_zero]; exact rfl) (fun K hK => ?_) ?_
        · (first
            | refine step_wp rfl (wp_load_sec _ rfl b o rfl l hl hr ?_)
            | refine step_wp rfl (wp_load_sec _ rfl b o rfl l hl hr1 ?_)
            | refine step_wp rfl (wp_slice_pend _ rfl (at', l) rfl hl ?_)
            | (refine step_wp rfl (wp_append_pend' _ _ rfl B (.slice a d.R.length c) d.R rfl hrw _ _ (at', l) rfl hbp hl HM.out hBB fun x cx w2 h1 h2 h3 => ?_)
               have hc2 := hc1 w2 h2
               have hc3 := hc2.1
               have hc4 := hc2.2))
          refine hK _ _ ?_
          clear hK K
          try simp only [Act.put, List.setIfInBounds_toArray, List.set_cons_zero, List.set_cons_succ]
          refine wpAny_ready (rs := [11]) (by kernel_rfl) (by simp) ?_
          refine AllReady.cons (by simp only [List.getElem?_toArray, List.getElem?_cons_succ, List.getElem?_cons_zero]; exact rfl) (fun K hK => ?_) ?_
          · (first
              | refine step_wp rfl (wp_load_sec _ rfl b o rfl l hl hr ?_)
              | refine step_wp rfl (wp_load_sec _ rfl b o rfl l hl hr1 ?_)
              | refine step_wp rfl (wp_slice_pend _ rfl (at', l) rfl hl ?_)
              | (refine step_wp rfl (wp_append_pend' _ _ rfl B (.slice a d.R.length c) d.R rfl hrw _ _ (at', l) rfl hbp hl HM.out hBB fun x cx w2 h1 h2 h3 => ?_)
                 have hc2 := hc1 w2 h2
                 have hc3 := hc2.1
                 have hc4 := hc2.2))
            refine hK _ _ ?_
            clear hK K
            try simp only [Act.put, List.setIfInBounds_toArray, List.set_cons_zero, List.set_cons_succ]
            refine wpAny_take (i := 12) (v := ?_) (by simp only [List.getElem?_toArray, List.getElem?_cons_succ, List.getElem?_cons_zero]; exact rfl) (by kernel_rfl) (by kernel_rfl) (by kernel_rfl) (by intro _ _ _ h; exact h) (Or.inl ⟨by rfl, ?_⟩) ?_
            rotate_left
            · intro wz; go_simp; with_reducible rfl
            try simp only [Act.put, List.setIfInBounds_toArray, List.set_cons_zero, List.set_cons_succ]
            refine wpAny_take (i := 13) (v := ?_) (by simp only [List.getElem?_toArray, List.getElem?_cons_succ, List.getElem?_cons_zero]; exact rfl) (by kernel_rfl) (by kernel_rfl) (by kernel_rfl) (by intro _ _ _ h; exact h) (Or.inl ⟨by rfl, ?_⟩) ?_
            rotate_left
            · intro wz; go_simp; with_reducible rfl
            try simp only [Act.put, List.setIfInBounds_toArray, List.set_cons_zero, List.set_cons_succ]
            refine wpAny_ready (rs := [14]) (by kernel_rfl) (by simp) ?_
            refine AllReady.cons (by simp only [List.getElem?_toArray, List.getElem?_cons_succ, List.getElem?_cons_zero]; exact rfl) (fun K hK => ?_) ?_
            · go_simp
              refine hK _ _ ?_
              clear hK K
              try simp only [Act.put, List.setIfInBounds_toArray, List.set_cons_zero, List.set_cons_succ]
              refine wpAny_done (by kernel_rfl) ?_ _
              go_wp2_with fail
              go_meet
              obtain ⟨q1, q2, q3⟩ := HF.out w2 h2
              have ht := row_type h1 q1 (by decide)
              refine ⟨_, x, cx, rfl, Lib.hid ⟨q1.set 1 _, q2.far _ HN.out.symm _, ?_, q3.trans ⟨rfl, rfl, rfl, by simp [World.setCell], fun k _ hk => ?_⟩, fun k hk => ?_⟩⟩
              · rw [List.length_append, List.length_singleton]
                exact row_far h1 fun k hk _ => Below.heap_setCell _ _ _ _ (fun e => ht (by rw [hk, e]))
              · exact Below.heap_setCell _ _ _ _ (fun e => hk (Or.inl e))
              · have e : x = k := Option.some.inj hk
                subst e
                rcases h3 with h3 | h3
                · exact Or.inl h3
                · have hz : (w.drew.alloc (.cells (pc (at', l)).toArray 134)).heap.size = w.heap.size + 1 := by simp [World.alloc]
                  have hz2 : (w.alloc (.cells (pc (at', l)).toArray 134)).drew.heap.size = w.heap.size + 1 := by show (w.heap.push _).size = _; exact Array.size_push _
                  exact Or.inr (by omega)
            exact AllReady.nil
          exact AllReady.nil
        exact AllReady.nil
      exact AllReady.nil
    refine AllReady.cons (by simp only [List.getElem?_toArray, List.getElem?_cons_succ, List.getElem?_cons_zero]; exact rfl) (fun K hK => ?_) ?_
    · (first
        | refine step_wp rfl (wp_load_sec _ rfl b o rfl l hl hr ?_)
        | refine step_wp rfl (wp_load_sec _ rfl b o rfl l hl hr1 ?_)
        | refine step_wp rfl (wp_slice_pend _ rfl (at', l) rfl hl ?_)
        | (refine step_wp rfl (wp_append_pend' _ _ rfl B (.slice a d.R.length c) d.R rfl hrw _ _ (at', l) rfl hbp hl HM.out hBB fun x cx w2 h1 h2 h3 => ?_)
           have hc2 := hc1 w2 h2
           have hc3 := hc2.1
           have hc4 := hc2.2))
      refine hK _ _ ?_
      clear hK K
      try simp only [Act.put, List.setIfInBounds_toArray, List.set_cons_zero, List.set_cons_succ]
      refine wpAny_take (i := 9) (v := ?_) (by simp only [List.getElem?_toArray, List.getElem?_cons_succ, List.getElem?_cons_zero]; exact rfl) (by kernel_rfl) (by kernel_rfl) (by kernel_rfl) (by intro _ _ _ h; exact h) (Or.inl ⟨by rfl, ?_⟩) ?_
      rotate_left
      · intro wz; (first | (refine exec_build_pend at' l hl ?_ ?_ <;> rfl) | (refine exec_array b o c' ?_; rfl))
      try simp only [Act.put, List.setIfInBounds_toArray, List.set_cons_zero, List.set_cons_succ]
      refine wpAny_ready (rs := [4, 10]) (by kernel_rfl) (by simp) ?_
      refine AllReady.cons (by simp only [List.getElem?_toArray, List.getElem?_cons_succ, List.getElem?_cons_zero]; exact rfl) (fun K hK => ?_) ?_
      · go_simp
        refine hK _ _ ?_
        clear hK K
        try simp only [Act.put, List.setIfInBounds_toArray, List.set_cons_zero, List.set_cons_succ]
        refine wpAny_ready (rs := [10]) (by kernel_rfl) (by simp) ?_
        refine AllReady.cons (by simp only [List.getElem?_toArray, List.getElem?_cons_succ, List.getElem?_cons_zero]; exact rfl) (fun K hK => ?_) ?_
        · (first
            | refine step_wp rfl (wp_load_sec _ rfl b o rfl l hl hr ?_)
            | refine step_wp rfl (wp_load_sec _ rfl b o rfl l hl hr1 ?_)
            | refine step_wp rfl (wp_slice_pend _ rfl (at', l) rfl hl ?_)
            | (refine step_wp rfl (wp_append_pend' _ _ rfl B (.slice a d.R.length c) d.R rfl hrw _ _ (at', l) rfl hbp hl HM.out hBB fun x cx w2 h1 h2 h3 => ?_)
               have hc2 := hc1 w2 h2
               have hc3 := hc2.1
               have hc4 := hc2.2))
          refine hK _ _ ?_
          clear hK K
          try simp only [Act.put, List.setIfInBounds_toArray, List.set_cons_zero, List.set_cons_succ]
          refine wpAny_ready (rs := [11]) (by kernel_rfl) (by simp) ?_
          refine AllReady.cons (by simp only [List.getElem?_toArray, List.getElem?_cons_succ, List.getElem?_cons_zero]; exact rfl) (fun K hK => ?_) ?_
          · (first
              | refine step_wp rfl (wp_load_sec _ rfl b o rfl l hl hr ?_)
              | refine step_wp rfl (wp_load_sec _ rfl b o rfl l hl hr1 ?_)
              | refine step_wp rfl (wp_slice_pend _ rfl (at', l) rfl hl ?_)
              | (refine step_wp rfl (wp_append_pend' _ _ rfl B (.slice a d.R.length c) d.R rfl hrw _ _ (at', l) rfl hbp hl HM.out hBB fun x cx w2 h1 h2 h3 => ?_)
                 have hc2 := hc1 w2 h2
                 have hc3 := hc2.1
                 have hc4 := hc2.2))
            refine hK _ _ ?_
            clear hK K
            try simp only [Act.put, List.setIfInBounds_toArray, List.set_cons_zero, List.set_cons_succ]
            refine wpAny_take (i := 12) (v := ?_) (by simp only [List.getElem?_toArray, List.getElem?_cons_succ, List.getElem?_cons_zero]; exact rfl) (by kernel_rfl) (by kernel_rfl) (by kernel_rfl) (by intro _ _ _ h; exact h) (Or.inl ⟨by rfl, ?_⟩) ?_
            rotate_left
            · intro wz; go_simp; with_reducible rfl
            try simp only [Act.put, List.setIfInBounds_toArray, List.set_cons_zero, List.set_cons_succ]
            refine wpAny_take (i := 13) (v := ?_) (by simp only [List.getElem?_toArray, List.getElem?_cons_succ, List.getElem?_cons_zero]; exact rfl) (by kernel_rfl) (by kernel_rfl) (by kernel_rfl) (by intro _ _ _ h; exact h) (Or.inl ⟨by rfl, ?_⟩) ?_
            rotate_left
            · intro wz; go_simp; with_reducible rfl
            try simp only [Act.put, List.setIfInBounds_toArray, List.set_cons_zero, List.set_cons_succ]
            refine wpAny_ready (rs := [14]) (by kernel_rfl) (by simp) ?_
            refine AllReady.cons (by simp only [List.getElem?_toArray, List.getElem?_cons_succ, List.getElem?_cons_zero]; exact rfl) (fun K hK => ?_) ?_
            · go_simp
              refine hK _ _ ?_
              clear hK K
              try simp only [Act.put, List.setIfInBounds_toArray, List.set_cons_zero, List.set_cons_succ]
              refine wpAny_done (by kernel_rfl) ?_ _
              go_wp2_with fail
              go_meet
              obtain ⟨q1, q2, q3⟩ := HF.out w2 h2
              have ht := row_type h1 q1 (by decide)
              refine ⟨_, x, cx, rfl, Lib.hid ⟨q1.set 1 _, q2.far _ HN.out.symm _, ?_, q3.trans ⟨rfl, rfl, rfl, by simp [World.setCell], fun k _ hk => ?_⟩, fun k hk => ?_⟩⟩
              · rw [List.length_append, List.length_singleton]
                exact row_far h1 fun k hk _ => Below.heap_setCell _ _ _ _ (fun e => ht (by rw [hk, e]))
              · exact Below.heap_setCell _ _ _ _ (fun e => hk (Or.inl e))
              · have e : x = k := Option.some.inj hk
                subst e
                rcases h3 with h3 | h3
                · exact Or.inl h3
                · have hz : (w.drew.alloc (.cells (pc (at', l)).toArray 134)).heap.size = w.heap.size + 1 := by simp [World.alloc]
                  have hz2 : (w.alloc (.cells (pc (at', l)).toArray 134)).drew.heap.size = w.heap.size + 1 := by show (w.heap.push _).size = _; exact Array.size_push _
                  exact Or.inr (by omega)
            exact AllReady.nil
          exact AllReady.nil
        exact AllReady.nil
      refine AllReady.cons (by simp only [List.getElem?_toArray, List.getElem?_cons_succ, List.getElem?_cons_zero]; exact rfl) (fun K hK => ?_) ?_
      · (first
          | refine step_wp rfl (wp_load_sec _ rfl b o rfl l hl hr ?_)
          | refine step_wp rfl (wp_load_sec _ rfl b o rfl l hl hr1 ?_)
          | refine step_wp rfl (wp_slice_pend _ rfl (at', l) rfl hl ?_)
          | (refine step_wp rfl (wp_append_pend' _ _ rfl B (.slice a d.R.length c) d.R rfl hrw _ _ (at', l) rfl hbp hl HM.out hBB fun x cx w2 h1 h2 h3 => ?_)
             have hc2 := hc1 w2 h2
             have hc3 := hc2.1
             have hc4 := hc2.2))
        refine hK _ _ ?_
        clear hK K
        try simp only [Act.put, List.setIfInBounds_toArray, List.set_cons_zero, List.set_cons_succ]
        refine wpAny_ready (rs := [4]) (by kernel_rfl) (by simp) ?_
        refine AllReady.cons (by simp only [List.getElem?_toArray, List.getElem?_cons_succ, List.getElem?_cons_zero]; exact rfl) (fun K hK => ?_) ?_
        · go_simp
          refine hK _ _ ?_
          clear hK K
          try simp only [Act.put, List.setIfInBounds_toArray, List.set_cons_zero, List.set_cons_succ]
          refine wpAny_ready (rs := [11]) (by kernel_rfl) (by simp) ?_
          refine AllReady.cons (by simp only [List.getElem?_toArray, List.getElem?_cons_succ, List.getElem?_cons_zero]; exact rfl) (fun K hK => ?_) ?_
          · (first
              | refine step_wp rfl (wp_load_sec _ rfl b o rfl l hl hr ?_)
              | refine step_wp rfl (wp_load_sec _ rfl b o rfl l hl hr1 ?_)
              | refine step_wp rfl (wp_slice_pend _ rfl (at', l) rfl hl ?_)
              | (refine step_wp rfl (wp_append_pend' _ _ rfl B (.slice a d.R.length c) d.R rfl hrw _ _ (at', l) rfl hbp hl HM.out hBB fun x cx w2 h1 h2 h3 => ?_)
                 have hc2 := hc1 w2 h2
                 have hc3 := hc2.1
                 have hc4 := hc2.2))
            refine hK _ _ ?_
            clear hK K
            try simp only [Act.put, List.setIfInBounds_toArray, List.set_cons_zero, List.set_cons_succ]
            refine wpAny_take (i := 12) (v := ?_) (by simp only [List.getElem?_toArray, List.getElem?_cons_succ, List.getElem?_cons_zero]; exact rfl) (by kernel_rfl) (by kernel_rfl) (by kernel_rfl) (by intro _ _ _ h; exact h) (Or.inl ⟨by rfl, ?_⟩) ?_
            rotate_left
            · intro wz; go_simp; with_reducible rfl
            try simp only [Act.put, List.setIfInBounds_toArray, List.set_cons_zero, List.set_cons_succ]
            refine wpAny_take (i := 13) (v := ?_) (by simp only [List.getElem?_toArray, List.getElem?_cons_succ, List.getElem?_cons_zero]; exact rfl) (by kernel_rfl) (by kernel_rfl) (by kernel_rfl) (by intro _ _ _ h; exact h) (Or.inl ⟨by rfl, ?_⟩) ?_
            rotate_left
            · intro wz; go_simp; with_reducible rfl
            try simp only [Act.put, List.setIfInBounds_toArray, List.set_cons_zero, List.set_cons_succ]
            refine wpAny_ready (rs := [14]) (by kernel_rfl) (by simp) ?_
            refine AllReady.cons (by simp only [List.getElem?_toArray, List.getElem?_cons_succ, List.getElem?_cons_zero]; exact rfl) (fun K hK => ?_) ?_
            · go_simp
              refine hK _ _ ?_
              clear hK K
              try simp only [Act.put, List.setIfInBounds_toArray, List.set_cons_zero, List.set_cons_succ]
              refine wpAny_done (by kernel_rfl) ?_ _
              go_wp2_with fail
              go_meet
              obtain ⟨q1, q2, q3⟩ := HF.out w2 h2
              have ht := row_type h1 q1 (by decide)
              refine ⟨_, x, cx, rfl, Lib.hid ⟨q1.set 1 _, q2.far _ HN.out.symm _, ?_, q3.trans ⟨rfl, rfl, rfl, by simp [World.setCell], fun k _ hk => ?_⟩, fun k hk => ?_⟩⟩
              · rw [List.length_append, List.length_singleton]
                exact row_far h1 fun k hk _ => Below.heap_setCell _ _ _ _ (fun e => ht (by rw [hk, e]))
              · exact Below.heap_setCell _ _ _ _ (fun e => hk (Or.inl e))
              · have e : x = k := Option.some.inj hk
                subst e
                rcases h3 with h3 | h3
                · exact Or.inl h3
                · have hz : (w.drew.alloc (.cells (pc (at', l)).toArray 134)).heap.size = w.heap.size + 1 := by simp [World.alloc]
                  have hz2 : (w.alloc (.cells (pc (at', l)).toArray 134)).drew.heap.size = w.heap.size + 1 := by show (w.heap.push _).size = _; exact Array.size_push _
                  exact Or.inr (by omega)
            exact AllReady.nil
          exact AllReady.nil
        exact AllReady.nil
      exact AllReady.nil
    exact AllReady.nil
  case rest =>
    obtain ⟨rv', x, cx, rfl, hP⟩ := hcut
    have k := hP.out.1
    have k4 : wc.cell? ⟨g, 4, none⟩ = some (ci d.c0) := k.cell 4
    have k4f := k.free 4
    have k3f := k.free 3
    have k3 : wc.cell? ⟨g, 3, none⟩ = some (ci d.left) := k.cell 3
    clear H c0 harr HR c1 HRW
    go_wp2_with fail
    go_region
    go_wp2_with fail
    go_ret
    obtain ⟨q1, q2, q3, q4, q5⟩ := hP.out
    have hs := HD.out.ne.symm
    refine ⟨rfl, _, ⟨(q1.set 4 (ci (wrap64 (d.c0 + 1)))).drew.set 3 (ci (wrap64 (d.left - 1))), (q2.far ⟨g, 4, none⟩ hs _).far ⟨g, 3, none⟩ hs _, ?_, OK.out⟩, ((q4.set (Or.inl rfl) _).drew.set (Or.inl rfl) _), q5⟩
    have ht := row_type q3 q1 (by decide)
    exact row_far q3 fun k hk _ => (Below.heap_setCell _ _ _ _ (fun e => ht (by rw [hk, e]))).trans (Below.heap_setCell _ _ _ _ (fun e => ht (by rw [hk, e])))
end Go.Proofs.Ytjcbmlpfpcpakaa
