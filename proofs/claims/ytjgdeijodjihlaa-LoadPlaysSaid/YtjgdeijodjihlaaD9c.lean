/- Layer 9 (load): a new meter; the clock goes on. -/
import Derived.Test.YtjgdeijodjihlaaD9b
import Derived.Deep.RegionWith
namespace Go.Proofs.Ytjgdeijodjihlaa
open Go.RowKit
set_option linter.unusedVariables false

def newM (n h : Nat) : Mt := ⟨h, 0, List.replicate n 0, List.replicate 8 0⟩
theorem newM_ok (n h : Nat) (h1 : 1 ≤ n) (h2 : n ≤ 64) (h3 : 1 ≤ h) (h4 : h ≤ 1048576) : (newM n h).ok :=
  ⟨h3, h4, by unfold newM; simp, by unfold newM; simpa using h1, by unfold newM; simpa using h2, rfl, fun x hx => by
    rw [(List.mem_replicate.1 hx).2]; exact good0, fun x hx => by rw [(List.mem_replicate.1 hx).2]; exact good0⟩
theorem fitB_iff (n h : Int) : fitB n h = true ↔ (1 ≤ n ∧ n ≤ 64 ∧ 1 ≤ h ∧ h ≤ 1048576) := by unfold fitB; simp
theorem new_calls (n h : Int) (w : World) : Calls Try.prog 16 #[ci n, ci h] w fun e w' =>
    (fitB n h = false ∧ e = .returned (.tuple #[.pointer none, ci 2]) ∧ w = w') ∨
    (fitB n h = true ∧ ∃ g lb, e = .returned (.tuple #[.pointer (some ⟨g, 0, none⟩), ci 0]) ∧ w.heap.size ≤ g ∧ w.heap.size ≤ lb ∧ MB w' g lb (newM n.toNat h.toNat) ∧ Ext w w') := by
  obtain ⟨i3, j1, j2, j3, j4⟩ := info_parts Try.info33
  by_cases h1 : 1 ≤ n
  · by_cases h2 : n ≤ 64
    · by_cases h3 : 1 ≤ h
      · by_cases h4 : h ≤ 1048576
        · have hf : Hid (fitB n h = true) := (fitB_iff n h).2 ⟨h1, h2, h3, h4⟩
          obtain ⟨k, rfl⟩ : ∃ k : Nat, n = (k : Int) := ⟨n.toNat, by omega⟩
          obtain ⟨d, rfl⟩ : ∃ k : Nat, h = (k : Int) := ⟨h.toNat, by omega⟩
          have hmk : ∀ w : World, (Instr.makeSlice 28 (.int .i64 (k : Int)) (.int .i64 (k : Int))).run Try.prog w = .ok (.slice (some ⟨w.heap.size, 0, none⟩) k k) (w.alloc (.cells (V cf (List.replicate k 0)) 33)) :=
            fun w => run_make_one (P := Try.prog) cf 0 28 33 i3 8 Try.u28 j1 j2 j3 j4 rfl k k (by omega) (by omega) (by omega) w
          go_enter Try.func16, Try.ntmps16
          go_wp2_with fail
          go_ret2
          refine Or.inr ⟨hf.out, w.heap.size + 1, w.heap.size, by simp, by omega, by omega, ⟨?_, ?_, newM_ok _ _ (by omega) (by omega) (by omega) (by omega)⟩, Ext.of_alloc2 _ _⟩
          · have := Blk.new (w.alloc (.cells (V cf (List.replicate k 0)) 33)) (mc (newM k d) w.heap.size) 66
            rw [World.size_alloc] at this
            rw [Int.toNat_natCast, Int.toNat_natCast]
            have e : mc (newM k d) w.heap.size = #[ci d, ci 0, .slice (some ⟨w.heap.size, 0, none⟩) k k, cf 0, cf 0, cf 0, cf 0, cf 0, cf 0, cf 0, cf 0] := by
              unfold mc newM V
              simp [List.replicate]
            rw [e]
            rw [e] at this
            exact this
          · exact (Blk.new w _ _).alloc _
        · have hf : Hid (fitB n h = false) := by
            show _ = _
            have := mt (fitB_iff n h).1 (fun c => h4 c.2.2.2)
            simpa using this
          go_enter Try.func16, Try.ntmps16
          go_wp2_with fail
          go_ret2
          exact Or.inl ⟨hf.out, rfl, rfl⟩
      · have hf : Hid (fitB n h = false) := by
          show _ = _
          have := mt (fitB_iff n h).1 (fun c => h3 c.2.2.1)
          simpa using this
        go_enter Try.func16, Try.ntmps16
        go_wp2_with fail
        go_ret2
        exact Or.inl ⟨hf.out, rfl, rfl⟩
    · have hf : Hid (fitB n h = false) := by
        show _ = _
        have := mt (fitB_iff n h).1 (fun c => h2 c.2.1)
        simpa using this
      go_enter Try.func16, Try.ntmps16
      go_wp2_with fail
      go_ret2
      exact Or.inl ⟨hf.out, rfl, rfl⟩
  · have hf : Hid (fitB n h = false) := by
      show _ = _
      have := mt (fitB_iff n h).1 (fun c => h1 c.1)
      simpa using this
    go_enter Try.func16, Try.ntmps16
    go_wp2_with fail
    go_ret2
    exact Or.inl ⟨hf.out, rfl, rfl⟩
/- the clock -/
def halves : Nat → Nat → Nat
  | 0, x => x
  | n + 1, x => fhalf (halves n x)
theorem halves_good {x : Nat} (h : good x) : ∀ n, good (halves n x)
  | 0 => h
  | n + 1 => (fhalf_eq (halves_good h n)).2
def shiftW (k : Nat) (win : List Nat) : List Nat := win.drop k ++ List.replicate k 0
def ages (m : Mt) (t : Nat) : Nat := t / m.half - m.now / m.half
def onM (m : Mt) (t : Nat) : Mt := ⟨m.half, t, m.L.map (halves (min (ages m t) 2200)), shiftW (min (ages m t) 8) m.win⟩
def onP (m : Mt) (t : Int) : Int × Mt := if t < 0 ∨ 1099511627776 < t then (2, m) else if t < m.now then (90, m) else (0, onM m t.toNat)
theorem onM_ok {m : Mt} (h : m.ok) {t : Nat} (ht : t ≤ 1099511627776) : (onM m t).ok := by
  refine ⟨h.h1, h.h2, ht, by unfold onM; simpa using h.l1, by unfold onM; simpa using h.l2, ?_, fun x hx => ?_, fun x hx => ?_⟩
  · unfold onM shiftW; simp [h.w8]; omega
  · unfold onM at hx
    obtain ⟨y, hy, rfl⟩ := List.mem_map.1 hx
    exact halves_good (h.gl y hy) _
  · unfold onM shiftW at hx
    rcases List.mem_append.1 hx with h1 | h1
    · exact h.gw x (List.mem_of_mem_drop h1)
    · rw [(List.mem_replicate.1 h1).2]; exact good0
def mid (n : Nat) (k : Nat) (L : List Nat) : List Nat := (L.map (halves n)).take k ++ L.drop k
theorem mid_len (n k : Nat) (L : List Nat) (h : k ≤ L.length) : (mid n k L).length = L.length := by unfold mid; simp; omega
theorem mid_zero (n : Nat) (L : List Nat) : mid n 0 L = L := by unfold mid; simp
theorem mid_all (n : Nat) (L : List Nat) : mid n L.length L = L.map (halves n) := by unfold mid; rw [List.drop_length, List.append_nil, List.take_of_length_le (by simp)]
theorem mid_at (n k : Nat) (L : List Nat) (h : k < L.length) : (mid n k L)[k]? = some L[k] := by
  unfold mid
  rw [List.getElem?_append_right (by simp; omega), List.getElem?_drop]
  simp
  rw [show k + (k - min k L.length) = k by omega]
  exact List.getElem?_eq_getElem h
theorem mid_succ (n k : Nat) (L : List Nat) (h : k < L.length) : (mid n k L).set k (halves n L[k]) = mid n (k + 1) L := by
  unfold mid
  rw [List.set_append_right _ _ (by simp; omega), dropcons h]
  rw [show k - ((L.map (halves n)).take k).length = 0 by simp; omega, List.set_cons_zero]
  rw [List.take_add_one, List.getElem?_map, List.getElem?_eq_getElem h]
  simp
theorem on_bad (g lb : Nat) (m : Mt) (t : Int) (w : World) (h : MB w g lb m) (hb : (onP m t).1 ≠ 0) :
    Calls Try.prog 31 #[.pointer (some ⟨g, 0, none⟩), ci t] w fun e w' => e = .returned (ci (onP m t).1) ∧ w = w' := by
  have hc := h.now
  unfold onP at *
  by_cases h1 : t < 0
  · rw [if_pos (Or.inl h1)]
    clear hb h
    go_enter Try.func31, Try.ntmps31
    go_wp2_with fail
    go_ret
    exact ⟨rfl, rfl⟩
  · by_cases h2 : 1099511627776 < t
    · rw [if_pos (Or.inr h2)]
      clear hb h
      go_enter Try.func31, Try.ntmps31
      go_wp2_with fail
      go_ret
      exact ⟨rfl, rfl⟩
    · have hn : ¬ (t < 0 ∨ 1099511627776 < t) := by omega
      rw [if_neg hn] at hb ⊢
      by_cases h3 : t < m.now
      · rw [if_pos h3]
        clear hb h hn
        go_enter Try.func31, Try.ntmps31
        go_wp2_with fail
        go_ret
        exact ⟨rfl, rfl⟩
      · rw [if_neg h3] at hb
        exact absurd rfl hb
theorem mc_now (m : Mt) (lb t : Nat) : (mc m lb).setIfInBounds 1 (ci t) = mc ⟨m.half, t, m.L, m.win⟩ lb := by
  unfold mc
  rw [Array.setIfInBounds_append_left (by simp)]
  rfl
theorem mc_two (m : Mt) (lb : Nat) : (mc m lb)[2]? = some (.slice (some ⟨lb, 0, none⟩) m.L.length m.L.length) := by
  unfold mc
  rw [Array.getElem?_append_left (by simp)]
  rfl
/-- while the clock goes on -/
structure On (w wr : World) (g lb : Nat) (c : Array Value) (M : List Nat) : Prop where
  b : Blk wr g c 66
  l : Blk wr lb (V cf M) 33
  k : Grw2 w wr g lb
theorem On.set {w wr : World} {g lb : Nat} {c : Array Value} {M : List Nat} (h : On w wr g lb c M) (hne : g ≠ lb) (i x : Nat) : On w (wr.setCell ⟨lb, i, none⟩ (cf x)) g lb c (M.set i x) :=
  ⟨h.b.far _ hne _, by rw [← V_set]; exact h.l.set i _, h.k.set _ (Or.inr rfl) _⟩
theorem On.drew {w wr : World} {g lb : Nat} {c : Array Value} {M : List Nat} (h : On w wr g lb c M) (n : Nat) : On w (wr.drewN n) g lb c M :=
  ⟨h.b.ext ((Ext.refl _).drewN n), h.l.ext ((Ext.refl _).drewN n), h.k.ext ((Ext.refl _).drewN n)⟩
theorem mc_toList (m : Mt) (lb : Nat) : (mc m lb).toList = [ci m.half, ci m.now, .slice (some ⟨lb, 0, none⟩) m.L.length m.L.length] ++ m.win.map cf := by
  unfold mc; rw [Array.toList_append, V_toList]
theorem mc_size (m : Mt) (lb : Nat) : (mc m lb).size = 3 + m.win.length := by
  rw [← Array.length_toList, mc_toList]; simp; omega
theorem mc_part (m : Mt) (lb o : Nat) (xs : List Nat) (h : o + xs.length ≤ m.win.length) :
    ((mc m lb).toList.take (3 + o) ++ xs.map cf ++ (mc m lb).toList.drop (3 + o + (xs.map cf).length)).toArray = mc ⟨m.half, m.now, m.L, m.win.take o ++ xs ++ m.win.drop (o + xs.length)⟩ lb := by
  apply Array.ext'
  rw [mc_toList, mc_toList]
  simp only [List.length_map, List.map_append, List.map_take, List.map_drop]
  rw [show (3 + o) = [ci m.half, ci m.now, Value.slice (some ⟨lb, 0, none⟩) m.L.length m.L.length].length + o from rfl, List.take_length_add_append]
  rw [show [ci m.half, ci m.now, Value.slice (some ⟨lb, 0, none⟩) m.L.length m.L.length].length + o + xs.length = [ci m.half, ci m.now, Value.slice (some ⟨lb, 0, none⟩) m.L.length m.L.length].length + (o + xs.length) by omega, List.drop_length_add_append]
  simp
theorem On.part {w wr : World} {g lb : Nat} {m : Mt} {M : List Nat} (h : On w wr g lb (mc m lb) M) (hne : g ≠ lb) (o : Nat) (xs : List Nat) (hl : o + xs.length ≤ m.win.length) :
    On w (wr.setRow g ((mc m lb).toList.take (3 + o) ++ xs.map cf ++ (mc m lb).toList.drop (3 + o + (xs.map cf).length)).toArray) g lb (mc ⟨m.half, m.now, m.L, m.win.take o ++ xs ++ m.win.drop (o + xs.length)⟩ lb) M := by
  refine ⟨?_, ?_, h.k.row _⟩
  · rw [mc_part _ _ _ _ hl]
    exact setRow_heap wr g _ _ 66 _ h.b
  · have hb := h.l
    unfold Blk at hb ⊢
    simp only [World.setRow]
    rw [Array.getElem?_modify, if_neg hne]
    exact hb
theorem On.copy {w wr : World} {g lb : Nat} {m : Mt} {M : List Nat} (h : On w wr g lb (mc m lb) M) (hne : g ≠ lb) (h8 : m.win.length = 8) (k : Nat) (hk : k ≤ 8) :
    ∃ w2, (Builtin.copy_ #[28, 28] 3 #[.slice (some ⟨g, 3, none⟩) 8 8, .slice (some (if 8 = k then ⟨g, 3, none⟩ else ⟨g, 3 + k, none⟩)) (8 - k) (8 - k)]).run Try.prog wr = .ok (goInt ((8 - k : Nat) : Int)) w2 ∧
      On w w2 g lb (mc ⟨m.half, m.now, m.L, m.win.drop k ++ m.win.drop (8 - k)⟩ lb) M := by
  have hlen : (m.win.drop k).length = 8 - k := by simp [h8]
  have hr := run_copy_row (P := Try.prog) wr 28 28 3 33 g 3 8 8 (if 8 = k then ⟨g, 3, none⟩ else ⟨g, 3 + k, none⟩) (8 - k) (8 - k) (mc m lb) 66 ((m.win.drop k).map cf) Try.u28 (by kernel_rfl) h.b
    (by rw [List.length_map, hlen]; show _ = min _ _; omega)
    (fun j v hj => by
      rw [List.getElem?_map, List.getElem?_drop] at hj
      have hjl : k + j < m.win.length := by
        rcases Nat.lt_or_ge (k + j) m.win.length with h1 | h1
        · exact h1
        · rw [List.getElem?_eq_none h1] at hj; cases hj
      rw [if_neg (by omega)]
      rw [Addr.add_mid, h.b.cell, Nat.add_assoc, mc_get]
      exact hj)
    (by rw [mc_size, List.length_map, hlen]; omega)
    (fun v hv => by obtain ⟨x, _, rfl⟩ := List.mem_map.1 hv; exact cf_one x)
  rw [List.length_map, hlen] at hr
  refine ⟨_, hr, ?_⟩
  have := h.part hne 0 (m.win.drop k) (by omega)
  simp only [List.length_map, hlen, Nat.zero_add, Nat.add_zero, List.take_zero, List.nil_append] at this
  exact this
theorem zeroCells_one (z : Value) (n : Nat) : (Builtin.zeroCells #[z] n).toList = List.replicate n z := by
  unfold Builtin.zeroCells
  apply List.ext_getElem?
  intro i
  simp
  by_cases h : i < n
  · simp [h, Nat.mod_one]
  · simp [h]
theorem On.clear {w wr : World} {g lb : Nat} {m : Mt} {M : List Nat} (h : On w wr g lb (mc m lb) M) (hne : g ≠ lb) (h8 : m.win.length = 8) (k : Nat) (hk : k ≤ 8) (ty : TypeId) (a : Addr) (ha : k ≠ 0 → a = ⟨g, 3 + (8 - k), none⟩) :
    ∃ w2, (Builtin.clear_ #[28] ty #[.slice (some a) k k]).run Try.prog wr = .ok (.tuple #[]) w2 ∧
      On w w2 g lb (mc ⟨m.half, m.now, m.L, m.win.take (8 - k) ++ List.replicate k 0⟩ lb) M := by
  by_cases h0 : k = 0
  · subst h0
    refine ⟨wr, ?_, ?_⟩
    · simp [Builtin.clear_, run_underlying Try.u28]
    · rw [List.take_of_length_le (by omega)]
      simp only [List.replicate_zero, List.append_nil]
      exact h
  · obtain rfl := ha h0
    obtain ⟨n, rfl⟩ : ∃ n, k = n + 1 := ⟨k - 1, by omega⟩
    obtain ⟨o8, ho8⟩ : ∃ x, 8 - (n + 1) = x := ⟨_, rfl⟩
    rw [ho8]
    obtain ⟨i3, j1, j2, j3, j4⟩ := info_parts Try.info33
    have hst := run_storeCells_at Try.prog g (3 + o8) 66 (List.replicate (n + 1) (cf 0)) 0 (mc m lb) wr h.b (by rw [mc_size, List.length_replicate]; omega) (fun v hv => by rw [(List.mem_replicate.1 hv).2]; rfl)
    obtain ⟨w2, hw2⟩ : ∃ x, (wr.setRow g ((mc m lb).toList.take (3 + o8 + 0) ++ List.replicate (n + 1) (cf 0) ++ (mc m lb).toList.drop (3 + o8 + 0 + (List.replicate (n + 1) (cf 0)).length)).toArray) = x := ⟨_, rfl⟩
    rw [hw2] at hst
    have hrun : (Builtin.clear_ #[28] ty #[.slice (some ⟨g, 3 + o8, none⟩) (n + 1) (n + 1)]).run Try.prog wr = .ok (.tuple #[]) w2 := by
      have hz : (zeroValue 33).run Try.prog wr = .ok (cf 0) wr := by simp [zeroValue, typeInfo, j1, j2]
      simp only [Builtin.clear_]
      simp [Sem.run_bind, run_underlying Try.u28, hz, Value.cells, zeroCells_one, hst]
    refine ⟨_, hrun, ?_⟩
    rw [← hw2]
    have := h.part hne o8 (List.replicate (n + 1) 0) (by simp; omega)
    rw [List.map_replicate] at this
    rw [show m.win.drop (o8 + (List.replicate (n + 1) 0).length) = [] from List.drop_of_length_le (by simp; omega), List.append_nil] at this
    exact this
theorem Q.fin {w w3 : World} {g lb t g8 mm a : Nat} {m : Mt} (H : MB w g lb m) (h : On w w3 g lb (mc ⟨m.half, t, m.L, (m.win.drop g8 ++ m.win.drop (8 - g8)).take (8 - g8) ++ List.replicate g8 0⟩ lb) (m.L.map (halves mm))) (ha : ages m t = a) (h8 : min a 8 = g8) (hm : min a 2200 = mm) (ht : t ≤ 1099511627776) :
    MB w3 g lb (onM m t) ∧ Grw2 w w3 g lb := by
  have e : (onM m t) = ⟨m.half, t, m.L.map (halves mm), (m.win.drop g8 ++ m.win.drop (8 - g8)).take (8 - g8) ++ List.replicate g8 0⟩ := by
    unfold onM shiftW
    rw [ha, h8, hm]
    congr 2
    rw [List.take_left' (by rw [List.length_drop, H.ok.w8])]
  refine ⟨⟨?_, ?_, onM_ok H.ok ht⟩, h.k⟩
  · rw [e]
    have := h.b
    unfold mc at this ⊢
    simp only [List.length_map] at this ⊢
    exact this
  · rw [e]; exact h.l
set_option maxHeartbeats 2000000 in
theorem on_calls (g lb : Nat) (m : Mt) (t : Nat) (w : World) (h : MB w g lb m) (ht : (t : Int) ≤ 1099511627776) (hn : (m.now : Int) ≤ t) :
    Calls Try.prog 31 #[.pointer (some ⟨g, 0, none⟩), ci t] w fun e w' => e = .returned (ci 0) ∧ MB w' g lb (onM m t) ∧ Grw2 w w' g lb := by
  have hc1 := h.now
  have hc0 := h.half
  have hf1 := h.b.free 1
  have hne := h.ne
  obtain ⟨A1, hA1⟩ : ∃ x, t / m.half = x := ⟨_, rfl⟩
  obtain ⟨A0, hA0⟩ : ∃ x, m.now / m.half = x := ⟨_, rfl⟩
  obtain ⟨a, ha⟩ : ∃ x, ages m t = x := ⟨_, rfl⟩
  have hle : A0 ≤ A1 := by rw [← hA0, ← hA1]; exact Nat.div_le_div_right (by omega)
  have hle2 : A1 ≤ t := by rw [← hA1]; exact Nat.div_le_self _ _
  have haa : a = A1 - A0 := by rw [← ha]; unfold ages; rw [hA1, hA0]
  have hq1 : (t : Int).tdiv (m.half : Int) = (A1 : Int) := by rw [← hA1]; rfl
  have hq0 : (m.now : Int).tdiv (m.half : Int) = (A0 : Int) := by rw [← hA0]; rfl
  have hd : (A1 : Int) - (A0 : Int) = (a : Int) := by omega
  have hwr : IntKind.i64.wrap ((A1 : Int) - (A0 : Int)) = (a : Int) := by rw [hd]; simp only [IntKind.wrap, IntKind.bits, IntKind.signed]; simp; omega
  have hw1 : Hid (wrap64 (A1 : Int) = (A1 : Int)) := by show _ = _; unfold wrap64; omega
  have hw0 : Hid (wrap64 (A0 : Int) = (A0 : Int)) := by show _ = _; unfold wrap64; omega
  have hwd : Hid (wrap64 ((A1 : Int) - (A0 : Int)) = (a : Int)) := by show _ = _; rw [hd]; unfold wrap64; omega
  have hh1 : (1 : Int) ≤ m.half := by have := h.ok.h1; omega
  have hh2 : (m.half : Int) ≤ 1048576 := by have := h.ok.h2; omega
  have hl2 : (m.L.length : Int) ≤ 64 := by have := h.ok.l2; omega
  have HA := Lib.hid ha
  have H := Lib.hid h
  have NE := Lib.hid hne
  have hal : (a : Int) ≤ 1099511627776 := by omega
  obtain ⟨g8, hg8⟩ : ∃ x, min a 8 = x := ⟨_, rfl⟩
  obtain ⟨mm, hmm⟩ : ∃ x, min a 2200 = x := ⟨_, rfl⟩
  have hi8 : (if (8 : Int) < (a : Int) then (8 : Int) else (a : Int)) = (g8 : Int) := by split <;> omega
  have him : (if (2200 : Int) < (a : Int) then (2200 : Int) else (a : Int)) = (mm : Int) := by split <;> omega
  have hmin8 : ∀ w, (Builtin.min_ #[3, 3] 3 #[ci a, ci 8]).run Try.prog w = .ok (ci g8) w := fun w => by rw [run_min_int2, hi8]
  have hminm : ∀ w, (Builtin.min_ #[3, 3] 3 #[ci a, ci 2200]).run Try.prog w = .ok (ci mm) w := fun w => by rw [run_min_int2, him]
  have HG8 := Lib.hid hg8
  have HMM := Lib.hid hmm
  have hmm2 : (mm : Int) ≤ 2200 := by omega
  have hg82 : (g8 : Int) ≤ 8 := by omega
  have O1 : Hid (∀ n, On w ((w.drewN n).setCell ⟨g, 1, none⟩ (ci t)) g lb (mc ⟨m.half, t, m.L, m.win⟩ lb) m.L) := fun n => by
    have hd := (show On w w g lb (mc m lb) m.L from ⟨h.b, h.l, Grw2.refl w g lb⟩).drew n
    exact ⟨by rw [← mc_now]; exact hd.b.set 1 (ci t), hd.l.far _ (Ne.symm hne) _, hd.k.set _ (Or.inl rfl) _⟩
  have hr2 : w.cell? ⟨g, 2, none⟩ = some (.slice (some ⟨lb, 0, none⟩) m.L.length m.L.length) := h.loads
  clear h hne hA1 hA0 haa hle hle2 hd ha hg8 hmm hi8 him
  go_enter Try.func31, Try.ntmps31
  go_wp2_with fail
  go_quiet (fail)
  rw [hw1.out, hw0.out, hwd.out]
  go_wp2_with fail
  go_loopw [6, 47] (fun _ iv wx => ∃ (k : Nat), k ≤ m.L.length ∧ iv = .int .i64 k ∧ Hid (On w wx g lb (mc ⟨m.half, t, m.L, m.win⟩ lb) (mid mm k m.L))) (fun _ iv _ => (m.L.length - (intOf iv).toNat))
  case atStart => exact ⟨0, by omega, rfl, by rw [mid_zero]; exact O1.out nq⟩
  case round =>
    clear O1 hr2 hf1 hc0 hc1
    obtain ⟨k, hk, rfl, hQ⟩ := hrel
    by_cases hlt : k < m.L.length
    · have hgx := H.out.ok.gl m.L[k] (List.getElem_mem _)
      have hst := Lib.hid (mid_succ mm k m.L hlt)
      have hse := Lib.hid (mid_at mm k m.L hlt)
      have hml := Lib.hid (mid_len mm k m.L (by omega))
      obtain ⟨x, hx⟩ : ∃ x, m.L[k] = x := ⟨_, rfl⟩
      rw [hx] at hst hse hgx
      obtain ⟨M, hM⟩ : ∃ x, mid mm k m.L = x := ⟨_, rfl⟩
      rw [hM] at hst hse hml hQ
      have HX := Lib.hid hgx
      clear hx hM hgx
      go_wp2_with fail
      go_loopw [52] (fun iv wy => ∃ (j : Nat), j ≤ mm ∧ iv = .int .i64 j ∧ Hid (On w wy g lb (mc ⟨m.half, t, m.L, m.win⟩ lb) (M.set k (halves j x)))) (fun iv _ => (mm - (intOf iv).toNat))
      case atStart => exact ⟨0, by omega, rfl, by
        rw [show M.set k (halves 0 x) = M from List.ext_getElem? fun i => by
          rw [List.getElem?_set]
          split
          · next h => subst h; rw [if_pos (by rw [hml.out]; exact hlt)]; exact hse.out.symm
          · rfl]
        exact hQ.out⟩
      case round =>
        clear hQ
        obtain ⟨j, hj, rfl, hR⟩ := hrel
        by_cases hlt2 : j < mm
        · have hcs : wr.cell? ⟨g, 2, none⟩ = some (.slice (some ⟨lb, 0, none⟩) m.L.length m.L.length) := by rw [hR.out.b.cell]; exact mc_two _ _
          have hck : wr.cell? ⟨lb, k, none⟩ = some (cf (halves j x)) := by
            rw [hR.out.l.cell, V_get, List.getElem?_set, if_pos rfl, if_pos (by rw [hml.out]; exact hlt)]; rfl
          have hfk := hR.out.l.free k
          have hmul := fun w => run_float_arith (P := Try.prog) w .mul 33 .f64 _ _ _ (fhalf_eq (halves_good HX.out j)).1
          have HS := Lib.hid (hR.out.set NE.out k (halves (j + 1) x))
          rw [List.set_set] at HS
          obtain ⟨z, hz⟩ : ∃ z, halves j x = z := ⟨_, rfl⟩
          have HZ : Hid (halves (j + 1) x = fhalf z) := by show fhalf (halves j x) = _; rw [hz]
          rw [HZ.out] at HS
          rw [hz] at hck hmul
          clear hR hz
          go_wp2_with fail
          go_roundw
          case measure => simp only [intOf]; omega
          case rel => exact ⟨j + 1, by omega, by go_num, by rw [HZ.out]; exact HS.out⟩
        · obtain rfl : mm = j := by omega
          rw [hst.out] at hR
          go_wp2_with fail
          go_roundw
          case measure => simp only [intOf]; omega
          case rel => exact ⟨k + 1, by omega, by go_num, hR.out⟩
    · obtain rfl : m.L.length = k := by omega
      rw [mid_all] at hQ
      clear hk hlt
      go_wp2_with fail
      by_cases hg0 : g8 = 0
      · skip
        obtain ⟨w2, hcp, hQ2⟩ := (show On w wr.drew g lb (mc ⟨m.half, t, m.L, m.win⟩ lb) (m.L.map (halves mm)) from hQ.out.drew 1).copy NE.out H.out.ok.w8 g8 (by omega)
        obtain ⟨w3, hcl, hQ3⟩ := hQ2.clear NE.out (by have := H.out.ok.w8; simp; omega) g8 (by omega) 0 ⟨g, 3, none⟩ (fun h => absurd hg0 h)
        have HF := Lib.hid (Q.fin H.out hQ3 HA.out HG8.out HMM.out (show t ≤ 1099511627776 by omega))
        clear hQ hQ2 hQ3
        have e8 : g8 = 0 := hg0
        subst e8
        simp only [Nat.sub_zero, Nat.add_zero, show ¬ (8 = 0) by omega, if_false] at hcp hcl
        go_region
        go_wp2_with fail
        go_ret
        exact ⟨rfl, HF.out⟩

      · by_cases hg8' : g8 = 8
        · skip
          obtain ⟨w2, hcp, hQ2⟩ := (show On w wr.drew g lb (mc ⟨m.half, t, m.L, m.win⟩ lb) (m.L.map (halves mm)) from hQ.out.drew 1).copy NE.out H.out.ok.w8 g8 (by omega)
          obtain ⟨w3, hcl, hQ3⟩ := hQ2.clear NE.out (by have := H.out.ok.w8; simp; omega) g8 (by omega) 0 ⟨g, 3, none⟩ (fun _ => by rw [hg8'])
          have HF := Lib.hid (Q.fin H.out hQ3 HA.out HG8.out HMM.out (show t ≤ 1099511627776 by omega))
          clear hQ hQ2 hQ3
          have e8 : g8 = 8 := hg8'
          subst e8
          simp only [Nat.sub_self, if_true] at hcp hcl
          go_region
          go_wp2_with fail
          go_ret
          exact ⟨rfl, HF.out⟩

        · skip
          obtain ⟨w2, hcp, hQ2⟩ := (show On w wr.drew g lb (mc ⟨m.half, t, m.L, m.win⟩ lb) (m.L.map (halves mm)) from hQ.out.drew 1).copy NE.out H.out.ok.w8 g8 (by omega)
          obtain ⟨w3, hcl, hQ3⟩ := hQ2.clear NE.out (by have := H.out.ok.w8; simp; omega) g8 (by omega) 0 ⟨g, 3 + (8 - g8), none⟩ (fun _ => rfl)
          have HF := Lib.hid (Q.fin H.out hQ3 HA.out HG8.out HMM.out (show t ≤ 1099511627776 by omega))
          clear hQ hQ2 hQ3
          obtain ⟨c8, hc8⟩ : ∃ x, 8 - g8 = x := ⟨_, rfl⟩
          have hsub : (8 : Int) - (g8 : Int) = (c8 : Int) := by omega
          have hn8 : ¬ (8 = g8) := fun h => hg8' h.symm
          have hnc : ¬ (8 = c8) := by omega
          have hc82 : (c8 : Int) ≤ 8 := by omega
          have h3 : 8 - c8 = g8 := by omega
          rw [if_neg hn8, hc8] at hcp
          rw [hc8] at hcl
          go_region
          go_wp2_with fail
          go_ret
          exact ⟨rfl, HF.out⟩

end Go.Proofs.Ytjgdeijodjihlaa
