/- Layer 8 (disk): can a sector have become this? -/
import Derived.Test.YtjcbmlpfpcpakaaE8a
import Derived.Test.YtjcbmlpfpcpakaaD8y
import Derived.IntWalk
namespace Go.Proofs.Ytjcbmlpfpcpakaa
open Go.RowKit
set_option linter.unusedVariables false
theorem Try.u24 : Try.prog.underlying 24 = some (.slice 36) := by kernel_rfl
theorem Try.info36 : (Try.prog.info? 36).map (fun i => (i.zero, i.size, i.bytes)) = some (some (.slice none 0 0), 1, 24) := by kernel_rfl
theorem Own.of_blk {α : Type} {w : World} {B g n : Nat} {T : TypeId} {f : α → Value} {l : List α} (h : Blk w g (V f l) T) (hB : B ≤ g) (hn : n = l.length) (hm : n ≤ maxLen) : Own w B T f (.slice (some ⟨g, 0, none⟩) n n) l := by
  subst hn
  refine ⟨by simp, Or.inr ⟨g, l.length, V f l, rfl, hB, h, Nat.le_refl _, hm, by rw [V_size]; omega, ?_⟩⟩
  rw [V_toList, List.take_of_length_le (by simp)]
theorem V_idv (l : List Value) : V idv l = l.toArray := by rw [V_eq]; simp
/-- a slice that reads as the writes of a row -/
structure RdW (w : World) (v : Value) (E : List We) : Prop where
  f : ∃ a c, v = .slice a E.length c ∧ E.length ≤ 9223372036854775807 ∧ ∀ j, (hj : j < E.length) → ∃ b o, a = some ⟨b, o, none⟩ ∧ w.cell? ⟨b, o + j * 2, none⟩ = some (ci E[j].s) ∧ w.cell? ⟨b, o + j * 2 + 1, none⟩ = some E[j].v
  e : ∀ e ∈ E, (∃ b o c, e.v = .slice (some ⟨b, o, none⟩) 64 c ∧ 64 ≤ c ∧ c ≤ maxLen ∧ w.rangeAt b o (e.l.map cb)) ∧ e.l.length = 64
theorem RdW.ext {w w' : World} {v : Value} {E : List We} (h : RdW w v E) (x : Ext w w') : RdW w' v E := by
  obtain ⟨a, c, h1, h2, h3⟩ := h.f
  refine ⟨⟨a, c, h1, h2, fun j hj => ?_⟩, fun e he => ?_⟩
  · obtain ⟨b, o, k1, k2, k3⟩ := h3 j hj
    exact ⟨b, o, k1, x.cell k2, x.cell k3⟩
  · obtain ⟨⟨b, o, c, k1, k2, k3, k4⟩, k5⟩ := h.e e he
    exact ⟨⟨b, o, c, k1, k2, k3, range_ext k4 x⟩, k5⟩
/-- what can have come: the slices, and the bytes -/
def gV (wv : Value) (s : Nat) (E : List We) : List Value := wv :: (E.filter (fun e => decide (e.s = s))).map (·.v)
def gL (wl : List (BitVec 8)) (s : Nat) (E : List We) : List (List (BitVec 8)) := wl :: (E.filter (fun e => decide (e.s = s))).map (·.l)
theorem gL_may (wl : List (BitVec 8)) (s : Nat) (E : List We) : gL wl s E = mayL wl s (wR E) := by
  unfold gL mayL wR
  congr 1
  induction E with
  | nil => rfl
  | cons e r ih =>
    simp only [List.map_cons, List.filter_cons]
    split
    · simp only [List.map_cons, ih]
    · exact ih
theorem gV_len (wv : Value) (wl : List (BitVec 8)) (s : Nat) (E : List We) : (gV wv s E).length = (gL wl s E).length := by unfold gV gL; simp
theorem gV_le (wv : Value) (s : Nat) (E : List We) : (gV wv s E).length ≤ E.length + 1 := by
  unfold gV
  have := List.length_filter_le (fun e : We => decide (e.s = s)) E
  simp
  omega
theorem gV_step (wv : Value) (s : Nat) (E : List We) (k : Nat) (hk : k < E.length) : gV wv s (E.take (k + 1)) = if E[k].s = s then gV wv s (E.take k) ++ [E[k].v] else gV wv s (E.take k) := by
  unfold gV
  rw [List.take_succ_eq_append_getElem hk, List.filter_append, List.map_append]
  split
  · next h => simp [h]
  · next h => simp [h]
theorem g_rd {w : World} {v wv : Value} {E : List We} {wl : List (BitVec 8)} {s : Nat} (h : RdW w v E) {b o c : Nat} (hw : wv = .slice (some ⟨b, o, none⟩) 64 c) (hc : 64 ≤ c) (hm : c ≤ maxLen) (hr : w.rangeAt b o (wl.map cb)) (hl : wl.length = 64) (i : Nat) (hi : i < (gL wl s E).length) :
    ∃ b o c, (gV wv s E)[i]? = some (.slice (some ⟨b, o, none⟩) 64 c) ∧ 64 ≤ c ∧ c ≤ maxLen ∧ w.rangeAt b o ((gL wl s E)[i].map cb) ∧ (gL wl s E)[i].length = 64 := by
  unfold gV gL at *
  cases i with
  | zero => exact ⟨b, o, c, by simp [hw], hc, hm, hr, hl⟩
  | succ i =>
    simp only [List.length_cons, List.length_map] at hi
    have hi' : i < (E.filter (fun e => decide (e.s = s))).length := by omega
    obtain ⟨x, hx⟩ : ∃ x, (E.filter (fun e => decide (e.s = s)))[i] = x := ⟨_, rfl⟩
    have hxm : x ∈ E := by rw [← hx]; exact (List.mem_filter.1 (List.getElem_mem hi')).1
    obtain ⟨⟨b, o, c, h1, h2, h3, h4⟩, h5⟩ := h.e x hxm
    refine ⟨b, o, c, ?_, h2, h3, ?_, ?_⟩
    · rw [List.getElem?_cons_succ, List.getElem?_map, List.getElem?_eq_getElem hi', hx]
      exact congrArg some h1
    · simp only [List.getElem_cons_succ, List.getElem_map]
      rw [hx]; exact h4
    · simp only [List.getElem_cons_succ, List.getElem_map]
      rw [hx]; exact h5
theorem range_rd {w : World} {b o n c : Nat} {l : List (BitVec 8)} (h : w.rangeAt b o (l.map cb)) (hn : n = l.length) : Rd w cb (.slice (some ⟨b, o, none⟩) n c) l := by
  subst hn
  rcases Nat.eq_zero_or_pos l.length with h0 | h0
  · have : l = [] := List.eq_nil_of_length_eq_zero h0
    subst this
    exact Or.inl ⟨_, _, rfl, rfl, fun h => by cases h⟩
  · refine Or.inr ⟨b, o, c, _, rfl, rfl, h0, fun i hi => ?_⟩
    exact h i _ (by rw [List.getElem?_map, List.getElem?_eq_getElem hi]; rfl)
theorem range_take {w : World} {b o q : Nat} {l : List (BitVec 8)} (h : w.rangeAt b o (l.map cb)) : w.rangeAt b o ((l.take q).map cb) := fun j v hv => by
  rw [List.getElem?_map, List.getElem?_take] at hv
  split at hv
  · exact h j v (by rw [List.getElem?_map]; exact hv)
  · cases hv
theorem range_drop {w : World} {b o q : Nat} {l : List (BitVec 8)} (h : w.rangeAt b o (l.map cb)) : w.rangeAt b (o + q) ((l.drop q).map cb) := fun j v hv => by
  rw [List.getElem?_map, List.getElem?_drop, ← List.getElem?_map] at hv
  have := h (q + j) v hv
  rwa [← Nat.add_assoc] at this
theorem rd_from {w : World} {b o q c m : Nat} {l : List (BitVec 8)} (h : w.rangeAt b o (l.map cb)) (hl : l.length = 64) (hq : q ≤ 64) (hm : m = 64 - q) (hc : c = q → q = 64) : Rd w cb (.slice (some ⟨b, if c = q then o else o + q, none⟩) m (c - q)) (l.drop q) := by
  subst hm
  split
  · next e =>
    obtain rfl := hc e
    rw [List.drop_eq_nil_of_le (by omega)]
    exact Or.inl ⟨_, _, rfl, rfl, fun h => by cases h⟩
  · exact range_rd (range_drop h) (by rw [List.length_drop, hl])
set_option maxRecDepth 100000 in
set_option maxHeartbeats 4000000 in
theorem goes_calls {w : World} (bw ow cw' : Nat) (wl : List (BitVec 8)) (bi oi ci' : Nat) (il : List (BitVec 8)) (s : Nat) (rv : Value) (E : List We) (hw : w.rangeAt bw ow (wl.map cb)) (hwl : wl.length = 64) (hwc : 64 ≤ cw' ∧ cw' ≤ maxLen)
    (hi : w.rangeAt bi oi (il.map cb)) (hil : il.length = 64) (hic : 64 ≤ ci' ∧ ci' ≤ maxLen) (hr : RdW w rv E) (hE : (E.length + 1) * 24 ≤ 140737488355328)
    (hg : ∃ m1 ∈ gL wl s E, ∃ m2 ∈ gL wl s E, ∃ q, q ≤ 64 ∧ il = m1.take q ++ m2.drop q) :
    Calls Try.prog 35 #[.slice (some ⟨bw, ow, none⟩) 64 cw', .slice (some ⟨bi, oi, none⟩) 64 ci', ci s, rv] w fun e w' => e = .returned (.bool true) ∧ Ext w w' := by
  obtain ⟨i36, q1, q2, q3, q4⟩ := info_parts Try.info36
  obtain ⟨ea, ec, rfl, hem, hrow⟩ := hr.f
  have HROW := Lib.hid hrow
  have HR := Lib.hid hr
  have hem' : (E.length : Int) ≤ 9223372036854775807 := by omega
  have HW := Lib.hid hw
  have HI := Lib.hid hi
  have HG := Lib.hid hg
  have HWL := Lib.hid hwl
  have HIL := Lib.hid hil
  have HWC := Lib.hid hwc
  have HE := Lib.hid hE
  have hic1 : 64 ≤ ci' := hic.1
  have hic2 : (ci' : Int) ≤ 9223372036854775807 := by have := hic.2; unfold maxLen at this; omega
  clear hw hi hg hr hrow hwl hil hwc hem hic
  go_enter Try.func35, Try.ntmps35
  go_upto_region 2 with (fail)
  have O1 : Hid (Own (w.alloc (.cells #[.slice (some ⟨bw, ow, none⟩) 64 cw'] 36)) w.heap.size 36 idv (.slice (some ⟨w.heap.size, 0, none⟩) 1 1) (gV (.slice (some ⟨bw, ow, none⟩) 64 cw') s (E.take 0))) :=
    Own.of_blk (by rw [V_idv, List.take_zero]; exact Blk.new w _ 36) (Nat.le_refl _) (by rw [List.take_zero]; rfl) (by decide)
  have X1 : Hid (Ext w (w.alloc (.cells #[.slice (some ⟨bw, ow, none⟩) 64 cw'] 36))) := Ext.of_alloc _
  generalize w.alloc (.cells #[.slice (some ⟨bw, ow, none⟩) 64 cw'] 36) = w1 at *
  go_wp2_with fail
  go_loopw [9, 10] (fun mv iv wx => ∃ (k : Nat) (gv : Value), k ≤ E.length ∧ iv = ci k ∧ gv = mv ∧ Hid (Own wx w.heap.size 36 idv gv (gV (.slice (some ⟨bw, ow, none⟩) 64 cw') s (E.take k)) ∧ Ext w wx)) (fun _ iv _ => ((E.length : Int) - intOf iv).toNat)
  case atStart => exact ⟨0, _, Nat.zero_le _, rfl, rfl, O1.out, X1.out⟩
  case round =>
    clear O1 X1
    obtain ⟨k, gv, hk, rfl, rfl, hU⟩ := hrel
    by_cases hlt : k < E.length
    · have hlt' : (k : Int) < E.length := by omega
      obtain ⟨b, o, rfl, hc1, hc2⟩ := HROW.out k hlt
      have hc1 := hU.out.2.cell hc1
      have hc2 := hU.out.2.cell hc2
      obtain ⟨⟨bx, ox, cx, hev, _, _, _⟩, _⟩ := HR.out.e _ (List.getElem_mem hlt)
      have hst := Lib.hid (gV_step (.slice (some ⟨bw, ow, none⟩) 64 cw') s E k hlt)
      by_cases he : E[k].s = s
      · have hst' : Hid (gV (.slice (some ⟨bw, ow, none⟩) 64 cw') s (E.take (k + 1)) = gV (.slice (some ⟨bw, ow, none⟩) 64 cw') s (E.take k) ++ [E[k].v]) := by
          have := hst.out
          rw [if_pos he] at this
          exact this
        rw [he] at hc1
        rw [hev] at hc2 hst'
        clear hev hst he
        have XA : Hid (Own (wr.alloc (.cells #[.slice (some ⟨bx, ox, none⟩) 64 cx] 36)) w.heap.size 36 idv gv (gV (.slice (some ⟨bw, ow, none⟩) 64 cw') s (E.take k))) := hU.out.1.alloc
        have X4 : Hid ((wr.alloc (.cells #[.slice (some ⟨bx, ox, none⟩) 64 cx] 36)).cell? ⟨wr.heap.size, 0, none⟩ = some (.slice (some ⟨bx, ox, none⟩) 64 cx)) := (Blk.new wr #[.slice (some ⟨bx, ox, none⟩) 64 cx] 36).cell 0
        have hle := gV_le (.slice (some ⟨bw, ow, none⟩) 64 cw') s (E.take k)
        have hle2 : (E.take k).length + 1 ≤ E.length := by rw [List.length_take]; omega
        have BG : Hid (((gV (.slice (some ⟨bw, ow, none⟩) 64 cw') s (E.take k)).length + 1) * 24 ≤ 140737488355328) := by have := HE.out; show _ ≤ _; omega
        have MG : Hid ((gV (.slice (some ⟨bw, ow, none⟩) 64 cw') s (E.take k)).length + 1 ≤ 9223372036854775807) := by have := HE.out; show _ ≤ _; omega
        have SG : Hid (w.heap.size ≤ (wr.alloc (.cells #[.slice (some ⟨bx, ox, none⟩) 64 cx] 36)).heap.size) := (hU.out.2.alloc _).size
        clear hle hle2
        go_wp2_with (first
          | (at_builtin; refine wpList_append_one idv rfl (.tmp 29) (.tmp 35) 24 rfl w.heap.size 36 i36 (.slice none 0 0) 24 Try.u24 q1 q2 q3 q4 rfl gv _ rfl XA.out wr.heap.size 1 (.slice (some ⟨bx, ox, none⟩) 64 cx) rfl X4.out rfl BG.out MG.out SG.out ?_
             intro gv' w' p1 p2 p3
             rw [← hst'.out] at p1
             have T := Lib.hid p1
             have TX : Hid (Ext w w') := (hU.out.2.alloc (.cells #[.slice (some ⟨bx, ox, none⟩) 64 cx] 36)).grown p2 (fun y hy => (XA.out.lt y hy).1)
             clear p1 p2 p3 XA X4 BG MG SG hU hst')
          | fail)
        exact ⟨⟨k + 1, gv', hlt, by simp, rfl, T.out, TX.out⟩, by simp only [intOf]; omega⟩
      · have hst' : Hid (gV (.slice (some ⟨bw, ow, none⟩) 64 cw') s (E.take (k + 1)) = gV (.slice (some ⟨bw, ow, none⟩) 64 cw') s (E.take k)) := by
          have := hst.out
          rw [if_neg he] at this
          exact this
        have he' : ¬ (E[k].s : Int) = s := by omega
        have he2 : ((E[k].s : Int) == s) = false := by simpa using he'
        generalize E[k].s = es at *
        clear hev hst he hc2
        go_wp2_with fail
        exact ⟨⟨k + 1, gv, hlt, by simp, rfl, by rw [hst'.out]; exact hU.out.1, hU.out.2⟩, by simp only [intOf]; omega⟩
    · obtain rfl : k = E.length := by omega
      have hO := hU.out.1
      rw [List.take_length] at hO
      obtain ⟨gg, gc, hgv, _, hrow', hgc1, hgc2⟩ := hO.has (by unfold gV; simp)
      obtain ⟨m1, hm1, m2, hm2, q0, hq0, heq⟩ := HG.out
      obtain ⟨i0, hi0, hi0'⟩ := List.mem_iff_getElem.1 hm1
      obtain ⟨k0, hk0, hk0'⟩ := List.mem_iff_getElem.1 hm2
      have hlenV := gV_len (.slice (some ⟨bw, ow, none⟩) 64 cw') wl s E
      have hlenB := gV_le (.slice (some ⟨bw, ow, none⟩) 64 cw') s E
      obtain ⟨L, hL⟩ : ∃ L, (gL wl s E).length = L := ⟨_, rfl⟩
      rw [hlenV, hL] at hgv hgc1
      have hLb : (L : Int) ≤ 9223372036854775807 := by have := HE.out; omega
      have HX := Lib.hid hU.out.2
      have HLen := Lib.hid hL
      -- each of what can have come, as the walk wants it
      have HM : Hid (∀ i, i < L → ∃ b o c m, wr.cell? ⟨gg, i, none⟩ = some (.slice (some ⟨b, o, none⟩) 64 c) ∧ 64 ≤ c ∧ c ≤ maxLen ∧ wr.rangeAt b o (m.map cb) ∧ m.length = 64 ∧ (gL wl s E)[i]? = some m) := fun i hi => by
        have hi1 : i < (gL wl s E).length := by rw [hL]; exact hi
        obtain ⟨b, o, c, h1, h2, h3, h4, h5⟩ := g_rd (s := s) HR.out (wv := .slice (some ⟨bw, ow, none⟩) 64 cw') rfl HWC.out.1 HWC.out.2 HW.out HWL.out i hi1
        have hi2 : i < (gV (.slice (some ⟨bw, ow, none⟩) 64 cw') s E).length := by rw [hlenV]; exact hi1
        refine ⟨b, o, c, (gL wl s E)[i], ?_, h2, h3, range_ext h4 HX.out, h5, List.getElem?_eq_getElem hi1⟩
        rw [hrow'.cell i hi2]
        rw [List.getElem?_eq_getElem hi2] at h1
        exact congrArg some (Option.some.inj h1)
      have HI' : Hid (wr.rangeAt bi oi (il.map cb)) := range_ext HI.out HX.out
      have HQ : Hid (i0 < L ∧ k0 < L ∧ q0 ≤ 64 ∧ (gL wl s E)[i0]? = some m1 ∧ (gL wl s E)[k0]? = some m2 ∧ il = m1.take q0 ++ m2.drop q0) := ⟨by omega, by omega, hq0, by rw [List.getElem?_eq_getElem hi0, hi0'], by rw [List.getElem?_eq_getElem hk0, hk0'], heq⟩
      subst hgv
      clear hO hrow' hm1 hm2 hi0 hi0' hk0 hk0' hlenV hlenB hq0 heq hU HROW HG HI HW HWL HWC HR hL hk hlt HE
      go_wp2_with fail
      go_loopw [11] (fun iv wx => ∃ (i n : Nat), i ≤ i0 ∧ iv = ci i ∧ wx = wr.drewN n) (fun iv _ => (L - (intOf iv).toNat))
      case atStart => exact ⟨0, 0, Nat.zero_le _, rfl, rfl⟩
      case round =>
        obtain ⟨i, n, hi, rfl, rfl⟩ := hrel
        have hiL : i < L := by have := HQ.out.1; omega
        have hiL' : (i : Int) < L := by omega
        go_wp2_with fail
        go_loopw [12] (fun kv wx => ∃ (k n : Nat), k ≤ L ∧ (i = i0 → k ≤ k0) ∧ kv = ci k ∧ wx = wr.drewN n) (fun kv _ => (L - (intOf kv).toNat))
        case atStart => exact ⟨0, n, Nat.zero_le _, fun _ => Nat.zero_le _, rfl, rfl⟩
        case round =>
          obtain ⟨k, n, hk, hk2, rfl, rfl⟩ := hrel
          have HK2 := Lib.hid hk2
          clear hk2
          by_cases hkL : k < L
          · have hkL' : (k : Int) < L := by omega
            go_wp2_with fail
            go_loopw [13] (fun qv wx => ∃ (q n : Nat), q ≤ 65 ∧ qv = ci q ∧ wx = wr.drewN n ∧ Hid (i = i0 → k = k0 → q ≤ q0)) (fun qv _ => (65 - (intOf qv).toNat))
            case atStart => exact ⟨0, n, Nat.zero_le _, rfl, rfl, fun _ _ => Nat.zero_le _⟩
            case round =>
              obtain ⟨q, n, hq, rfl, rfl, HQ3⟩ := hrel
              by_cases hq64 : q ≤ 64
              · have hq64' : (q : Int) ≤ 64 := by omega
                obtain ⟨b1, o1, c1, n1, hc1, hd1, hd2, hr1, hl1, hg1⟩ := HM.out i hiL
                obtain ⟨b2, o2, c2, n2, hc2, hd3, hd4, hr2, hl2, hg2⟩ := HM.out k hkL
                have hA : Hid (∀ m', Calls Try.prog 34 #[.slice (some ⟨bi, oi, none⟩) q ci', .slice (some ⟨b1, o1, none⟩) q c1] (wr.drewN m') fun e w' => e = .returned (.bool (decide (il.take q = n1.take q))) ∧ ∃ n, (wr.drewN m').drewN n = w') := fun m' =>
                  same_calls _ _ _ _ _ (range_rd (range_take HI'.out) (by rw [List.length_take, HIL.out]; omega)).drewN (range_rd (range_take hr1) (by rw [List.length_take, hl1]; omega)).drewN (by rw [List.length_take]; omega) (by rw [List.length_take]; omega)
                have hB : Hid (∀ m', Calls Try.prog 34 #[.slice (some ⟨bi, if ci' = q then oi else oi + q, none⟩) (64 - q) (ci' - q), .slice (some ⟨b2, if c2 = q then o2 else o2 + q, none⟩) (64 - q) (c2 - q)] (wr.drewN m') fun e w' => e = .returned (.bool (decide (il.drop q = n2.drop q))) ∧ ∃ n, (wr.drewN m').drewN n = w') := fun m' =>
                  same_calls _ _ _ _ _ (rd_from HI'.out HIL.out hq64 rfl (fun h => by omega)).drewN (rd_from hr2 hl2 hq64 rfl (fun h => by omega)).drewN (by rw [List.length_drop]; have := HIL.out; omega) (by rw [List.length_drop]; omega)
                have hT : Hid (i = i0 → k = k0 → q = q0 → il.take q = n1.take q ∧ il.drop q = n2.drop q) := fun e1 e2 e3 => by
                  subst e1 e2 e3
                  obtain ⟨_, _, h3, h4, h5, h6⟩ := HQ.out
                  rw [hg1] at h4
                  rw [hg2] at h5
                  have h4 := Option.some.inj h4
                  have h5 := Option.some.inj h5
                  subst h4 h5
                  have hlt : (n1.take q).length = q := by rw [List.length_take]; omega
                  rw [h6]
                  constructor
                  · rw [List.take_append_of_le_length (by omega), List.take_of_length_le (by omega)]
                  · rw [List.drop_append, hlt, Nat.sub_self, List.drop_zero, List.drop_eq_nil_of_le (by omega), List.nil_append]
                obtain ⟨r1, hr1e⟩ : ∃ r, decide (il.take q = n1.take q) = r := ⟨_, rfl⟩
                obtain ⟨r2, hr2e⟩ : ∃ r, decide (il.drop q = n2.drop q) = r := ⟨_, rfl⟩
                rw [hr1e] at hA
                rw [hr2e] at hB
                have HT : Hid (r1 = true → r2 = true → True) := fun _ _ => trivial
                have HN : Hid ((r1 = false ∨ r2 = false) → i = i0 → k = k0 → q + 1 ≤ q0) := fun h e1 e2 => by
                  have h1 := HQ3.out e1 e2
                  by_cases e3 : q = q0
                  · have h2 := hT.out e1 e2 e3
                    rw [← hr1e, ← hr2e, decide_eq_true h2.1, decide_eq_true h2.2] at h
                    simp at h
                  · omega
                have hcm : (c1 : Int) ≤ 9223372036854775807 := by unfold maxLen at hd2; omega
                have hcm2 : (c2 : Int) ≤ 9223372036854775807 := by unfold maxLen at hd4; omega
                clear hr1 hl1 hg1 hr2 hl2 hg2 hr1e hr2e hT HT hd2 hd4
                have hx1 : q ≤ c1 := by omega
                have hx2 : q ≤ c2 := by omega
                have hx3 : q ≤ ci' := by omega
                by_cases hql : q < 64
                · have h1 : ¬ ci' = q := by omega
                  have h2 : ¬ c2 = q := by omega
                  rw [if_neg h1, if_neg h2] at hB
                  cases r1 with
                  | true =>
                    cases r2 with
                    | true =>
                      clear HN
                      go_wp2_with fail
                      go_quiet (first | (go_at_call_of 34 (Value.slice (some ⟨b1, o1, none⟩) q c1); exact quiet_add hA.out _ _) | (go_at_call 34; exact quiet_add hB.out _ _))
                      go_wp2_with fail
                      go_ret
                      exact ⟨rfl, (HX.out.drewN n).drewN _⟩
                    | false =>
                      have HN2 := Lib.hid (HN.out (Or.inr rfl))
                      clear HN
                      go_wp2_with fail
                      go_quiet (first | (go_at_call_of 34 (Value.slice (some ⟨b1, o1, none⟩) q c1); exact quiet_add hA.out _ _) | (go_at_call 34; exact quiet_add hB.out _ _))
                      go_wp2_with fail
                      go_roundw
                      case measure => simp only [intOf]; omega
                      case rel => exact ⟨q + 1, _, by omega, by go_num, rfl, HN2.out⟩
                  | false =>
                    have HN2 := Lib.hid (HN.out (Or.inl rfl))
                    clear HN hB
                    go_wp2_with fail
                    go_quiet ((go_at_call_of 34 (Value.slice (some ⟨b1, o1, none⟩) q c1); exact quiet_add hA.out _ _))
                    go_wp2_with fail
                    go_roundw
                    case measure => simp only [intOf]; omega
                    case rel => exact ⟨q + 1, _, by omega, by go_num, rfl, HN2.out⟩
                · obtain rfl : q = 64 := by omega
                  by_cases h1 : ci' = 64
                  · rw [if_pos h1] at hB
                    subst h1
                    by_cases h2 : c2 = 64
                    · rw [if_pos h2] at hB
                      subst h2
                      cases r1 with
                      | true =>
                        cases r2 with
                        | true =>
                          clear HN
                          go_wp2_with fail
                          go_quiet (first | (go_at_call_of 34 (Value.slice (some ⟨b1, o1, none⟩) 64 c1); exact quiet_add hA.out _ _) | (go_at_call 34; exact quiet_add hB.out _ _))
                          go_wp2_with fail
                          go_ret
                          exact ⟨rfl, (HX.out.drewN n).drewN _⟩
                        | false =>
                          have HN2 := Lib.hid (HN.out (Or.inr rfl))
                          clear HN
                          go_wp2_with fail
                          go_quiet (first | (go_at_call_of 34 (Value.slice (some ⟨b1, o1, none⟩) 64 c1); exact quiet_add hA.out _ _) | (go_at_call 34; exact quiet_add hB.out _ _))
                          go_wp2_with fail
                          go_roundw
                          case measure => simp only [intOf]; omega
                          case rel => exact ⟨65, _, by omega, by go_num, rfl, HN2.out⟩
                      | false =>
                        have HN2 := Lib.hid (HN.out (Or.inl rfl))
                        clear HN hB
                        go_wp2_with fail
                        go_quiet ((go_at_call_of 34 (Value.slice (some ⟨b1, o1, none⟩) 64 c1); exact quiet_add hA.out _ _))
                        go_wp2_with fail
                        go_roundw
                        case measure => simp only [intOf]; omega
                        case rel => exact ⟨65, _, by omega, by go_num, rfl, HN2.out⟩
                    · rw [if_neg h2] at hB
                      cases r1 with
                      | true =>
                        cases r2 with
                        | true =>
                          clear HN
                          go_wp2_with fail
                          go_quiet (first | (go_at_call_of 34 (Value.slice (some ⟨b1, o1, none⟩) 64 c1); exact quiet_add hA.out _ _) | (go_at_call 34; exact quiet_add hB.out _ _))
                          go_wp2_with fail
                          go_ret
                          exact ⟨rfl, (HX.out.drewN n).drewN _⟩
                        | false =>
                          have HN2 := Lib.hid (HN.out (Or.inr rfl))
                          clear HN
                          go_wp2_with fail
                          go_quiet (first | (go_at_call_of 34 (Value.slice (some ⟨b1, o1, none⟩) 64 c1); exact quiet_add hA.out _ _) | (go_at_call 34; exact quiet_add hB.out _ _))
                          go_wp2_with fail
                          go_roundw
                          case measure => simp only [intOf]; omega
                          case rel => exact ⟨65, _, by omega, by go_num, rfl, HN2.out⟩
                      | false =>
                        have HN2 := Lib.hid (HN.out (Or.inl rfl))
                        clear HN hB
                        go_wp2_with fail
                        go_quiet ((go_at_call_of 34 (Value.slice (some ⟨b1, o1, none⟩) 64 c1); exact quiet_add hA.out _ _))
                        go_wp2_with fail
                        go_roundw
                        case measure => simp only [intOf]; omega
                        case rel => exact ⟨65, _, by omega, by go_num, rfl, HN2.out⟩
                  · rw [if_neg h1] at hB
                    by_cases h2 : c2 = 64
                    · rw [if_pos h2] at hB
                      subst h2
                      cases r1 with
                      | true =>
                        cases r2 with
                        | true =>
                          clear HN
                          go_wp2_with fail
                          go_quiet (first | (go_at_call_of 34 (Value.slice (some ⟨b1, o1, none⟩) 64 c1); exact quiet_add hA.out _ _) | (go_at_call 34; exact quiet_add hB.out _ _))
                          go_wp2_with fail
                          go_ret
                          exact ⟨rfl, (HX.out.drewN n).drewN _⟩
                        | false =>
                          have HN2 := Lib.hid (HN.out (Or.inr rfl))
                          clear HN
                          go_wp2_with fail
                          go_quiet (first | (go_at_call_of 34 (Value.slice (some ⟨b1, o1, none⟩) 64 c1); exact quiet_add hA.out _ _) | (go_at_call 34; exact quiet_add hB.out _ _))
                          go_wp2_with fail
                          go_roundw
                          case measure => simp only [intOf]; omega
                          case rel => exact ⟨65, _, by omega, by go_num, rfl, HN2.out⟩
                      | false =>
                        have HN2 := Lib.hid (HN.out (Or.inl rfl))
                        clear HN hB
                        go_wp2_with fail
                        go_quiet ((go_at_call_of 34 (Value.slice (some ⟨b1, o1, none⟩) 64 c1); exact quiet_add hA.out _ _))
                        go_wp2_with fail
                        go_roundw
                        case measure => simp only [intOf]; omega
                        case rel => exact ⟨65, _, by omega, by go_num, rfl, HN2.out⟩
                    · rw [if_neg h2] at hB
                      cases r1 with
                      | true =>
                        cases r2 with
                        | true =>
                          clear HN
                          go_wp2_with fail
                          go_quiet (first | (go_at_call_of 34 (Value.slice (some ⟨b1, o1, none⟩) 64 c1); exact quiet_add hA.out _ _) | (go_at_call 34; exact quiet_add hB.out _ _))
                          go_wp2_with fail
                          go_ret
                          exact ⟨rfl, (HX.out.drewN n).drewN _⟩
                        | false =>
                          have HN2 := Lib.hid (HN.out (Or.inr rfl))
                          clear HN
                          go_wp2_with fail
                          go_quiet (first | (go_at_call_of 34 (Value.slice (some ⟨b1, o1, none⟩) 64 c1); exact quiet_add hA.out _ _) | (go_at_call 34; exact quiet_add hB.out _ _))
                          go_wp2_with fail
                          go_roundw
                          case measure => simp only [intOf]; omega
                          case rel => exact ⟨65, _, by omega, by go_num, rfl, HN2.out⟩
                      | false =>
                        have HN2 := Lib.hid (HN.out (Or.inl rfl))
                        clear HN hB
                        go_wp2_with fail
                        go_quiet ((go_at_call_of 34 (Value.slice (some ⟨b1, o1, none⟩) 64 c1); exact quiet_add hA.out _ _))
                        go_wp2_with fail
                        go_roundw
                        case measure => simp only [intOf]; omega
                        case rel => exact ⟨65, _, by omega, by go_num, rfl, HN2.out⟩
              · obtain rfl : q = 65 := by omega
                rw [show ((65 : Nat) : Int) = 65 from rfl]
                have HK3 : Hid (i = i0 → k + 1 ≤ k0) := fun e => by
                  have h1 := HK2.out e
                  by_cases e2 : k = k0
                  · have := HQ3.out e e2
                    have := HQ.out.2.2.1
                    omega
                  · omega
                clear HQ3 HK2 hq hq64
                go_wp2_with fail
                go_roundw
                case measure => simp only [intOf]; omega
                case rel => exact ⟨k + 1, _, by omega, HK3.out, by go_num, rfl⟩
          · obtain rfl : k = L := by omega
            have hii : i + 1 ≤ i0 := by
              by_cases e : i = i0
              · have := HK2.out e
                have := HQ.out.2.1
                omega
              · omega
            clear HK2 hk hkL
            go_wp2_with fail
            go_roundw
            case measure => simp only [intOf]; omega
            case rel => exact ⟨i + 1, _, hii, by go_num, rfl⟩
end Go.Proofs.Ytjcbmlpfpcpakaa
