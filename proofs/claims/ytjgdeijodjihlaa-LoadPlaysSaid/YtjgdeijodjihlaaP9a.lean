/- Layer 9 (load): all hits kept, and reckoned from the beginning: the same loads and windows. No program in sight. -/
import Derived.Test.YtjgdeijodjihlaaD9y
import Derived.Test.YtjgdeijodjihlaaD9u
import Derived.Test.YtjgdeijodjihlaaFlq
import Derived.Test.YtjgdeijodjihlaaD9h
namespace Go.Proofs.Ytjgdeijodjihlaa
set_option linter.unusedVariables false

/-- a hit: its shard, its age, its weight -/
abbrev Ht := Int × Nat × Nat
def stp (i : Int) (p : Nat × Nat) (h : Ht) : Nat × Nat := if h.1 = i then (fadd (halves (h.2.1 - p.2) p.1) h.2.2, h.2.1) else p
def vOf (i : Int) (p : Nat × Nat) (A : List Ht) : Nat × Nat := A.foldl (stp i) p
def ofA (A : List Ht) (i : Int) (c : Nat) : Nat := halves (c - (vOf i (0, 0) A).2) (vOf i (0, 0) A).1
def wstp (c : Int) (v : Nat) (h : Ht) : Nat := if (h.2.1 : Int) = c then fadd v h.2.2 else v
def winF (c : Int) (v : Nat) (A : List Ht) : Nat := A.foldl (wstp c) v
theorem vOf_nil (i : Int) (p : Nat × Nat) : vOf i p [] = p := rfl
theorem vOf_cons (i : Int) (p : Nat × Nat) (h : Ht) (r : List Ht) : vOf i p (h :: r) = vOf i (stp i p h) r := rfl
theorem vOf_snoc (i : Int) (p : Nat × Nat) (A : List Ht) (h : Ht) : vOf i p (A ++ [h]) = stp i (vOf i p A) h := by unfold vOf; rw [List.foldl_append]; rfl
theorem winF_nil (c : Int) (v : Nat) : winF c v [] = v := rfl
theorem winF_cons (c : Int) (v : Nat) (h : Ht) (r : List Ht) : winF c v (h :: r) = winF c (wstp c v h) r := rfl
theorem winF_snoc (c : Int) (v : Nat) (A : List Ht) (h : Ht) : winF c v (A ++ [h]) = wstp c (winF c v A) h := by unfold winF; rw [List.foldl_append]; rfl
/-- right hits, none older than c -/
structure Wt (A : List Ht) (c : Nat) : Prop where
  w : ∀ h ∈ A, wtB h.2.2 = true ∧ h.2.2 < 18446744073709551616
  a : ∀ h ∈ A, h.2.1 ≤ c
theorem Wt.mono {A : List Ht} {c d : Nat} (h : Wt A c) (hd : c ≤ d) : Wt A d := ⟨h.w, fun x hx => Nat.le_trans (h.a x hx) hd⟩
theorem Wt.snoc {A : List Ht} {c : Nat} {s : Int} {x : Nat} (h : Wt A c) (h1 : wtB x = true) (h2 : x < 18446744073709551616) : Wt (A ++ [(s, c, x)]) c :=
  ⟨fun y hy => by
    rcases List.mem_append.1 hy with k | k
    · exact h.w y k
    · obtain rfl := List.mem_singleton.1 k; exact ⟨h1, h2⟩,
   fun y hy => by
    rcases List.mem_append.1 hy with k | k
    · exact h.a y k
    · obtain rfl := List.mem_singleton.1 k; exact Nat.le_refl _⟩
theorem Wt.tail {A : List Ht} {c : Nat} {h : Ht} (k : Wt (h :: A) c) : Wt A c := ⟨fun y hy => k.w y (List.mem_cons_of_mem _ hy), fun y hy => k.a y (List.mem_cons_of_mem _ hy)⟩
theorem wt_nn {x : Nat} (h : wtB x = true) (hx : x < 18446744073709551616) : nn x := by
  unfold wtB at h
  rw [Bool.and_eq_true] at h
  exact gb_nn hx h.1
theorem vOf_age (i : Int) {c : Nat} : ∀ (A : List Ht) (p : Nat × Nat), Wt A c → p.2 ≤ c → (vOf i p A).2 ≤ c
  | [], p, _, h => h
  | h :: r, p, hw, hp => by
    rw [vOf_cons]
    refine vOf_age i r _ hw.tail ?_
    unfold stp
    split
    · exact hw.a h (List.mem_cons_self ..)
    · exact hp
/-- no sum on the way is too great -/
theorem stp_ok (i : Int) {c K : Nat} {p : Nat × Nat} {h : Ht} (hw : wtB h.2.2 = true ∧ h.2.2 < 18446744073709551616) (h1 : good p.1) (h2 : vle K p.1) (h0 : 0 < K) (h53 : K + 1 < 9007199254740992) : good (stp i p h).1 ∧ vle (K + 1) (stp i p h).1 := by
  unfold stp
  split
  · refine ⟨(fadd_eq (halves_good h1 _) (wt_nn hw.1 hw.2)).2, vle_add (vle_halves h2 h0 (by omega) _) (wt_small hw.2 hw.1) (by omega) h53⟩
  · exact ⟨h1, vle_mono h2 (by omega)⟩
theorem vOf_ok (i : Int) {c : Nat} : ∀ (A : List Ht) (K : Nat) (p : Nat × Nat), Wt A c → good p.1 → vle K p.1 → 0 < K → K + A.length < 9007199254740992 → good (vOf i p A).1 ∧ vle (K + A.length) (vOf i p A).1
  | [], K, p, _, h1, h2, _, _ => ⟨h1, h2⟩
  | h :: r, K, p, hw, h1, h2, h0, h53 => by
    rw [List.length_cons] at h53 ⊢
    rw [vOf_cons]
    obtain ⟨a, b⟩ := stp_ok i (c := c) (hw.w h (List.mem_cons_self ..)) h1 h2 h0 (by omega)
    have := vOf_ok i r (K + 1) _ hw.tail a b (by omega) (by omega)
    rwa [show K + 1 + r.length = K + (r.length + 1) by omega] at this
theorem wstp_ok (a : Int) {K v : Nat} {h : Ht} (hw : wtB h.2.2 = true ∧ h.2.2 < 18446744073709551616) (h1 : good v) (h2 : vle K v) (h0 : 0 < K) (h53 : K + 1 < 9007199254740992) : good (wstp a v h) ∧ vle (K + 1) (wstp a v h) := by
  unfold wstp
  split
  · exact ⟨(fadd_eq h1 (wt_nn hw.1 hw.2)).2, vle_add h2 (wt_small hw.2 hw.1) (by omega) h53⟩
  · exact ⟨h1, vle_mono h2 (by omega)⟩
theorem winF_none (a : Int) {c : Nat} (ha : (c : Int) < a) : ∀ (A : List Ht) (v : Nat), Wt A c → winF a v A = v
  | [], v, _ => rfl
  | h :: r, v, hw => by
    rw [winF_cons]
    have e : wstp a v h = v := by
      unfold wstp
      rw [if_neg]
      have := hw.a h (List.mem_cons_self ..)
      omega
    rw [e]
    exact winF_none a ha r v hw.tail
/-- the meter that halves as it goes, and all hits kept -/
structure Rl (m : Mt) (A : List Ht) : Prop where
  l : ∀ i, i < m.L.length → m.L.getD i 0 = ofA A i (m.now / m.half)
  w : ∀ t, t < 8 → m.win.getD t 0 = winF ((m.now / m.half : Nat) - 7 + t) 0 A
  a : Wt A (m.now / m.half)
theorem Rl.new (n h : Nat) : Rl (newM n h) [] := by
  refine ⟨fun i hi => ?_, fun t ht => ?_, ⟨fun y hy => (by cases hy), fun y hy => (by cases hy)⟩⟩
  · unfold ofA
    rw [vOf_nil, halves_nil]
    unfold newM
    simp [List.getD_eq_getElem?_getD, List.getElem?_replicate]
    split <;> rfl
  · rw [winF_nil]
    show (List.replicate 8 0).getD t 0 = 0
    rw [List.getD_eq_getElem?_getD, List.getElem?_replicate]
    split <;> rfl
theorem Rl.on {m : Mt} {A : List Ht} {K t : Nat} (h : Rl m A) (hok : m.ok) (hb : Bnd K m) (hK : K ≤ 8796093022208) (ht : m.now ≤ t) : Rl (onM m t) A := by
  have hc : t / m.half = m.now / m.half + ages m t := by
    unfold ages
    have := Nat.div_le_div_right (c := m.half) ht
    omega
  refine ⟨fun i hi => ?_, fun q hq => ?_, ?_⟩
  · have hi' : i < m.L.length := by unfold onM at hi; simpa using hi
    have hli := h.l i hi'
    rw [List.getD_eq_getElem?_getD, List.getElem?_eq_getElem hi'] at hli
    show (m.L.map (halves (min (ages m t) 2200))).getD i 0 = ofA A i (t / m.half)
    rw [List.getD_eq_getElem?_getD, List.getElem?_map, List.getElem?_eq_getElem hi']
    show halves (min (ages m t) 2200) m.L[i] = _
    rw [halves_min (hb.l _ (List.getElem_mem hi')) hK]
    have hli : m.L[i] = ofA A i (m.now / m.half) := hli
    rw [hli]
    unfold ofA
    have ha := vOf_age i A (0, 0) h.a (Nat.zero_le _)
    rw [← halves_add, hc]
    congr 1
    omega
  · show (shiftW (min (ages m t) 8) m.win).getD q 0 = winF ((t / m.half : Nat) - 7 + q) 0 A
    have h8 := hok.w8
    unfold shiftW
    rw [List.getD_eq_getElem?_getD]
    by_cases hlt : q + min (ages m t) 8 < 8
    · have hk : min (ages m t) 8 = ages m t := by omega
      rw [hk] at hlt ⊢
      rw [List.getElem?_append_left (by rw [List.length_drop]; omega), List.getElem?_drop]
      have := h.w (q + ages m t) hlt
      rw [List.getD_eq_getElem?_getD, Nat.add_comm q] at this
      rw [this, hc]
      congr 1
      omega
    · rw [List.getElem?_append_right (by rw [List.length_drop]; omega), List.length_drop, h8, List.getElem?_replicate]
      rw [winF_none _ (by rw [hc]; omega) A 0 h.a]
      split <;> rfl
  · show Wt A (t / m.half)
    rw [hc]
    exact h.a.mono (by omega)
theorem Rl.add {m : Mt} {A : List Ht} {s x : Nat} (h : Rl m A) (hok : m.ok) (hs : s < m.L.length) (h1 : wtB x = true) (h2 : x < 18446744073709551616) : Rl (addM m s x) (A ++ [((s : Int), m.now / m.half, x)]) := by
  refine ⟨fun i hi => ?_, fun q hq => ?_, h.a.snoc h1 h2⟩
  · have hi' : i < m.L.length := by unfold addM at hi; simpa using hi
    show (m.L.set s (fadd (m.L.getD s 0) x)).getD i 0 = ofA (A ++ [((s : Int), m.now / m.half, x)]) i (m.now / m.half)
    rw [getD_set']
    unfold ofA
    rw [vOf_snoc]
    unfold stp
    by_cases e : s = i
    · subst e
      rw [if_pos ⟨rfl, hi'⟩, if_pos rfl]
      rw [Nat.sub_self]
      show fadd (m.L.getD s 0) x = fadd (halves _ _) x
      rw [h.l s hi']
      rfl
    · rw [if_neg (fun c => e c.1), if_neg (fun c => e (by have c : (s : Int) = (i : Int) := c; omega))]
      exact h.l i hi'
  · show (m.win.set 7 (fadd (m.win.getD 7 0) x)).getD q 0 = winF ((m.now / m.half : Nat) - 7 + q) 0 (A ++ [((s : Int), m.now / m.half, x)])
    have h8 := hok.w8
    rw [getD_set', winF_snoc]
    unfold wstp
    by_cases e : 7 = q
    · subst e
      rw [if_pos ⟨rfl, by omega⟩, if_pos (by show ((m.now / m.half : Nat) : Int) = _; omega), h.w 7 (by omega)]
    · rw [if_neg (fun c => e c.1), if_neg (by show ¬ ((m.now / m.half : Nat) : Int) = _; omega), h.w q hq]
/-- a quotient by two, of what a load can be -/
theorem read_lt {x m : Nat} {s : Bool} {p : Int} (hr : D64.read x = .number s m p) : m < 9007199254740992 := by
  unfold Ieee.Format.read at hr
  rw [d_sw, d_bin, d_inf] at hr
  simp only at hr
  split at hr
  · injection hr with _ h1 _; omega
  · split at hr
    · injection hr with _ h1 _; omega
    · split at hr <;> cases hr
theorem half_quo {x : Nat} (hx : x < 9218868437227405312) (hg : good x) : floatBits .quo .f64 x 4611686018427387904 = some (fhalf x) := by
  obtain ⟨n, q, hr, _⟩ := read_word hx
  rw [quo_two hr (read_lt hr)]
  exact (fhalf_eq hg).1
end Go.Proofs.Ytjgdeijodjihlaa
