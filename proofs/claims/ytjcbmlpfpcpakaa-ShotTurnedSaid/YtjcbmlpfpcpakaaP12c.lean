/- Layer 12 (shot), plain: a disk without a fuse behind a Save. -/
import Derived.Test.YtjcbmlpfpcpakaaH2
import Derived.Test.YtjcbmlpfpcpakaaD8y
namespace Go.Proofs.Ytjcbmlpfpcpakaa
open Go.RowKit
set_option linter.unusedVariables false
theorem sec_applyW {n : Nat} (R : List (Nat × By)) : ∀ (S : By), S.length = 64 * n → (∀ p ∈ R, p.1 < n ∧ p.2.length = 64) → ∀ j, j < n → sec (applyW S R) j = readS j (sec S j) R := by
  induction R with
  | nil => intro S _ _ j _; rfl
  | cons p r ih =>
    intro S hS h j hj
    have hp := h p (by simp)
    have e : applyW S (p :: r) = applyW (putS S p.1 p.2) r := by unfold applyW; rw [List.foldl_cons]
    have e2 : readS j (sec S j) (p :: r) = readS j (if p.1 = j then p.2 else sec S j) r := by unfold readS; rw [List.foldl_cons]
    rw [e, e2, ih _ (putS_len hS hp.1 hp.2) (fun q hq => h q (by simp [hq])) j hj, sec_putS hS hp.1 hj hp.2]
def updA (f : Nat → By) : Act1 → Nat → By
  | .w i l => fun j => if i = j then l else f j
  | .y => f
def applyR (f : Nat → By) (r : List Act1) : Nat → By := r.foldl updA f
theorem applyR_nil (f : Nat → By) : applyR f [] = f := rfl
theorem applyR_cons (f : Nat → By) (x : Act1) (r : List Act1) : applyR f (x :: r) = applyR (updA f x) r := rfl
theorem applyR_append (f : Nat → By) (r s : List Act1) : applyR f (r ++ s) = applyR (applyR f r) s := by unfold applyR; rw [List.foldl_append]
theorem applyR_congr (r : List Act1) : ∀ (f g : Nat → By) (j : Nat), f j = g j → applyR f r j = applyR g r j := by
  induction r with
  | nil => intro f g j h; exact h
  | cons x r ih =>
    intro f g j h
    rw [applyR_cons, applyR_cons]
    refine ih _ _ j ?_
    cases x with
    | w i l => simp only [updA]; split <;> first | rfl | exact h
    | y => exact h
def okA (n : Nat) : Act1 → Prop
  | .w i l => i < n ∧ l.length = 64
  | .y => True
/-- no fuse -/
structure Cl (d : Dk) : Prop where
  ok : d.ok
  nf : d.fused = false
theorem Cl.pow {d : Dk} (h : Cl d) : powP d = 0 := by unfold powP; rw [h.nf]; simp
theorem act1_n (d : Dk) (x : Act1) : (act1 d x).n = d.n := by cases x <;> rfl
theorem Cl.act {d : Dk} (h : Cl d) {x : Act1} (hx : okA d.n x) : Cl (act1 d x) := by
  cases x with
  | w i l => exact ⟨writeD_ok h.ok hx.1 hx.2, h.nf⟩
  | y => exact ⟨syncD_ok h.ok, h.nf⟩
theorem act1_read {d : Dk} (h : d.ok) {x : Act1} (hx : okA d.n x) (j : Nat) (hj : j < d.n) : (act1 d x).read j = updA d.read x j := by
  cases x with
  | w i l =>
    show readS j (sec d.S j) (d.R ++ [(i, l)]) = if i = j then l else readS j (sec d.S j) d.R
    unfold readS
    rw [List.foldl_append]
    rfl
  | y =>
    show readS j (sec (applyW d.S d.R) j) [] = readS j (sec d.S j) d.R
    rw [sec_applyW d.R d.S h.s h.r j hj]
    rfl
theorem runA_clean (r : List Act1) : ∀ d, Cl d → (∀ x ∈ r, okA d.n x) → (runA d r).2 = true ∧ Cl (runA d r).1 ∧ (runA d r).1.n = d.n ∧ ∀ j, j < d.n → (runA d r).1.read j = applyR d.read r j := by
  induction r with
  | nil => intro d h _; rw [runA_nil]; exact ⟨rfl, h, rfl, fun j _ => rfl⟩
  | cons x r ih =>
    intro d h hr
    have hx := hr x (by simp)
    rw [runA_cons, if_pos h.pow]
    have hn := act1_n d x
    obtain ⟨a, b, c, e⟩ := ih (act1 d x) (h.act hx) (fun z hz => by rw [hn]; exact hr z (by simp [hz]))
    refine ⟨a, b, c.trans hn, fun j hj => ?_⟩
    rw [e j (by rw [hn]; exact hj), applyR_cons]
    exact applyR_congr r _ _ j (act1_read h.ok hx j hj)
theorem body_apply (f : Nat → By) (at' : Nat) (data : By) (j : Nat) : ∀ k, applyR f ((List.range k).map fun i => Act1.w (at' + 1 + i) (pieceB data i)) j = if at' < j ∧ j ≤ at' + k then pieceB data (j - at' - 1) else f j := by
  intro k
  induction k with
  | zero => rw [if_neg (by omega)]; rfl
  | succ k ih =>
    rw [List.range_succ, List.map_append, applyR_append]
    show (if at' + 1 + k = j then pieceB data k else applyR f ((List.range k).map fun i => Act1.w (at' + 1 + i) (pieceB data i)) j) = _
    by_cases hk : at' + 1 + k = j
    · rw [if_pos hk, if_pos (by omega)]; congr 1; omega
    · rw [if_neg hk, ih]
      by_cases h : at' < j ∧ j ≤ at' + k
      · rw [if_pos h, if_pos (by omega)]
      · rw [if_neg h, if_neg (by omega)]
theorem secsN_le {n size : Nat} (h : n ≤ 64 * (size - 1)) : secsN n ≤ size - 1 := by unfold secsN; omega
/-- the reads behind a Save -/
structure Saved (d d' : Dk) (at' gen : Nat) (data : By) : Prop where
  cl : Cl d'
  n : d'.n = d.n
  r : d'.R = []
  hd : d'.read at' = headB (BitVec.ofNat 64 gen) data
  bd : ∀ i, i < secsN data.length → d'.read (at' + 1 + i) = pieceB data i
  el : ∀ j, j < d.n → j < at' ∨ at' + secsN data.length < j → d'.read j = d.read j
theorem save_clean {d : Dk} (h : Cl d) {at' size gen : Nat} {data : By} (h2 : 1 ≤ size) (hn : at' + size ≤ d.n) (hl : data.length ≤ 64 * (size - 1)) : ∃ d', saveP d at' gen data = (d', true) ∧ Saved d d' at' gen data := by
  have hs := secsN_le hl
  obtain ⟨A, hA⟩ : ∃ A, (if d.read at' = zer 64 then [] else [Act1.w at' (zer 64), .y]) = A := ⟨_, rfl⟩
  have hsa : saveA d at' gen data = (A ++ bodyA at' data ++ [.y, .w at' (headB (BitVec.ofNat 64 gen) data)]) ++ [.y] := by rw [saveA_eq, hA]; simp
  have ok1 : ∀ x ∈ A, okA d.n x := by
    intro x hx
    rw [← hA] at hx
    split at hx
    · simp at hx
    · simp at hx; rcases hx with rfl | rfl
      · exact ⟨by omega, zer_len _⟩
      · trivial
  have ok2 : ∀ x ∈ bodyA at' data, okA d.n x := by
    intro x hx
    unfold bodyA at hx
    obtain ⟨i, hi, rfl⟩ := List.mem_map.1 hx
    have := List.mem_range.1 hi
    exact ⟨by omega, pieceB_len _ _⟩
  have ok3 : ∀ x ∈ (A ++ bodyA at' data ++ [.y, .w at' (headB (BitVec.ofNat 64 gen) data)]), okA d.n x := by
    intro x hx
    rcases List.mem_append.1 hx with hx | hx
    · rcases List.mem_append.1 hx with hx | hx
      · exact ok1 x hx
      · exact ok2 x hx
    · simp at hx; rcases hx with rfl | rfl
      · trivial
      · exact ⟨by omega, headB_len _ _⟩
  obtain ⟨a, b, c, e⟩ := runA_clean _ d h ok3
  have hx : ∀ x ∈ [Act1.y], okA (runA d (A ++ bodyA at' data ++ [.y, .w at' (headB (BitVec.ofNat 64 gen) data)])).1.n x := by intro x hx; simp at hx; subst hx; trivial
  obtain ⟨a2, b2, c2, e2⟩ := runA_clean [Act1.y] _ b hx
  have hrun : saveP d at' gen data = (runA (runA d (A ++ bodyA at' data ++ [.y, .w at' (headB (BitVec.ofNat 64 gen) data)])).1 [Act1.y]) := by rw [saveP_eq, if_pos h.pow, hsa, runA_append, if_pos a]
  obtain ⟨d1, hd1⟩ : ∃ d1, (runA d (A ++ bodyA at' data ++ [.y, .w at' (headB (BitVec.ofNat 64 gen) data)])).1 = d1 := ⟨_, rfl⟩
  rw [hd1] at b c e a2 b2 c2 e2 hrun
  have hy : runA d1 [Act1.y] = (syncD d1, true) := by rw [runA_cons, if_pos b.pow, runA_nil]; rfl
  rw [hy] at hrun b2 c2 e2
  have key : ∀ j, j < d.n → (syncD d1).read j = if at' = j then headB (BitVec.ofNat 64 gen) data else if at' < j ∧ j ≤ at' + secsN data.length then pieceB data (j - at' - 1) else d.read j := by
    intro j hj
    rw [e2 j (by rw [c]; exact hj)]
    show d1.read j = _
    rw [e j hj, applyR_append]
    show (if at' = j then headB (BitVec.ofNat 64 gen) data else applyR d.read (A ++ bodyA at' data) j) = _
    by_cases hj0 : at' = j
    · rw [if_pos hj0, if_pos hj0]
    · rw [if_neg hj0, if_neg hj0, applyR_append]
      unfold bodyA
      rw [body_apply]
      by_cases hb : at' < j ∧ j ≤ at' + secsN data.length
      · rw [if_pos hb, if_pos hb]
      · rw [if_neg hb, if_neg hb, ← hA]
        split
        · rfl
        · show (if at' = j then zer 64 else d.read j) = _
          rw [if_neg hj0]
  refine ⟨syncD d1, hrun, b2, c2.trans c, rfl, ?_, ?_, ?_⟩
  · rw [key at' (by omega), if_pos rfl]
  · intro i hi
    rw [key _ (by omega), if_neg (by omega), if_pos (by omega)]
    congr 1
    omega
  · intro j hj hh
    rw [key j hj, if_neg (by omega), if_neg (by omega)]
/-- the pieces together -/
theorem pieces_take (data : By) : ∀ k, 64 * k ≤ data.length → (List.range k).flatMap (pieceB data) = data.take (64 * k) := by
  intro k
  induction k with
  | zero => intro _; rfl
  | succ k ih =>
    intro h
    rw [List.range_succ, List.flatMap_append, ih (by omega), List.flatMap_cons, List.flatMap_nil, List.append_nil]
    unfold pieceB
    have hl : ((data.drop (64 * k)).take 64).length = 64 := by rw [List.length_take, List.length_drop]; omega
    rw [hl, show zer (64 - 64) = [] from by unfold zer; rfl, List.append_nil, show 64 * (k + 1) = 64 * k + 64 from by omega, List.take_add]
theorem pieces_all (data : By) : (List.range (secsN data.length)).flatMap (pieceB data) = data ++ zer (64 * secsN data.length - data.length) := by
  by_cases h : 64 * secsN data.length ≤ data.length
  · have e : 64 * secsN data.length = data.length := by unfold secsN at *; omega
    rw [pieces_take data _ h, e, List.take_length, Nat.sub_self, show zer 0 = [] from by unfold zer; rfl, List.append_nil]
  · obtain ⟨k, hk⟩ : ∃ k, secsN data.length = k + 1 := ⟨secsN data.length - 1, by unfold secsN at *; omega⟩
    have hk1 : 64 * k ≤ data.length := by unfold secsN at hk; omega
    rw [hk, List.range_succ, List.flatMap_append, pieces_take data k hk1, List.flatMap_cons, List.flatMap_nil, List.append_nil]
    unfold pieceB
    have hl : (data.drop (64 * k)).length = data.length - 64 * k := List.length_drop
    have ht : (data.drop (64 * k)).take 64 = data.drop (64 * k) := List.take_of_length_le (by rw [hl]; rw [hk] at h; omega)
    rw [ht, ← List.append_assoc, List.take_append_drop, hl]
    congr 2
    omega
theorem notZero_zer (m : Nat) : notZero (zer m) = false := by unfold notZero zer; simp
theorem numP_head (g : BitVec 64) (data : By) : numP (headB g data) = g := by
  unfold numP headB headA
  simp only [List.append_assoc]
  rw [List.drop_left' (show magic.length = 4 from rfl), List.take_left' (putB_len _ _)]
  exact gotB_putB _ _ (by omega) (by have := g.isLt; omega)
theorem longP_head (g : BitVec 64) (data : By) (h : data.length < 4294967296) : (longP (headB g data)).toNat = data.length := by
  have e : longP (headB g data) = BitVec.ofNat 64 data.length := by
    unfold longP headB headA
    rw [List.append_assoc, List.append_assoc, List.append_assoc, List.append_assoc, ← List.append_assoc magic, List.drop_left' (show (magic ++ putB g 8).length = 12 from by rw [List.length_append, putB_len]; rfl), List.take_left' (putB_len _ _)]
    exact gotB_putB _ _ (by omega) (by rw [BitVec.toNat_ofNat]; omega)
  rw [e, BitVec.toNat_ofNat]
  omega
theorem standP_new {body : Nat → By} {odd size gen : Nat} {data : By} (h1 : 1 ≤ gen) (h2 : gen ≤ 1099511627776) (ho : gen % 2 = odd) (hl : data.length ≤ 64 * (size - 1)) (hs : size ≤ 65536) (hb : ∀ i, i < secsN data.length → body i = pieceB data i) :
    standP (headB (BitVec.ofNat 64 gen) data) body odd size = some (gen, data) := by
  have hg : (BitVec.ofNat 64 gen).toNat = gen := by rw [BitVec.toNat_ofNat]; omega
  have hfm : (List.range (secsN data.length)).flatMap body = data ++ zer (64 * secsN data.length - data.length) := by
    rw [← pieces_all]
    have e : ∀ k, k ≤ secsN data.length → (List.range k).flatMap body = (List.range k).flatMap (pieceB data) := by
      intro k
      induction k with
      | zero => intro _; rfl
      | succ k ih => intro hk; rw [List.range_succ, List.flatMap_append, List.flatMap_append, ih (by omega)]; simp [hb k (by omega)]
    exact e _ (Nat.le_refl _)
  unfold standP
  rw [numP_head, longP_head _ _ (by omega), hg, hfm, List.take_left, List.drop_left, notZero_zer, if_neg (by omega), if_neg (by simp)]
theorem standP_congr {first : By} {body body' : Nat → By} {odd size : Nat} (hb : ∀ i, i < size - 1 → body i = body' i) : standP first body odd size = standP first body' odd size := by
  unfold standP
  by_cases h : (numP first).toNat < 1 ∨ 1099511627776 < (numP first).toNat ∨ (numP first).toNat % 2 ≠ odd ∨ 64 * (size - 1) < (longP first).toNat
  · rw [if_pos h, if_pos h]
  · rw [if_neg h, if_neg h]
    have e : ∀ k, k ≤ size - 1 → (List.range k).flatMap body = (List.range k).flatMap body' := by
      intro k
      induction k with
      | zero => intro _; rfl
      | succ k ih => intro hk; rw [List.range_succ, List.flatMap_append, List.flatMap_append, ih (by omega)]; simp [hb k (by omega)]
    rw [e _ (secsN_le (by omega))]
theorem numP_zer : (numP (zer 64)).toNat = 0 := by unfold zer; decide +kernel
theorem standP_zero (body : Nat → By) (odd size : Nat) : standP (zer 64) body odd size = none := by
  unfold standP
  rw [numP_zer, if_pos (by omega)]
/-- the snapshots of a pair of slots: the newest, and the one before it -/
structure Sn (d : Dk) (fr size gen : Nat) (last prev : By) : Prop where
  new : standD d fr size (gen % 2) = if gen = 0 then none else some (gen, last)
  old : standD d fr size ((gen + 1) % 2) = if gen ≤ 1 then none else some (gen - 1, prev)
  nil : gen = 0 → last = []
theorem Sn.open {d : Dk} {fr size gen : Nat} {last prev : By} (h : Sn d fr size gen last prev) : openP d fr size = (gen, last) := by
  unfold openP
  have h1 := h.new
  have h2 := h.old
  by_cases h0 : gen = 0
  · subst h0
    have h3 := h.nil rfl
    subst h3
    rw [if_pos rfl] at h1
    rw [if_pos (by omega)] at h2
    rw [show standD d fr size 0 = none from h1, show standD d fr size 1 = none from h2, pick_none, pick_none]
  · rw [if_neg h0] at h1
    rcases Nat.mod_two_eq_zero_or_one gen with e | e
    · rw [e] at h1
      rw [show (gen + 1) % 2 = 1 from by omega, if_neg (by omega)] at h2
      rw [h1, h2, pick_yes (c := (0, [])) (x := (gen, last)) (show 0 < gen by omega), pick_no (c := (gen, last)) (x := (gen - 1, prev)) (show ¬ gen < gen - 1 by omega)]
    · rw [e] at h1
      rw [show (gen + 1) % 2 = 0 from by omega] at h2
      by_cases hg : gen ≤ 1
      · rw [if_pos hg] at h2
        rw [h1, h2, pick_none, pick_yes (c := (0, [])) (x := (gen, last)) (show 0 < gen by omega)]
      · rw [if_neg hg] at h2
        rw [h1, h2, pick_yes (c := (0, [])) (x := (gen - 1, prev)) (show 0 < gen - 1 by omega), pick_yes (c := (gen - 1, prev)) (x := (gen, last)) (show gen - 1 < gen by omega)]
theorem slotN_odd (fr size gen : Nat) : slotN fr size gen = slotN fr size (gen % 2) := by unfold slotN; simp
theorem standD_congr {d d' : Dk} {fr size odd : Nat} (hsz : 1 ≤ size) (h : ∀ j, slotN fr size odd ≤ j → j < slotN fr size odd + size → d'.read j = d.read j) : standD d' fr size odd = standD d fr size odd := by
  rw [standD_eq, standD_eq, h _ (Nat.le_refl _) (by omega)]
  exact standP_congr fun i hi => h _ (by omega) (by omega)
theorem Sn.congr {d d' : Dk} {fr size gen : Nat} {last prev : By} (h : Sn d fr size gen last prev) (hsz : 1 ≤ size) (hj : ∀ j, fr ≤ j → j < fr + 2 * size → d'.read j = d.read j) : Sn d' fr size gen last prev := by
  have e : ∀ odd, standD d' fr size odd = standD d fr size odd := fun odd => standD_congr hsz fun j h1 h2 => hj j (by unfold slotN at h1; split at h1 <;> omega) (by unfold slotN at h2; split at h2 <;> omega)
  exact ⟨by rw [e, h.new], by rw [e, h.old], h.nil⟩
theorem Sn.save {d d' : Dk} {fr size gen : Nat} {last prev data : By} (h : Sn d fr size gen last prev) (h2 : 2 ≤ size) (hs : size ≤ 65536) (hg : gen < 1099511627776) (hn : fr + 2 * size ≤ d.n) (hl : data.length ≤ 64 * (size - 1)) (k : Saved d d' (slotN fr size (gen + 1)) (gen + 1) data) :
    Sn d' fr size (gen + 1) data last := by
  have hsl := secsN_le hl
  refine ⟨?_, ?_, by omega⟩
  · rw [if_neg (by omega), standD_eq, ← slotN_odd, k.hd]
    exact standP_new (by omega) (by omega) rfl hl hs k.bd
  · have hO := h.new
    rw [show (gen + 1 + 1) % 2 = gen % 2 from by omega]
    rw [standD_congr (d := d) (by omega), hO]
    · by_cases h0 : gen = 0
      · rw [if_pos h0, if_pos (by omega)]
      · rw [if_neg h0, if_neg (by omega)]; rfl
    · intro j h1 h3
      have hm := Nat.mod_two_eq_zero_or_one gen
      refine k.el j ?_ ?_
      · unfold slotN at h3; split at h3 <;> omega
      · unfold slotN at h1 h3 ⊢
        rcases hm with e | e
        · rw [if_neg (by omega)] at h1 h3
          rw [if_pos (by omega)]
          omega
        · rw [if_pos (by omega)] at h1 h3
          rw [if_neg (by omega)]
          omega
theorem Sn.zero {d : Dk} {fr size : Nat} (h : d.read fr = zer 64) (k : d.read (fr + size) = zer 64) (prev : By) : Sn d fr size 0 [] prev := by
  have e : standD d fr size 0 = none := by rw [standD_eq, show slotN fr size 0 = fr + size from rfl, k]; exact standP_zero _ _ _
  have e1 : standD d fr size 1 = none := by rw [standD_eq, show slotN fr size 1 = fr from rfl, h]; exact standP_zero _ _ _
  exact ⟨by rw [show 0 % 2 = 0 from rfl, e, if_pos rfl], by rw [show (0 + 1) % 2 = 1 from rfl, e1, if_pos (by omega)], fun _ => rfl⟩
end Go.Proofs.Ytjcbmlpfpcpakaa
