/- Layer 12 (shot), plain: a byte turned in what a Save laid. -/
import Derived.Test.YtjcbmlpfpcpakaaP12c
import Derived.Test.YtjcbmlpfpcpakaaP12b
namespace Go.Proofs.Ytjcbmlpfpcpakaa
open Go.RowKit
set_option linter.unusedVariables false
theorem w8_inj {x y : BitVec 8} (h : x.setWidth 32 = y.setWidth 32) : x = y := by
  have := congrArg (BitVec.setWidth 8) h
  simpa using this
theorem xor_left_inj {a b c : BitVec 32} (h : a ^^^ b = a ^^^ c) : b = c := by
  have := congrArg (a ^^^ ·) h
  simpa [← BitVec.xor_assoc] using this
theorem tkn_set : ∀ (l : By) (c : BitVec 32) (q : Nat) (y : BitVec 8), q < l.length → tkn c (l.set q y) = tkn c l → l[q]? = some y
  | [], _, _, _, h, _ => by simp at h
  | b :: l, c, 0, y, _, h => by
    rw [List.set_cons_zero, tkn_cons, tkn_cons] at h
    have h1 := tkn_inj l h
    rw [tk1_eq, tk1_eq] at h1
    rw [w8_inj (xor_left_inj (stpN_inj 8 h1))]
    rfl
  | b :: l, c, q + 1, y, hq, h => by
    rw [List.set_cons_succ, tkn_cons, tkn_cons] at h
    rw [List.getElem?_cons_succ]
    exact tkn_set l _ q y (by simpa using hq) h
theorem crcB_set {l : By} {q : Nat} {y : BitVec 8} (hq : q < l.length) (h : crcB (l.set q y) = crcB l) : l[q]? = some y := by
  unfold crcB at h
  exact tkn_set l _ q y hq (by have := congrArg (~~~ ·) h; simpa using this)
def tailB (A : By) : By := putB (((crcB A).setWidth 64) <<< 8 ||| 165#64) 5
theorem tailB_len (A : By) : (tailB A).length = 5 := putB_len _ _
theorem headB_tail (g : BitVec 64) (data : By) : headB g data = headA g data ++ tailB (headA g data) := by unfold headB tailB; rfl
theorem tv_back (u : BitVec 32) : ((u.setWidth 64 <<< 8 ||| 165#64) >>> 8).setWidth 32 = u := by
  apply BitVec.eq_of_getLsbD_eq
  intro i hi
  have h1 : (165#64).getLsbD (8 + i) = false := by
    rw [BitVec.getLsbD_ofNat, Nat.testBit_lt_two_pow (Nat.lt_of_lt_of_le (show 165 < 2 ^ 8 by decide) (Nat.pow_le_pow_right (by decide) (by omega)))]
    simp
  rw [BitVec.getLsbD_setWidth, BitVec.getLsbD_ushiftRight, BitVec.getLsbD_or, h1, BitVec.getLsbD_shiftLeft, BitVec.getLsbD_setWidth]
  simp [hi, show 8 + i - 8 = i by omega, show 8 + i < 64 by omega, show i < 64 by omega]
theorem tv_lt (u : BitVec 32) : (u.setWidth 64 <<< 8 ||| 165#64).toNat < 256 ^ 5 := by
  rw [BitVec.toNat_or, show (256 : Nat) ^ 5 = 2 ^ 40 by decide]
  refine Nat.or_lt_two_pow ?_ (by decide)
  rw [BitVec.toNat_shiftLeft, BitVec.toNat_setWidth, Nat.shiftLeft_eq]
  have := u.isLt
  omega
theorem tailB_inj {A A' : By} (h : tailB A = tailB A') : crcB A = crcB A' := by
  unfold tailB at h
  have h1 := putB_inj (by decide) (tv_lt _) (tv_lt _) h
  have h2 := congrArg (fun v : BitVec 64 => (v >>> 8).setWidth 32) h1
  simp only [tv_back] at h2
  exact h2
theorem head_turned (g : BitVec 64) (data : By) {p : Nat} {y : BitVec 8} (hp : p < 64) (hy : (headB g data)[p]? ≠ some y) (num : BitVec 64) (data' : By) : headB num data' ≠ (headB g data).set p y := by
  intro h
  rw [headB_tail, headB_tail] at h
  rw [headB_tail] at hy
  have hl := headA_len g data
  have hl' := headA_len num data'
  generalize headA g data = A at *
  generalize headA num data' = A' at *
  by_cases h59 : p < 59
  · rw [List.set_append_left _ _ (by omega)] at h
    obtain ⟨h1, h2⟩ := List.append_inj h (by rw [List.length_set]; omega)
    have h3 := tailB_inj h2
    rw [h1] at h3
    rw [List.getElem?_append_left (by omega)] at hy
    exact hy (crcB_set (by omega) h3)
  · rw [List.set_append_right _ _ (by omega), hl] at h
    obtain ⟨h1, h2⟩ := List.append_inj h (by omega)
    subst h1
    rw [List.getElem?_append_right (by omega), hl] at hy
    apply hy
    rw [h2, List.getElem?_set_self (by rw [tailB_len]; omega)]
theorem w32_inj {u v : BitVec 32} (h : u.setWidth 64 = v.setWidth 64) : u = v := by
  have := congrArg (BitVec.setWidth 32) h
  simpa using this
theorem headB_crc {g : BitVec 64} {data data' : By} (hl : data'.length = data.length) (h : headB g data' = headB g data) : crcB data' = crcB data := by
  rw [headB_tail, headB_tail] at h
  obtain ⟨h1, _⟩ := List.append_inj h (by rw [headA_len, headA_len])
  unfold headA at h1
  rw [hl] at h1
  obtain ⟨h2, _⟩ := List.append_inj h1 (by simp [putB_len])
  obtain ⟨_, h3⟩ := List.append_inj h2 (by simp [putB_len])
  refine w32_inj (putB_inj (by decide) ?_ ?_ h3)
  · have := (crcB data').isLt; rw [BitVec.toNat_setWidth]; omega
  · have := (crcB data).isLt; rw [BitVec.toNat_setWidth]; omega
theorem flat_len (data : By) : ∀ n, ((List.range n).flatMap (pieceB data)).length = 64 * n := by
  intro n
  induction n with
  | zero => rfl
  | succ n ih => rw [List.range_succ, List.flatMap_append, List.length_append, ih]; simp [pieceB_len]; omega
theorem flat_set (data : By) (body : Nat → By) (k p : Nat) (y : BitVec 8) (hp : p < 64) : ∀ n, (∀ i, i < n → body i = if i = k then (pieceB data i).set p y else pieceB data i) →
    (List.range n).flatMap body = if k < n then ((List.range n).flatMap (pieceB data)).set (64 * k + p) y else (List.range n).flatMap (pieceB data) := by
  intro n
  induction n with
  | zero => intro _; rw [if_neg (by omega)]; rfl
  | succ n ih =>
    intro h
    have hn := h n (by omega)
    have ih' := ih (fun i hi => h i (by omega))
    have hfl := flat_len data n
    rw [List.range_succ, List.flatMap_append, List.flatMap_append, ih']
    simp only [List.flatMap_cons, List.flatMap_nil, List.append_nil]
    rw [hn]
    by_cases h1 : k < n
    · rw [if_pos h1, if_neg (by omega), if_pos (by omega), List.set_append_left _ _ (by omega)]
    · by_cases h2 : n = k
      · subst h2
        rw [if_neg h1, if_pos rfl, if_pos (by omega), List.set_append_right _ _ (by omega), hfl]
        congr 2
        omega
      · rw [if_neg h1, if_neg h2, if_neg (by omega)]
/-- a byte turned within the filled sectors -/
theorem body_turned {body : Nat → By} {odd size : Nat} {g : BitVec 64} {data : By} {k p : Nat} {y old : BitVec 8} (hl : data.length < 4294967296) (hk : k < secsN data.length) (hp : p < 64) (ho : (pieceB data k)[p]? = some old) (hy : y ≠ old)
    (hb : ∀ i, i < secsN data.length → body i = if i = k then (pieceB data i).set p y else pieceB data i) : standP (headB g data) body odd size = none := by
  have e := flat_set data body k p y hp _ hb
  rw [if_pos hk] at e
  have eo := flat_set data (pieceB data) k p old hp (secsN data.length) (fun i hi => by
    split
    · next h =>
      subst h
      apply List.ext_getElem?
      intro j
      by_cases hj : p = j
      · subst hj; rw [ho, List.getElem?_set_self (by rw [pieceB_len]; exact hp)]
      · rw [List.getElem?_set_ne hj]
    · rfl)
  rw [if_pos hk] at eo
  have hfl := flat_len data (secsN data.length)
  have hsn : data.length ≤ 64 * secsN data.length := by unfold secsN; omega
  rw [pieces_all] at e eo hfl
  have hold : (data ++ zer (64 * secsN data.length - data.length))[64 * k + p]? = some old := by
    rw [eo, List.getElem?_set_self (by rw [hfl]; omega)]
  unfold standP
  rw [numP_head, longP_head _ _ hl, e]
  by_cases hc : g.toNat < 1 ∨ 1099511627776 < g.toNat ∨ g.toNat % 2 ≠ odd ∨ 64 * (size - 1) < data.length
  · rw [if_pos hc]
  · rw [if_neg hc, if_pos]
    by_cases hq : 64 * k + p < data.length
    · right
      rw [List.set_append_left _ _ hq, List.take_left' (by rw [List.length_set])]
      intro h
      have h1 := crcB_set hq (headB_crc (by rw [List.length_set]) h)
      rw [List.getElem?_append_left hq, h1] at hold
      exact hy (by injection hold)
    · left
      rw [List.set_append_right _ _ (by omega), List.drop_left]
      rw [List.getElem?_append_right (by omega)] at hold
      have hlt : 64 * k + p - data.length < (zer (64 * secsN data.length - data.length)).length := by rw [zer_len]; omega
      have h0 : old = 0#8 := by
        have : (zer (64 * secsN data.length - data.length))[64 * k + p - data.length]? = some 0#8 := by
          unfold zer at hlt ⊢
          rw [List.getElem?_replicate, if_pos (by simpa using hlt)]
        rw [this] at hold
        injection hold with hold
        exact hold.symm
      subst h0
      unfold notZero
      rw [List.any_eq_true]
      refine ⟨y, List.mem_of_getElem? (i := 64 * k + p - data.length) (List.getElem?_set_self hlt), by simpa using hy⟩
/-- what a slot holds -/
structure Holds (d : Dk) (s gen : Nat) (data : By) : Prop where
  hd : d.read s = headB (BitVec.ofNat 64 gen) data
  bd : ∀ i, i < secsN data.length → d.read (s + 1 + i) = pieceB data i
theorem holds_turned {d e : Dk} {fr size gen J p : Nat} {data : By} {y old : BitVec 8} (h : Holds d (slotN fr size gen) gen data) (h1 : 1 ≤ gen) (h2 : gen ≤ 1099511627776) (hl : data.length ≤ 64 * (size - 1)) (hs : size ≤ 65536) (hp : p < 64) (ho : (d.read J)[p]? = some old) (hy : y ≠ old)
    (he : ∀ j, slotN fr size gen ≤ j → j < slotN fr size gen + size → e.read j = if j = J then (d.read j).set p y else d.read j) (h1s : 1 ≤ size) :
    standD e fr size (gen % 2) = if slotN fr size gen ≤ J ∧ J ≤ slotN fr size gen + secsN data.length then none else some (gen, data) := by
  have hsl := secsN_le hl
  rw [standD_eq, ← slotN_odd]
  generalize hS : slotN fr size gen = s at *
  rw [he s (Nat.le_refl _) (by omega)]
  by_cases hJ : s = J
  · subst hJ
    rw [if_pos rfl, if_pos (by omega), h.hd]
    rw [h.hd] at ho
    unfold standP
    split
    · rfl
    · rw [if_pos]
      right
      exact head_turned _ _ hp (by rw [ho]; intro h; injection h with h; exact hy h.symm) _ _
  · rw [if_neg hJ, h.hd]
    by_cases hin : s < J ∧ J ≤ s + secsN data.length
    · rw [if_pos (by omega)]
      obtain ⟨k, hk⟩ : ∃ k, J = s + 1 + k := ⟨J - s - 1, by omega⟩
      subst hk
      refine body_turned (k := k) (p := p) (y := y) (old := old) (by omega) (by omega) hp ?_ hy ?_
      · rw [← h.bd k (by omega)]; exact ho
      · intro i hi
        rw [he _ (by omega) (by omega), h.bd i hi]
        by_cases hik : i = k
        · rw [if_pos (by omega), if_pos hik]
        · rw [if_neg (by omega), if_neg hik]
    · rw [if_neg (by omega)]
      refine standP_new h1 h2 rfl hl hs fun i hi => ?_
      rw [he _ (by omega) (by omega), if_neg (by omega), h.bd i hi]
theorem sec_set {S : By} {n j at' : Nat} (hS : S.length = 64 * n) (hj : j < n) (y : BitVec 8) : sec (S.set at' y) j = if j = at' / 64 then (sec S j).set (at' % 64) y else sec S j := by
  have hS' : (S.set at' y).length = 64 * n := by rw [List.length_set, hS]
  apply List.ext_getElem?
  intro q
  by_cases hq : q < 64
  · rw [sec_get hS' hj hq]
    by_cases h : j = at' / 64
    · rw [if_pos h]
      by_cases h2 : at' % 64 = q
      · rw [show 64 * j + q = at' by omega, List.getElem?_set_self (by omega), ← h2, List.getElem?_set_self (by rw [sec_len hS hj]; omega)]
      · rw [List.getElem?_set_ne (by omega), List.getElem?_set_ne h2, sec_get hS hj hq]
    · rw [if_neg h, List.getElem?_set_ne (by omega), sec_get hS hj hq]
  · rw [List.getElem?_eq_none (by rw [sec_len hS' hj]; omega), List.getElem?_eq_none]
    split
    · rw [List.length_set, sec_len hS hj]; omega
    · rw [sec_len hS hj]; omega
theorem read_clean {d : Dk} (h : d.R = []) (j : Nat) : d.read j = sec d.S j := by unfold Dk.read; rw [h]; rfl
theorem loadD_read (S : By) (j : Nat) : (loadD S).read j = sec S j := rfl
theorem loadD_cl {d : Dk} (h : d.ok) {S : By} (hl : S.length = d.S.length) : Cl (loadD S) ∧ (loadD S).n = d.n := by
  have hs := h.s
  have n : S.length / 64 = d.n := by omega
  refine ⟨⟨⟨?_, ?_, ?_, fun p hp => by cases hp⟩, rfl⟩, n⟩
  · show 1 ≤ S.length / 64; rw [n]; exact h.n1
  · show S.length / 64 ≤ 65536; rw [n]; exact h.n2
  · show S.length = 64 * (S.length / 64); omega
/-- the older and the newer: what Open answers when a byte is turned -/
theorem turned_open {d : Dk} {fr size at' : Nat} {older newer : By} {turn : BitVec 8} (c : Cl d) (hR : d.R = []) (h1 : Holds d fr 1 older) (h2 : Holds d (fr + size) 2 newer) (hl1 : older.length ≤ 64 * (size - 1)) (hl2 : newer.length ≤ 64 * (size - 1)) (hz : 2 ≤ size) (hs : size ≤ 65536) (hr : fr + 2 * size ≤ d.n) (hat : at' < d.S.length) :
    openP (loadD (d.S.set at' ((d.S.getD at' 0#8) ^^^ turn))) fr size = if turn ≠ 0#8 ∧ 64 * (fr + size) ≤ at' ∧ at' < 64 * (fr + size) + 64 * (1 + secsN newer.length) then (1, older) else (2, newer) := by
  have hS := c.ok.s
  obtain ⟨old, ho⟩ : ∃ old, d.S.getD at' 0#8 = old := ⟨_, rfl⟩
  have ho' : d.S[at']? = some old := by rw [← ho, List.getD_eq_getElem?_getD, List.getElem?_eq_getElem hat]; rfl
  rw [ho]
  have hread : ∀ j, j < d.n → (loadD (d.S.set at' (old ^^^ turn))).read j = if j = at' / 64 then (d.read j).set (at' % 64) (old ^^^ turn) else d.read j := fun j hj => by
    rw [loadD_read, sec_set hS hj, read_clean hR]
  have hold : (d.read (at' / 64))[at' % 64]? = some old := by
    rw [read_clean hR, sec_get hS (by omega) (by omega), show 64 * (at' / 64) + at' % 64 = at' by omega, ho']
  have s1 : slotN fr size 1 = fr := rfl
  have s2 : slotN fr size 2 = fr + size := rfl
  generalize hE : loadD (d.S.set at' (old ^^^ turn)) = e at *
  unfold openP
  by_cases ht : turn = 0#8
  · subst ht
    rw [if_neg (by simp)]
    have hsame : ∀ j, j < d.n → e.read j = d.read j := fun j hj => by
      rw [hread j hj]
      split
      · next hh =>
        subst hh
        rw [BitVec.xor_zero]
        apply List.ext_getElem?
        intro q
        by_cases hq : at' % 64 = q
        · subst hq; rw [hold, List.getElem?_set_self (by rw [read_clean hR, sec_len hS hj]; omega)]
        · rw [List.getElem?_set_ne hq]
      · rfl
    have e0 : standD e fr size 0 = some (2, newer) := by
      rw [standD_eq, show slotN fr size 0 = fr + size from rfl, hsame _ (by omega), h2.hd]
      have := secsN_le hl2
      exact standP_new (by omega) (by omega) rfl hl2 hs fun i hi => by rw [hsame _ (by omega), h2.bd i hi]
    have e1 : standD e fr size 1 = some (1, older) := by
      rw [standD_eq, show slotN fr size 1 = fr from rfl, hsame _ (by omega), h1.hd]
      have := secsN_le hl1
      exact standP_new (by omega) (by omega) rfl hl1 hs fun i hi => by rw [hsame _ (by omega), h1.bd i hi]
    rw [e0, e1, pick_yes (c := (0, [])) (x := (2, newer)) (by show 0 < 2; omega), pick_no (c := (2, newer)) (x := (1, older)) (by show ¬ 2 < 1; omega)]
  · have hy : old ^^^ turn ≠ old := fun h => ht (by
      have := congrArg (old ^^^ ·) h
      simpa [← BitVec.xor_assoc] using this)
    have e0 := holds_turned (e := e) (fr := fr) (size := size) (gen := 2) (J := at' / 64) (p := at' % 64) (y := old ^^^ turn) (old := old) (data := newer) (d := d) (by rw [s2]; exact h2) (by omega) (by omega) hl2 hs (by omega) hold hy (fun j a b => hread j (by rw [s2] at b; omega)) (by omega)
    have e1 := holds_turned (e := e) (fr := fr) (size := size) (gen := 1) (J := at' / 64) (p := at' % 64) (y := old ^^^ turn) (old := old) (data := older) (d := d) (by rw [s1]; exact h1) (by omega) (by omega) hl1 hs (by omega) hold hy (fun j a b => hread j (by rw [s1] at b; omega)) (by omega)
    rw [s2] at e0
    rw [s1] at e1
    have q1 := secsN_le hl1
    have q2 := secsN_le hl2
    rw [show standD e fr size 0 = standD e fr size (2 % 2) from rfl, show standD e fr size 1 = standD e fr size (1 % 2) from rfl, e0, e1]
    by_cases hin : 64 * (fr + size) ≤ at' ∧ at' < 64 * (fr + size) + 64 * (1 + secsN newer.length)
    · rw [if_pos (show fr + size ≤ at' / 64 ∧ at' / 64 ≤ fr + size + secsN newer.length by omega), if_neg (show ¬ (fr ≤ at' / 64 ∧ at' / 64 ≤ fr + secsN older.length) by omega), if_pos ⟨ht, hin⟩, pick_none, pick_yes (c := (0, [])) (x := (1, older)) (by show 0 < 1; omega)]
    · rw [if_neg (show ¬ (fr + size ≤ at' / 64 ∧ at' / 64 ≤ fr + size + secsN newer.length) by omega), if_neg (show ¬ (turn ≠ 0#8 ∧ 64 * (fr + size) ≤ at' ∧ at' < 64 * (fr + size) + 64 * (1 + secsN newer.length)) from fun h => hin h.2), pick_yes (c := (0, [])) (x := (2, newer)) (by show 0 < 2; omega)]
      split
      · exact pick_none _
      · exact pick_no (c := (2, newer)) (x := (1, older)) (by show ¬ 2 < 1; omega)
end Go.Proofs.Ytjcbmlpfpcpakaa
