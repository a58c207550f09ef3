/- Layer 12 (shot), plain: numbers as bytes, the highest first. -/
import Derived.Test.YtjcbmlpfpcpakaaD8m
import Derived.Test.YtjcbmlpfpcpakaaS12b
namespace Go.Proofs.Ytjcbmlpfpcpakaa
open Go.RowKit
set_option linter.unusedVariables false
abbrev By := List (BitVec 8)
def gotF (v : BitVec 64) (b : BitVec 8) : BitVec 64 := v * 256#64 ||| b.setWidth 64
def gotL (v : BitVec 64) (l : By) : BitVec 64 := l.foldl gotF v
theorem gotL_nil (v : BitVec 64) : gotL v [] = v := rfl
theorem gotL_cons (v : BitVec 64) (b : BitVec 8) (l : By) : gotL v (b :: l) = gotL (gotF v b) l := rfl
attribute [irreducible] gotL
def gotB (l : By) : BitVec 64 := gotL 0#64 l
def beN (v : Nat) : By → Nat
  | [] => v
  | b :: l => beN (v * 256 + b.toNat) l
theorem beN_add (l : By) : ∀ v, beN v l = v * 256 ^ l.length + beN 0 l := by
  induction l with
  | nil => intro v; simp [beN]
  | cons b l ih =>
    intro v
    simp only [beN, List.length_cons]
    rw [ih (v * 256 + b.toNat), ih (0 * 256 + b.toNat), Nat.add_mul, Nat.pow_succ, Nat.zero_mul, Nat.zero_add, Nat.mul_assoc, Nat.mul_comm 256, Nat.add_assoc]
theorem beN_lt (l : By) : beN 0 l < 256 ^ l.length := by
  induction l with
  | nil => simp [beN]
  | cons b l ih =>
    simp only [beN, List.length_cons]
    rw [beN_add, Nat.zero_mul, Nat.zero_add, Nat.pow_succ]
    have := b.isLt
    have h : b.toNat * 256 ^ l.length ≤ 255 * 256 ^ l.length := Nat.mul_le_mul_right _ (by omega)
    omega
theorem gotF_toNat (v : BitVec 64) (b : BitVec 8) (h : v.toNat < 2 ^ 56) : (gotF v b).toNat = v.toNat * 256 + b.toNat := by
  unfold gotF
  have hb := b.isLt
  rw [BitVec.toNat_or, BitVec.toNat_mul, BitVec.toNat_setWidth, Nat.mod_eq_of_lt (show b.toNat < 2 ^ 64 by omega), show (256#64).toNat = 256 from rfl, Nat.mod_eq_of_lt (by omega),
    show v.toNat * 256 = v.toNat <<< 8 by rw [Nat.shiftLeft_eq], ← Nat.shiftLeft_add_eq_or_of_lt (by simpa using hb), Nat.shiftLeft_eq]
theorem gotL_toNat : ∀ (l : By) (v : BitVec 64) (k : Nat), v.toNat < 256 ^ k → k + l.length ≤ 8 → (gotL v l).toNat = beN v.toNat l
  | [], v, k, _, _ => by rw [gotL_nil]; rfl
  | b :: l, v, k, hv, hk => by
    have hk' : k + 1 + l.length ≤ 8 := by simpa [Nat.add_assoc, Nat.add_comm 1] using hk
    have h56 : v.toNat < 2 ^ 56 := Nat.lt_of_lt_of_le hv (by
      have : 256 ^ k ≤ 256 ^ 7 := Nat.pow_le_pow_right (by omega) (by omega)
      simpa using this)
    have e := gotF_toNat v b h56
    rw [gotL_cons, gotL_toNat l (gotF v b) (k + 1) (by rw [e, Nat.pow_succ]; have := b.isLt; omega) hk', e]
    rfl
theorem gotB_toNat (l : By) (h : l.length ≤ 8) : (gotB l).toNat = beN 0 l := gotL_toNat l 0#64 0 (by simp) (by omega)
/-- a number's lowest n bytes, the highest first -/
def putB (v : BitVec 64) : Nat → By
  | 0 => []
  | n + 1 => (v >>> (8 * n)).setWidth 8 :: putB v n
theorem putB_len (v : BitVec 64) (n : Nat) : (putB v n).length = n := by
  induction n with
  | zero => rfl
  | succ n ih => simp [putB, ih]
theorem beN_putB (v : BitVec 64) (n : Nat) : beN 0 (putB v n) = v.toNat % 256 ^ n := by
  induction n with
  | zero => simp [putB, beN, Nat.mod_one]
  | succ n ih =>
    simp only [putB, beN]
    rw [beN_add, ih, putB_len, BitVec.toNat_setWidth, BitVec.toNat_ushiftRight, Nat.shiftRight_eq_div_pow, Nat.zero_mul, Nat.zero_add, show 2 ^ (8 * n) = 256 ^ n by rw [Nat.pow_mul], show (2 : Nat) ^ 8 = 256 from rfl, show (256 : Nat) ^ (n + 1) = 256 ^ n * 256 from Nat.pow_succ .., Nat.mod_mul, Nat.mul_comm, Nat.add_comm]
theorem gotB_putB (v : BitVec 64) (n : Nat) (hn : n ≤ 8) (hv : v.toNat < 256 ^ n) : gotB (putB v n) = v := by
  apply BitVec.eq_of_toNat_eq
  rw [gotB_toNat _ (by rw [putB_len]; exact hn), beN_putB, Nat.mod_eq_of_lt hv]
theorem putB_inj {u v : BitVec 64} {n : Nat} (hn : n ≤ 8) (hu : u.toNat < 256 ^ n) (hv : v.toNat < 256 ^ n) (h : putB u n = putB v n) : u = v := by
  rw [← gotB_putB u n hn hu, ← gotB_putB v n hn hv, h]
theorem putB_get (v : BitVec 64) (n j : Nat) (h : j < n) : (putB v n)[j]? = some ((v >>> (8 * (n - 1 - j))).setWidth 8) := by
  induction n generalizing j with
  | zero => omega
  | succ n ih =>
    cases j with
    | zero => simp [putB]
    | succ j => simp only [putB, List.getElem?_cons_succ]; rw [ih j (by omega)]; congr 3; omega
theorem putB_succ (v : BitVec 64) (n : Nat) : putB v (n + 1) = (v >>> (8 * n)).setWidth 8 :: putB v n := rfl
theorem putB_nil (v : BitVec 64) : putB v 0 = [] := rfl
theorem gotB_eq (l : By) : gotB l = gotL 0#64 l := rfl
attribute [irreducible] gotB putB
end Go.Proofs.Ytjcbmlpfpcpakaa
namespace Go.Proofs.Ytjcbmlpfpcpakaa
open Go.RowKit
set_option linter.unusedVariables false
def zer (n : Nat) : By := List.replicate n 0#8
theorem zer_len (n : Nat) : (zer n).length = n := by simp [zer]
attribute [irreducible] zer
def crcB (p : By) : BitVec 32 := ~~~ tkn 0xFFFFFFFF#32 p
def magic : By := [83#8, 72#8, 79#8, 84#8]
def headA (gen : BitVec 64) (data : By) : By := magic ++ putB gen 8 ++ putB (BitVec.ofNat 64 data.length) 4 ++ putB ((crcB data).setWidth 64) 4 ++ zer 39
theorem headA_len (gen : BitVec 64) (data : By) : (headA gen data).length = 59 := by simp [headA, magic, putB_len, zer_len]
def headB (gen : BitVec 64) (data : By) : By := headA gen data ++ putB (((crcB (headA gen data)).setWidth 64) <<< 8 ||| 165#64) 5
theorem headB_len (gen : BitVec 64) (data : By) : (headB gen data).length = 64 := by simp [headB, headA_len, putB_len]
def numP (first : By) : BitVec 64 := gotB ((first.drop 4).take 8)
def longP (first : By) : BitVec 64 := gotB ((first.drop 12).take 4)
def secsN (n : Nat) : Nat := (n + 63) / 64
def notZero (l : By) : Bool := l.any (fun b => b != 0#8)
theorem notZero_cons (b : BitVec 8) (l : By) : notZero (b :: l) = (b != 0#8 || notZero l) := rfl
theorem notZero_nil : notZero [] = false := rfl
attribute [irreducible] notZero
/-- what stands in a slot -/
def standP (first : By) (body : Nat → By) (odd size : Nat) : Option (Nat × By) :=
  if (numP first).toNat < 1 ∨ 1099511627776 < (numP first).toNat ∨ (numP first).toNat % 2 ≠ odd ∨ 64 * (size - 1) < (longP first).toNat then none
  else if notZero (((List.range (secsN (longP first).toNat)).flatMap body).drop (longP first).toNat) = true ∨ headB (numP first) (((List.range (secsN (longP first).toNat)).flatMap body).take (longP first).toNat) ≠ first then none
  else some ((numP first).toNat, ((List.range (secsN (longP first).toNat)).flatMap body).take (longP first).toNat)
def slotN (fr size gen : Nat) : Nat := if gen % 2 = 1 then fr else fr + size
def standD (d : Dk) (fr size odd : Nat) : Option (Nat × By) := standP (d.read (slotN fr size odd)) (fun i => d.read (slotN fr size odd + 1 + i)) odd size
def pick (c : Nat × By) : Option (Nat × By) → Nat × By
  | none => c
  | some x => if c.1 < x.1 then x else c
theorem standD_eq (d : Dk) (fr size odd : Nat) : standD d fr size odd = standP (d.read (slotN fr size odd)) (fun i => d.read (slotN fr size odd + 1 + i)) odd size := rfl
theorem pick_none (c : Nat × By) : pick c none = c := rfl
theorem pick_yes {c x : Nat × By} (h : c.1 < x.1) : pick c (some x) = x := if_pos h
theorem pick_no {c x : Nat × By} (h : ¬ c.1 < x.1) : pick c (some x) = c := if_neg h
def openP (d : Dk) (fr size : Nat) : Nat × By := pick (pick (0, []) (standD d fr size 0)) (standD d fr size 1)
/-- what is done to a disk, one thing behind the other, as long as there is power -/
inductive Act1
  | w (i : Nat) (l : By)
  | y
def act1 (d : Dk) : Act1 → Dk
  | .w i l => writeD d i l
  | .y => syncD d
def runA : Dk → List Act1 → Dk × Bool
  | d, [] => (d, true)
  | d, x :: r => if powP d = 0 then runA (act1 d x) r else (d, false)
theorem runA_nil (d : Dk) : runA d [] = (d, true) := rfl
theorem runA_cons (d : Dk) (x : Act1) (r : List Act1) : runA d (x :: r) = if powP d = 0 then runA (act1 d x) r else (d, false) := rfl
theorem runA_append (r s : List Act1) : ∀ d, runA d (r ++ s) = if (runA d r).2 then runA (runA d r).1 s else ((runA d r).1, false) := by
  induction r with
  | nil => intro d; simp [runA]
  | cons x r ih =>
    intro d
    rw [List.cons_append, runA_cons, runA_cons]
    split
    · exact ih _
    · simp
/-- a piece of the data, filled up -/
def pieceB (data : By) (i : Nat) : By := (data.drop (64 * i)).take 64 ++ zer (64 - ((data.drop (64 * i)).take 64).length)
theorem pieceB_len (data : By) (i : Nat) : (pieceB data i).length = 64 := by
  unfold pieceB
  rw [List.length_append, zer_len, List.length_take]
  omega
def bodyA (at' : Nat) (data : By) : List Act1 := (List.range (secsN data.length)).map fun i => .w (at' + 1 + i) (pieceB data i)
def saveA (d : Dk) (at' gen : Nat) (data : By) : List Act1 :=
  (if d.read at' = zer 64 then [] else [.w at' (zer 64), .y]) ++ bodyA at' data ++ [.y, .w at' (headB (BitVec.ofNat 64 gen) data), .y]
/-- a Save, the power asked first -/
def saveP (d : Dk) (at' gen : Nat) (data : By) : Dk × Bool := if powP d = 0 then runA d (saveA d at' gen data) else (d, false)
theorem openP_def (d : Dk) (fr size : Nat) : openP d fr size = pick (pick (0, []) (standD d fr size 0)) (standD d fr size 1) := rfl
theorem saveP_eq (d : Dk) (at' gen : Nat) (data : By) : saveP d at' gen data = if powP d = 0 then runA d (saveA d at' gen data) else (d, false) := rfl
theorem saveA_eq (d : Dk) (at' gen : Nat) (data : By) : saveA d at' gen data = (if d.read at' = zer 64 then [] else [.w at' (zer 64), .y]) ++ bodyA at' data ++ [.y, .w at' (headB (BitVec.ofNat 64 gen) data), .y] := rfl
attribute [irreducible] crcB headA headB numP longP standP openP pieceB runA saveA saveP standD pick
end Go.Proofs.Ytjcbmlpfpcpakaa
