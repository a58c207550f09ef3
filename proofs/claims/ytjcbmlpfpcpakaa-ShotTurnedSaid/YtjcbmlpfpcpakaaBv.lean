/- Words of bits as the walk's numbers: 'Bv x' is the number that a word x tells; rules that turn the walk's integer operations on such numbers into operations on words. No program in sight. -/
import Derived.WalkKit
import Derived.KernelRfl
namespace Go.Proofs.Ytjcbmlpfpcpakaa
open Go.RowKit

/-- a value under a name that nothing can look behind but by its own law -/
noncomputable def shut {α : Type} (a : α) : α := Classical.choose (⟨a, rfl⟩ : ∃ x, x = a)
theorem shut_eq {α : Type} (a : α) : shut a = a := Classical.choose_spec (⟨a, rfl⟩ : ∃ x, x = a)
/-- a word of bits as the number that it tells -/
def Bv {n : Nat} (x : BitVec n) : Int := (x.toNat : Int)
theorem Bv_nonneg {n : Nat} (x : BitVec n) : 0 ≤ Bv x := Int.natCast_nonneg _
theorem Bv_lt {n : Nat} (x : BitVec n) : Bv x < 2 ^ n := by have := x.isLt; unfold Bv; exact_mod_cast this
theorem Bv_lt64 (x : BitVec 64) : Bv x < 18446744073709551616 := Bv_lt x
theorem Bv_lt32 (x : BitVec 32) : Bv x < 4294967296 := Bv_lt x
theorem Bv_lt8 (x : BitVec 8) : Bv x < 256 := Bv_lt x
theorem Bv_inj {n : Nat} {x y : BitVec n} : Bv x = Bv y ↔ x = y := by
  unfold Bv; rw [Int.natCast_inj, BitVec.toNat_inj]
theorem Bv_ofNat {m : Nat} (n : Nat) (h : n < 2 ^ m) : Bv (BitVec.ofNat m n) = (n : Int) := by
  unfold Bv; rw [BitVec.toNat_ofNat, Nat.mod_eq_of_lt h]
theorem Bv_cast {n : Nat} (x : BitVec n) : Bv x = (x.toNat : Int) := rfl
theorem Bv_toNat {n : Nat} (x : BitVec n) : (Bv x).toNat = x.toNat := rfl
/-- a number in a word's range is one that a word tells -/
theorem Bv_of {n : Nat} (a : Int) (h0 : 0 ≤ a) (h1 : a < 2 ^ n) : ∃ x : BitVec n, a = Bv x := by
  obtain ⟨k, rfl⟩ := Int.eq_ofNat_of_zero_le h0
  exact ⟨BitVec.ofNat n k, (Bv_ofNat k (by exact_mod_cast h1)).symm⟩
theorem Bv_of64 {a : Int} (h : (Lit.int .u64 a).wf = true) : ∃ x : BitVec 64, a = Bv x := by
  have h' : 0 ≤ a ∧ a < 18446744073709551616 := by
    simp [Lit.wf, IntKind.min, IntKind.max, IntKind.signed, IntKind.bits] at h; omega
  exact Bv_of a h'.1 h'.2
theorem Bv_of32 {a : Int} (h : (Lit.int .u32 a).wf = true) : ∃ x : BitVec 32, a = Bv x := by
  have h' : 0 ≤ a ∧ a < 4294967296 := by
    simp [Lit.wf, IntKind.min, IntKind.max, IntKind.signed, IntKind.bits] at h; omega
  exact Bv_of a h'.1 h'.2
theorem Bv_of8 {a : Int} (h : (Lit.int .u8 a).wf = true) : ∃ x : BitVec 8, a = Bv x := by
  have h' : 0 ≤ a ∧ a < 256 := by
    simp [Lit.wf, IntKind.min, IntKind.max, IntKind.signed, IntKind.bits] at h; omega
  exact Bv_of a h'.1 h'.2

theorem i64_of {a : Int} (h : (Lit.int .i64 a).wf = true) : -9223372036854775808 ≤ a ∧ a ≤ 9223372036854775807 := by
  simp [Lit.wf, IntKind.min, IntKind.max, IntKind.signed, IntKind.bits] at h; omega

theorem u64_wrap (n : Int) : IntKind.u64.wrap n = Bv (BitVec.ofInt 64 n) := by
  unfold Bv
  simp [IntKind.wrap, IntKind.bits, IntKind.signed, BitVec.toNat_ofInt]
  omega
theorem u32_wrap (n : Int) : IntKind.u32.wrap n = Bv (BitVec.ofInt 32 n) := by
  unfold Bv
  simp [IntKind.wrap, IntKind.bits, IntKind.signed, BitVec.toNat_ofInt]
  omega
theorem u8_wrap (n : Int) : IntKind.u8.wrap n = Bv (BitVec.ofInt 8 n) := by
  unfold Bv
  simp [IntKind.wrap, IntKind.bits, IntKind.signed, BitVec.toNat_ofInt]
  omega
theorem ofInt_Bv {n : Nat} (x : BitVec n) : BitVec.ofInt n (Bv x) = x := by unfold Bv; rw [BitVec.ofInt_natCast]; simp
theorem ofInt_Bv' {n m : Nat} (x : BitVec n) : BitVec.ofInt m (Bv x) = x.setWidth m := by
  unfold Bv; rw [BitVec.ofInt_natCast]; simp
theorem ofInt_lit {m : Nat} (n : Nat) : BitVec.ofInt m (OfNat.ofNat n : Int) = BitVec.ofNat m n := BitVec.ofInt_natCast ..
/-- what a bitwise operation does, of words -/
def opw {n : Nat} (op : BinOp) (x y : BitVec n) : BitVec n := match op with
    | .and => x &&& y
    | .or => x ||| y
    | .xor => x ^^^ y
    | _ => x &&& ~~~ y
theorem bits64 (op : BinOp) (x y : Int) : bits op .u64 x y = Bv (opw op (BitVec.ofInt 64 x) (BitVec.ofInt 64 y)) := by
  unfold bits
  simp only [IntKind.bits]
  rw [u64_wrap]
  congr 1
  cases op <;> simp only [opw, BitVec.ofInt_natCast, BitVec.ofNat_toNat, BitVec.setWidth_eq] <;> rfl
theorem bits32 (op : BinOp) (x y : Int) : bits op .u32 x y = Bv (opw op (BitVec.ofInt 32 x) (BitVec.ofInt 32 y)) := by
  unfold bits
  simp only [IntKind.bits]
  rw [u32_wrap]
  congr 1
  cases op <;> simp only [opw, BitVec.ofInt_natCast, BitVec.ofNat_toNat, BitVec.setWidth_eq] <;> rfl
theorem bits8 (op : BinOp) (x y : Int) : bits op .u8 x y = Bv (opw op (BitVec.ofInt 8 x) (BitVec.ofInt 8 y)) := by
  unfold bits
  simp only [IntKind.bits]
  rw [u8_wrap]
  congr 1
  cases op <;> simp only [opw, BitVec.ofInt_natCast, BitVec.ofNat_toNat, BitVec.setWidth_eq] <;> rfl
-- bitwise
theorem xor64 (x y : BitVec 64) : bits .xor .u64 (Bv x) (Bv y) = Bv (x ^^^ y) := by rw [bits64]; simp only [ofInt_Bv, opw]
theorem and64 (x y : BitVec 64) : bits .and .u64 (Bv x) (Bv y) = Bv (x &&& y) := by rw [bits64]; simp only [ofInt_Bv, opw]
theorem or64 (x y : BitVec 64) : bits .or .u64 (Bv x) (Bv y) = Bv (x ||| y) := by rw [bits64]; simp only [ofInt_Bv, opw]
theorem xor32 (x y : BitVec 32) : bits .xor .u32 (Bv x) (Bv y) = Bv (x ^^^ y) := by rw [bits32]; simp only [ofInt_Bv, opw]
theorem and32 (x y : BitVec 32) : bits .and .u32 (Bv x) (Bv y) = Bv (x &&& y) := by rw [bits32]; simp only [ofInt_Bv, opw]
theorem or32 (x y : BitVec 32) : bits .or .u32 (Bv x) (Bv y) = Bv (x ||| y) := by rw [bits32]; simp only [ofInt_Bv, opw]
theorem xor8 (x y : BitVec 8) : bits .xor .u8 (Bv x) (Bv y) = Bv (x ^^^ y) := by rw [bits8]; simp only [ofInt_Bv, opw]
theorem xor64c (x : BitVec 64) (n : Nat) : bits .xor .u64 (Bv x) (no_index (OfNat.ofNat n : Int)) = Bv (x ^^^ BitVec.ofNat 64 n) := by rw [bits64]; simp only [ofInt_Bv, ofInt_lit, opw]
theorem and64c (x : BitVec 64) (n : Nat) : bits .and .u64 (Bv x) (no_index (OfNat.ofNat n : Int)) = Bv (x &&& BitVec.ofNat 64 n) := by rw [bits64]; simp only [ofInt_Bv, ofInt_lit, opw]
theorem or64c (x : BitVec 64) (n : Nat) : bits .or .u64 (Bv x) (no_index (OfNat.ofNat n : Int)) = Bv (x ||| BitVec.ofNat 64 n) := by rw [bits64]; simp only [ofInt_Bv, ofInt_lit, opw]
theorem xor32c (x : BitVec 32) (n : Nat) : bits .xor .u32 (Bv x) (no_index (OfNat.ofNat n : Int)) = Bv (x ^^^ BitVec.ofNat 32 n) := by rw [bits32]; simp only [ofInt_Bv, ofInt_lit, opw]
theorem and32c (x : BitVec 32) (n : Nat) : bits .and .u32 (Bv x) (no_index (OfNat.ofNat n : Int)) = Bv (x &&& BitVec.ofNat 32 n) := by rw [bits32]; simp only [ofInt_Bv, ofInt_lit, opw]
theorem or32c (x : BitVec 32) (n : Nat) : bits .or .u32 (Bv x) (no_index (OfNat.ofNat n : Int)) = Bv (x ||| BitVec.ofNat 32 n) := by rw [bits32]; simp only [ofInt_Bv, ofInt_lit, opw]
-- plus, minus, times
theorem add64 (x y : BitVec 64) : IntKind.u64.wrap (Bv x + Bv y) = Bv (x + y) := by rw [u64_wrap, BitVec.ofInt_add]; simp only [ofInt_Bv]
theorem mul64 (x y : BitVec 64) : IntKind.u64.wrap (Bv x * Bv y) = Bv (x * y) := by rw [u64_wrap, BitVec.ofInt_mul]; simp only [ofInt_Bv]
theorem ofInt_neg' {n : Nat} (x : Int) : BitVec.ofInt n (-x) = - BitVec.ofInt n x := by
  apply BitVec.eq_of_toInt_eq
  simp [BitVec.toInt_ofInt, BitVec.toInt_neg]
theorem ofInt_sub' {n : Nat} (x y : Int) : BitVec.ofInt n (x - y) = BitVec.ofInt n x - BitVec.ofInt n y := by
  rw [Int.sub_eq_add_neg, BitVec.ofInt_add, ofInt_neg', BitVec.sub_eq_add_neg]
theorem sub64 (x y : BitVec 64) : IntKind.u64.wrap (Bv x - Bv y) = Bv (x - y) := by rw [u64_wrap, ofInt_sub']; simp only [ofInt_Bv]
theorem neg64 (x : BitVec 64) : IntKind.u64.wrap (- Bv x) = Bv (- x) := by rw [u64_wrap, ofInt_neg']; simp only [ofInt_Bv]
theorem mul64c (x : BitVec 64) (n : Nat) : IntKind.u64.wrap (Bv x * (no_index (OfNat.ofNat n : Int))) = Bv (x * BitVec.ofNat 64 n) := by
  rw [u64_wrap, BitVec.ofInt_mul, ofInt_lit]; simp only [ofInt_Bv]
theorem cmul64 (x : BitVec 64) (n : Nat) : IntKind.u64.wrap ((no_index (OfNat.ofNat n : Int)) * Bv x) = Bv (BitVec.ofNat 64 n * x) := by
  rw [u64_wrap, BitVec.ofInt_mul, ofInt_lit]; simp only [ofInt_Bv]
theorem add64c (x : BitVec 64) (n : Nat) : IntKind.u64.wrap (Bv x + (no_index (OfNat.ofNat n : Int))) = Bv (x + BitVec.ofNat 64 n) := by
  rw [u64_wrap, BitVec.ofInt_add, ofInt_lit]; simp only [ofInt_Bv]
theorem sub64c (x : BitVec 64) (n : Nat) : IntKind.u64.wrap (Bv x - (no_index (OfNat.ofNat n : Int))) = Bv (x - BitVec.ofNat 64 n) := by
  rw [u64_wrap, ofInt_sub', ofInt_lit]; simp only [ofInt_Bv]
theorem csub64 (x : BitVec 64) (n : Nat) : IntKind.u64.wrap ((no_index (OfNat.ofNat n : Int)) - Bv x) = Bv (BitVec.ofNat 64 n - x) := by
  rw [u64_wrap, ofInt_sub', ofInt_lit]; simp only [ofInt_Bv]
theorem add32 (x y : BitVec 32) : IntKind.u32.wrap (Bv x + Bv y) = Bv (x + y) := by rw [u32_wrap, BitVec.ofInt_add]; simp only [ofInt_Bv]
theorem add32c (x : BitVec 32) (n : Nat) : IntKind.u32.wrap (Bv x + (no_index (OfNat.ofNat n : Int))) = Bv (x + BitVec.ofNat 32 n) := by
  rw [u32_wrap, BitVec.ofInt_add, ofInt_lit]; simp only [ofInt_Bv]
theorem mul32 (x y : BitVec 32) : IntKind.u32.wrap (Bv x * Bv y) = Bv (x * y) := by rw [u32_wrap, BitVec.ofInt_mul]; simp only [ofInt_Bv]
theorem mul32c (x : BitVec 32) (n : Nat) : IntKind.u32.wrap (Bv x * (no_index (OfNat.ofNat n : Int))) = Bv (x * BitVec.ofNat 32 n) := by
  rw [u32_wrap, BitVec.ofInt_mul, ofInt_lit]; simp only [ofInt_Bv]
theorem cmul32 (x : BitVec 32) (n : Nat) : IntKind.u32.wrap ((no_index (OfNat.ofNat n : Int)) * Bv x) = Bv (BitVec.ofNat 32 n * x) := by
  rw [u32_wrap, BitVec.ofInt_mul, ofInt_lit]; simp only [ofInt_Bv]
-- shifts
theorem shr_var {m : Nat} (x : BitVec m) (k : Nat) : Bv x / (2 ^ k : Int) = Bv (x >>> k) := by
  unfold Bv
  rw [BitVec.toNat_ushiftRight, Nat.shiftRight_eq_div_pow]
  norm_cast
theorem shr1 {m : Nat} (x : BitVec m) : Bv x / (2 : Int) = Bv (x >>> 1) := shr_var x 1
theorem shr4 {m : Nat} (x : BitVec m) : Bv x / (16 : Int) = Bv (x >>> 4) := shr_var x 4
theorem shr8 {m : Nat} (x : BitVec m) : Bv x / (256 : Int) = Bv (x >>> 8) := shr_var x 8
theorem shr11 {m : Nat} (x : BitVec m) : Bv x / (2048 : Int) = Bv (x >>> 11) := shr_var x 11
theorem shr16 {m : Nat} (x : BitVec m) : Bv x / (65536 : Int) = Bv (x >>> 16) := shr_var x 16
theorem shr24 {m : Nat} (x : BitVec m) : Bv x / (16777216 : Int) = Bv (x >>> 24) := shr_var x 24
theorem shr27 {m : Nat} (x : BitVec m) : Bv x / (134217728 : Int) = Bv (x >>> 27) := shr_var x 27
theorem shr30 {m : Nat} (x : BitVec m) : Bv x / (1073741824 : Int) = Bv (x >>> 30) := shr_var x 30
theorem shr31 {m : Nat} (x : BitVec m) : Bv x / (2147483648 : Int) = Bv (x >>> 31) := shr_var x 31
theorem shr32 {m : Nat} (x : BitVec m) : Bv x / (4294967296 : Int) = Bv (x >>> 32) := shr_var x 32
theorem shr54 {m : Nat} (x : BitVec m) : Bv x / (18014398509481984 : Int) = Bv (x >>> 54) := shr_var x 54
theorem shr60 {m : Nat} (x : BitVec m) : Bv x / (1152921504606846976 : Int) = Bv (x >>> 60) := shr_var x 60
theorem shr62 {m : Nat} (x : BitVec m) : Bv x / (4611686018427387904 : Int) = Bv (x >>> 62) := shr_var x 62
theorem ofInt_pow {m : Nat} (k : Nat) : BitVec.ofInt m ((2 : Int) ^ k) = 1#m <<< k := by
  have e : ((2 : Int) ^ k) = ((2 ^ k : Nat) : Int) := by norm_cast
  rw [e, BitVec.ofInt_natCast]
  apply BitVec.eq_of_toNat_eq
  rw [BitVec.toNat_ofNat, BitVec.toNat_shiftLeft, Nat.shiftLeft_eq, BitVec.toNat_ofNat, Nat.mod_mul_mod, Nat.one_mul]
theorem mul_shl {m : Nat} (x : BitVec m) (k : Nat) : x * (1#m <<< k) = x <<< k := by
  apply BitVec.eq_of_toNat_eq
  rw [BitVec.toNat_mul, BitVec.toNat_shiftLeft, BitVec.toNat_shiftLeft, Nat.shiftLeft_eq, Nat.shiftLeft_eq, BitVec.toNat_ofNat, Nat.mul_mod_mod, ← Nat.mul_assoc, ← Nat.mod_mul_mod, Nat.mul_mod_mod, Nat.mul_one, Nat.mod_mul_mod]
theorem shl64 (x : BitVec 64) (k : Nat) : IntKind.u64.wrap (Bv x * 2 ^ k) = Bv (x <<< k) := by
  rw [u64_wrap, BitVec.ofInt_mul, ofInt_pow, ofInt_Bv, mul_shl]
theorem one_shl64 (k : Nat) : IntKind.u64.wrap (2 ^ k) = Bv (1#64 <<< k) := by rw [u64_wrap, ofInt_pow]
theorem shl32 (x : BitVec 32) (k : Nat) : IntKind.u32.wrap (Bv x * 2 ^ k) = Bv (x <<< k) := by
  rw [u32_wrap, BitVec.ofInt_mul, ofInt_pow, ofInt_Bv, mul_shl]
theorem one_shl32 (k : Nat) : IntKind.u32.wrap (2 ^ k) = Bv (1#32 <<< k) := by rw [u32_wrap, ofInt_pow]
-- from kind to kind
theorem to64 {m : Nat} (x : BitVec m) : IntKind.u64.wrap (Bv x) = Bv (x.setWidth 64) := by rw [u64_wrap, ofInt_Bv']
theorem to32 {m : Nat} (x : BitVec m) : IntKind.u32.wrap (Bv x) = Bv (x.setWidth 32) := by rw [u32_wrap, ofInt_Bv']
theorem to8 {m : Nat} (x : BitVec m) : IntKind.u8.wrap (Bv x) = Bv (x.setWidth 8) := by rw [u8_wrap, ofInt_Bv']
-- tests
theorem eqw {n : Nat} (x y : BitVec n) : (Bv x == Bv y) = (x == y) := by
  rw [Bool.eq_iff_iff, beq_iff_eq, beq_iff_eq]; exact Bv_inj
theorem neqw {n : Nat} (x y : BitVec n) : (Bv x != Bv y) = (x != y) := by
  simp only [bne, eqw]
theorem eqc {n : Nat} (x : BitVec n) (c : Nat) (h : c < 2 ^ n) : (Bv x == (no_index (OfNat.ofNat c : Int))) = (x == BitVec.ofNat n c) := by
  rw [← eqw, Bv_ofNat c h]; rfl
theorem nec {n : Nat} (x : BitVec n) (c : Nat) (h : c < 2 ^ n) : (Bv x != (no_index (OfNat.ofNat c : Int))) = (x != BitVec.ofNat n c) := by
  simp only [bne, eqc x c h]
theorem ltw {n : Nat} (x y : BitVec n) : (Bv x < Bv y) = (x < y) := by
  unfold Bv; rw [BitVec.lt_def]; exact propext Int.ofNat_lt
theorem lew {n : Nat} (x y : BitVec n) : (Bv x ≤ Bv y) = (x ≤ y) := by
  unfold Bv; rw [BitVec.le_def]; exact propext Int.ofNat_le
-- quotients and remainders
theorem modw {n : Nat} (x y : BitVec n) : Bv x % Bv y = Bv (x % y) := by
  unfold Bv; rw [BitVec.toNat_umod]; norm_cast
theorem divw {n : Nat} (x y : BitVec n) : Bv x / Bv y = Bv (x / y) := by
  unfold Bv; rw [BitVec.toNat_udiv]; norm_cast
theorem modc {n : Nat} (x : BitVec n) (c : Nat) (h : c < 2 ^ n) : Bv x % (no_index (OfNat.ofNat c : Int)) = Bv (x % BitVec.ofNat n c) := by
  rw [← modw, Bv_ofNat c h]; rfl
theorem divc {n : Nat} (x : BitVec n) (c : Nat) (h : c < 2 ^ n) : Bv x / (no_index (OfNat.ofNat c : Int)) = Bv (x / BitVec.ofNat n c) := by
  rw [← divw, Bv_ofNat c h]; rfl
theorem cmod {n : Nat} (x : BitVec n) (c : Nat) (h : c < 2 ^ n) : (no_index (OfNat.ofNat c : Int)) % Bv x = Bv (BitVec.ofNat n c % x) := by
  rw [← modw, Bv_ofNat c h]; rfl
theorem tmodw {n : Nat} (x y : BitVec n) : (Bv x).tmod (Bv y) = Bv (x % y) := by
  rw [Int.tmod_eq_emod_of_nonneg (Bv_nonneg x), modw]
theorem tmodc {n : Nat} (x : BitVec n) (c : Nat) (h : c < 2 ^ n) : (Bv x).tmod (no_index (OfNat.ofNat c : Int)) = Bv (x % BitVec.ofNat n c) := by
  rw [Int.tmod_eq_emod_of_nonneg (Bv_nonneg x), modc x c h]
theorem ctmod {n : Nat} (x : BitVec n) (c : Nat) (h : c < 2 ^ n) : (no_index (OfNat.ofNat c : Int)).tmod (Bv x) = Bv (BitVec.ofNat n c % x) := by
  have e := cmod x c h
  rw [← e]; exact Int.tmod_eq_emod_of_nonneg (Int.natCast_nonneg c)
theorem wrap_same64 (x : BitVec 64) : IntKind.u64.wrap (Bv x) = Bv x := by rw [u64_wrap, ofInt_Bv]
theorem tdivw64 (x y : BitVec 64) : IntKind.u64.wrap ((Bv x).tdiv (Bv y)) = Bv (x / y) := by
  rw [Int.tdiv_eq_ediv_of_nonneg (Bv_nonneg x), divw, wrap_same64]
theorem tdivc64 (x : BitVec 64) (c : Nat) (h : c < 2 ^ 64) : IntKind.u64.wrap ((Bv x).tdiv (no_index (OfNat.ofNat c : Int))) = Bv (x / BitVec.ofNat 64 c) := by
  rw [Int.tdiv_eq_ediv_of_nonneg (Bv_nonneg x), divc x c h, wrap_same64]
theorem eqz {n : Nat} (x : BitVec n) : (Bv x = 0) = (x = 0#n) := by
  have : (0 : Int) = Bv (0#n) := by unfold Bv; simp
  rw [this, Bv_inj]
/-- a word's number, as an index -/
def tn {n : Nat} (x : BitVec n) : Nat := x.toNat
theorem tn_eq {n : Nat} (x : BitVec n) : tn x = x.toNat := rfl
theorem Bv_tn {n : Nat} (x : BitVec n) : (Bv x).toNat = tn x := rfl
theorem Bv_is_tn {n : Nat} (x : BitVec n) : Bv x = (tn x : Int) := rfl
attribute [irreducible] tn
attribute [go_sem] add32c Bv_tn
attribute [go_sem] tmodw tmodc ctmod tdivw64 tdivc64 eqz
attribute [go_sem] xor64 and64 or64 xor32 and32 or32 xor8 xor64c and64c or64c xor32c and32c or32c add64 mul64 sub64 neg64 mul64c cmul64 add64c sub64c csub64 add32 mul32 mul32c cmul32
  shr_var shr1 shr4 shr8 shr11 shr16 shr24 shr27 shr30 shr31 shr32 shr54 shr60 shr62 shl64 one_shl64 shl32 one_shl32 to64 to32 to8 eqw neqw eqc nec
end Go.Proofs.Ytjcbmlpfpcpakaa
