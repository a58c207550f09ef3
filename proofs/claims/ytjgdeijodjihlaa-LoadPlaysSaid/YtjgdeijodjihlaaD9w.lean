/- Layer 9 (load): the rhythm. -/
import Derived.Test.YtjgdeijodjihlaaD9h
import Derived.Test.YtjgdeijodjihlaaFlb
namespace Go.Proofs.Ytjgdeijodjihlaa
open Go.RowKit
open Ieee
set_option linter.unusedVariables false

theorem MB.grown' {w w' : World} {g lb : Nat} {m : Mt} {row : Option Nat} (h : MB w g lb m) (k : w.grownBy w' row) (h1 : some g ≠ row) (h2 : some lb ≠ row) : MB w' g lb m := ⟨h.b.grown k h1, h.l.grown k h2, h.ok⟩
abbrev cx (p : Nat × Nat) : Value := .complex .f64 p.1 p.2
theorem cx_one (p : Nat × Nat) : (cx p).oneCell' = true := rfl
/-- the real part of a turn; its imaginary part is that of the turn two behind it -/
def tre : Nat → Nat
  | 0 => 4607182418800017408
  | 1 => 4604544271217802189
  | 2 => 0
  | 3 => 13827916308072577997
  | 4 => 13830554455654793216
  | 5 => 13827916308072577997
  | 6 => 0
  | _ => 4604544271217802189
theorem tre_bd (n : Nat) : bd 0 (tre n) := by
  unfold tre bd
  split <;> exact ⟨by omega, by omega⟩
theorem turn_calls (n : Nat) (w : World) (hn : n ≤ 49) : Calls Try.prog 33 #[ci n] w fun e w' => e = .returned (cx (tre (n % 8), tre ((n + 6) % 8))) ∧ w = w' := by
  have hb : (n : Int) ≤ 49 := by omega
  obtain ⟨r, hr⟩ : ∃ r, n % 8 = r := ⟨_, rfl⟩
  have hi : (n + 6) % 8 = (r + 6) % 8 := by omega
  have hm : Int.tmod (n : Int) 8 = (r : Int) := by rw [Int.tmod_eq_emod_of_nonneg (by omega)]; omega
  have hlt : r < 8 := by omega
  rw [hr, hi]
  clear hr hi
  match r, hlt with
  | 0, _ =>
    go_enter Try.func33, Try.ntmps33
    go_wp2_with fail
    go_ret
    exact ⟨rfl, rfl⟩
  | 1, _ =>
    go_enter Try.func33, Try.ntmps33
    go_wp2_with fail
    go_ret
    exact ⟨rfl, rfl⟩
  | 2, _ =>
    go_enter Try.func33, Try.ntmps33
    go_wp2_with fail
    go_ret
    exact ⟨rfl, rfl⟩
  | 3, _ =>
    go_enter Try.func33, Try.ntmps33
    go_wp2_with fail
    go_ret
    exact ⟨rfl, rfl⟩
  | 4, _ =>
    go_enter Try.func33, Try.ntmps33
    go_wp2_with fail
    go_ret
    exact ⟨rfl, rfl⟩
  | 5, _ =>
    go_enter Try.func33, Try.ntmps33
    go_wp2_with fail
    go_ret
    exact ⟨rfl, rfl⟩
  | 6, _ =>
    go_enter Try.func33, Try.ntmps33
    go_wp2_with fail
    go_ret
    exact ⟨rfl, rfl⟩
  | 7, _ =>
    go_enter Try.func33, Try.ntmps33
    go_wp2_with fail
    go_ret
    exact ⟨rfl, rfl⟩
def fml (x y : Nat) : Nat := (floatBits .mul .f64 x y).getD 0
theorem fml_bd {j k x y : Nat} (hx : bd j x) (hy : bd k y) (h : j + k ≤ 1023) : floatBits .mul .f64 x y = some (fml x y) ∧ bd (j + k) (fml x y) := by
  obtain ⟨z, hz, hb⟩ := bd_mul hx hy h
  unfold fml
  rw [hz]
  exact ⟨rfl, hb⟩
theorem fadd_bd {k x y : Nat} (hx : bd k x) (hy : bd k y) (h : k + 1 ≤ 1023) : floatBits .add .f64 x y = some (fadd x y) ∧ bd (k + 1) (fadd x y) := by
  obtain ⟨z, hz, hb⟩ := bd_add hx hy h
  unfold fadd
  rw [hz]
  exact ⟨rfl, hb⟩
def wst (v n : Nat) (p : Nat × Nat) : Nat × Nat := (fadd p.1 (fml v (tre (n % 8))), fadd p.2 (fml v (tre ((n + 6) % 8))))
def wvF (k : Nat) : Nat → Nat × Nat → List Nat → Nat × Nat
  | t, p, [] => p
  | t, p, v :: r => wvF k (t + 1) (wst v (k * t) p) r
theorem wvF_nil (k t : Nat) (p : Nat × Nat) : wvF k t p [] = p := rfl
theorem wvF_cons (k t : Nat) (p : Nat × Nat) (v : Nat) (r : List Nat) : wvF k t p (v :: r) = wvF k (t + 1) (wst v (k * t) p) r := rfl
/-- one step: no operation is invalid -/
theorem wst_bd {v n t : Nat} {p : Nat × Nat} (hv : bd 83 v) (h1 : bd (83 + t) p.1) (h2 : bd (83 + t) p.2) (ht : t ≤ 8) :
    floatBits .mul .f64 v (tre (n % 8)) = some (fml v (tre (n % 8))) ∧ floatBits .mul .f64 v (tre ((n + 6) % 8)) = some (fml v (tre ((n + 6) % 8))) ∧
      cSumBits .add .f64 p.1 p.2 (fml v (tre (n % 8))) (fml v (tre ((n + 6) % 8))) = some (wst v n p) ∧ bd (83 + (t + 1)) (wst v n p).1 ∧ bd (83 + (t + 1)) (wst v n p).2 := by
  obtain ⟨a1, a2⟩ := fml_bd hv (tre_bd (n % 8)) (by omega)
  obtain ⟨b1, b2⟩ := fml_bd hv (tre_bd ((n + 6) % 8)) (by omega)
  obtain ⟨c1, c2⟩ := fadd_bd h1 (bd_mono a2 (by omega)) (by omega)
  obtain ⟨d1, d2⟩ := fadd_bd h2 (bd_mono b2 (by omega)) (by omega)
  refine ⟨a1, b1, ?_, c2, d2⟩
  unfold cSumBits wst
  rw [c1, d1]
  rfl
theorem wvF_bd (k : Nat) : ∀ (l : List Nat) (t : Nat) (p : Nat × Nat), (∀ v ∈ l, bd 83 v) → bd (83 + t) p.1 → bd (83 + t) p.2 → t + l.length ≤ 8 → bd 91 (wvF k t p l).1 ∧ bd 91 (wvF k t p l).2
  | [], t, p, _, h1, h2, ht => ⟨bd_mono h1 (by simp at ht; omega), bd_mono h2 (by simp at ht; omega)⟩
  | v :: r, t, p, hl, h1, h2, ht => by
    rw [wvF_cons]
    simp only [List.length_cons] at ht
    obtain ⟨_, _, _, c1, c2⟩ := wst_bd (n := k * t) (hl v (by simp)) h1 h2 (by omega)
    exact wvF_bd k r (t + 1) _ (fun x hx => hl x (by simp [hx])) c1 c2 (by omega)
theorem bd_zero (k : Nat) : bd k 0 := ⟨by omega, by omega⟩
def wave (win : List Nat) : List (Nat × Nat) := (List.range 8).map fun k => wvF k 0 (0, 0) win
theorem wave_bd (win : List Nat) (hw : ∀ v ∈ win, bd 83 v) (h8 : win.length = 8) : ∀ p ∈ wave win, bd 91 p.1 ∧ bd 91 p.2 := fun p hp => by
  obtain ⟨k, _, rfl⟩ := List.mem_map.1 hp
  exact wvF_bd k win 0 _ hw (bd_zero _) (bd_zero _) (by omega)
attribute [irreducible] fml wst wvF tre
end Go.Proofs.Ytjgdeijodjihlaa
