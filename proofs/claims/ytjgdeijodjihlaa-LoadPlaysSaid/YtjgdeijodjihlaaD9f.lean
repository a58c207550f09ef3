/- Layer 9 (load): a meter behind a script. -/
import Derived.Test.YtjgdeijodjihlaaD9e
namespace Go.Proofs.Ytjgdeijodjihlaa
open Go.RowKit
set_option linter.unusedVariables false

def runM : Mt → Int → List Sc → Mt × Int
  | m, c, [] => (m, c)
  | m, c, o :: r => runM (setP m o).2 (if (setP m o).1 = true then o.now else c) r
theorem runM_nil (m : Mt) (c : Int) : runM m c [] = (m, c) := rfl
theorem runM_cons (m : Mt) (c : Int) (o : Sc) (r : List Sc) : runM m c (o :: r) = runM (setP m o).2 (if (setP m o).1 = true then o.now else c) r := rfl
theorem new_fit (n h : Int) (w : World) (hf : fitB n h = true) : Calls Try.prog 16 #[ci n, ci h] w fun e w' =>
    ∃ g lb, e = .returned (.tuple #[.pointer (some ⟨g, 0, none⟩), ci 0]) ∧ w.heap.size ≤ g ∧ w.heap.size ≤ lb ∧ MB w' g lb (newM n.toNat h.toNat) ∧ Ext w w' :=
  (new_calls n h w).mono fun e w' H => by
    rcases H with ⟨h1, _⟩ | ⟨_, h2⟩
    · rw [hf] at h1; cases h1
    · exact h2
theorem new_bad (n h : Int) (w : World) (hf : fitB n h = false) : Calls Try.prog 16 #[ci n, ci h] w fun e w' => e = .returned (.tuple #[.pointer none, ci 2]) ∧ w = w' :=
  (new_calls n h w).mono fun e w' H => by
    rcases H with ⟨_, h1, h2⟩ | ⟨h2, _⟩
    · exact ⟨h1, h2⟩
    · rw [hf] at h2; cases h2
theorem made_bad (n h : Int) (sv : Value) (w : World) (hf : fitB n h = false) : Calls Try.prog 10 #[ci n, ci h, sv] w fun e w' => e = .returned (.tuple #[.pointer none, ci 0]) ∧ w = w' := by
  have H := Lib.hid (new_bad n h w hf)
  have HN := Lib.hid num_calls
  clear hf
  go_enter Try.func10, Try.ntmps10
  go_wp2_with (first
    | (go_at_call 16; refine H.out.mono ?_; clear H; rintro e w1 ⟨rfl, rfl⟩)
    | (go_at_call 13; refine (HN.out _ _).mono ?_; rintro e w2 ⟨rfl, rfl⟩)
    | fail)
  go_ret2
  exact ⟨rfl, rfl⟩
set_option maxHeartbeats 2000000 in
theorem made_fit (n h : Int) (sv : Value) (l : List Sc) (w : World) (hf : fitB n h = true) (hs : RdS w sv l) (hl : l.length ≤ 9223372036854775807) : Calls Try.prog 10 #[ci n, ci h, sv] w fun e w' =>
    ∃ g lb, e = .returned (.tuple #[.pointer (some ⟨g, 0, none⟩), ci (runM (newM n.toNat h.toNat) 0 l).2]) ∧ w.heap.size ≤ g ∧ w.heap.size ≤ lb ∧ MB w' g lb (runM (newM n.toNat h.toNat) 0 l).1 ∧ Ext w w' := by
  have hl' : (l.length : Int) ≤ 9223372036854775807 := by omega
  have H := Lib.hid (new_fit n h w hf)
  have HN := Lib.hid num_calls
  obtain ⟨R, hR⟩ : ∃ R, runM (newM n.toNat h.toNat) 0 l = R := ⟨_, rfl⟩
  have HR := Lib.hid hR
  obtain ⟨m0, hm0⟩ : ∃ m0, newM n.toNat h.toNat = m0 := ⟨_, rfl⟩
  rw [hm0] at H HR
  rw [hR]
  have hs1 := hs
  obtain ⟨ad, c, rfl, hat⟩ := hs1.at
  have HS := Lib.hid hs
  clear hf hs hl hR hm0 hat hs1
  go_enter Try.func10, Try.ntmps10
  go_wp2_with (first
    | (go_at_call 16; refine H.out.mono ?_; clear H; rintro e w1 ⟨g, lb, rfl, h1, h2, h3, h4⟩
       have LO := Lib.hid (And.intro h1 h2)
       have M1 := Lib.hid h3
       have E1 := Lib.hid h4
       clear h1 h2 h3 h4)
    | (go_at_call 13; refine (HN.out _ _).mono ?_; rintro e w2 ⟨rfl, rfl⟩)
    | fail)
  go_loopw [10, 11] (fun cv iv wx => ∃ (k : Nat) (m : Mt) (z : Int), k ≤ l.length ∧ iv = .int .i64 k ∧ cv = ci z ∧ Hid (MB wx g lb m ∧ Ext w wx ∧ runM m z (l.drop k) = R)) (fun _ iv _ => (l.length - (intOf iv).toNat))
  case atStart => exact ⟨0, m0, 0, by omega, rfl, rfl, M1.out, E1.out, by rw [List.drop_zero]; exact HR.out⟩
  case round =>
    clear M1 E1 HR
    obtain ⟨k, m, z, hk, rfl, rfl, hT⟩ := hrel
    by_cases hlt : k < l.length
    · have hrd := HS.out.ext hT.out.2.1
      obtain ⟨ad2, c2, hv, hcells⟩ := hrd.at
      injection hv with hv1 hv2 hv3
      subst hv1
      obtain ⟨b, o, rfl, a0, a1, a2, a3, a4⟩ := hcells k hlt
      have hst := hT.out.2.2
      rw [dropcons hlt, runM_cons] at hst
      have H18 := Lib.hid (fun q => set_calls g lb m q wr hT.out.1)
      have hb4 : b < wr.heap.size := World.block_lt_of_cell? wr _ a3
      have hbW : b < w.heap.size := by
        obtain ⟨ad3, c3, hv', hcells'⟩ := HS.out.at
        injection hv' with hv1' hv2' hv3'
        obtain ⟨b', o', hq, _, _, _, q3, _⟩ := hcells' k hlt
        rw [← hv1'] at hq
        have := World.block_lt_of_cell? w _ q3
        injection hq with hq
        injection hq with hq
        subst hq
        exact this
      have NB := Lib.hid (show b ≠ g ∧ b ≠ lb from ⟨by have := LO.out.1; omega, by have := LO.out.2; omega⟩)
      clear hrd hcells hv2 hv3 hb4 hbW
      generalize l[k] = q at *
      have H18 := Lib.hid (H18.out q)
      obtain ⟨kd, who, s, t, x⟩ := q
      simp only at a0 a1 a2 a3 a4
      obtain ⟨S, hS⟩ : ∃ S, setP m ⟨kd, who, s, t, x⟩ = S := ⟨_, rfl⟩
      rw [hS] at H18 hst
      obtain ⟨ok, m'⟩ := S
      simp only at H18 hst
      have HST := Lib.hid hst
      have EX := Lib.hid hT.out.2.1
      clear hS hst hT
      cases ok with
      | true =>
        go_wp2_with (first
          | (go_at_call 18; refine H18.out.mono ?_; clear H18; rintro e w3 ⟨rfl, k1, k2⟩
             have K1 := Lib.hid k1
             have E3 := Lib.hid (EX.out.grw2 k2 LO.out.1 LO.out.2)
             have y3 : w3.cell? ⟨b, o + k * 5 + 3, none⟩ = some (ci t) := by
               have hlt' := World.block_lt_of_cell? wr _ a3
               unfold World.cell? at a3 ⊢
               rw [k2.block b hlt' NB.out.1 NB.out.2]
               exact a3
             clear k1 k2)
          | fail)
        go_roundw
        case measure => simp only [intOf]; omega
        case rel => exact ⟨k + 1, m', t, by omega, by go_num, rfl, K1.out, E3.out, by have := HST.out; simpa using this⟩
      | false =>
        go_wp2_with (first
          | (go_at_call 18; refine H18.out.mono ?_; clear H18; rintro e w3 ⟨rfl, k1, k2⟩
             have K1 := Lib.hid k1
             have E3 := Lib.hid (EX.out.grw2 k2 LO.out.1 LO.out.2)
             clear k1 k2)
          | fail)
        go_roundw
        case measure => simp only [intOf]; omega
        case rel => exact ⟨k + 1, m', z, by omega, by go_num, rfl, K1.out, E3.out, by have := HST.out; simpa using this⟩
    · obtain rfl : l.length = k := by omega
      have hz : Hid ((m, z) = R) := by have := hT.out.2.2; rw [List.drop_length, runM_nil] at this; exact this
      have F := Lib.hid (And.intro hT.out.1 hT.out.2.1)
      clear hT
      go_wp2_with fail
      go_ret2
      exact ⟨g, lb, by rw [← hz.out]; rfl, LO.out.1, LO.out.2, by rw [← hz.out]; exact F.out.1, F.out.2⟩
end Go.Proofs.Ytjgdeijodjihlaa
