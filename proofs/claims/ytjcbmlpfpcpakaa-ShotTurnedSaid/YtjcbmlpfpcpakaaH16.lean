/- Layer 12 (shot): Open and Save over a disk without a fuse; the chapter's own snapshot. -/
import Derived.Test.YtjcbmlpfpcpakaaH14
namespace Go.Proofs.Ytjcbmlpfpcpakaa
open Go Go.RowKit
set_option linter.unusedVariables false
set_option linter.unusedSimpArgs false
theorem Own.blk0 {w : World} {B : Nat} {v : Value} {l : By} (h : Own w B 5 cb v l) : ∀ b, v.ownBlock = some b → ∃ c, Blk w b c 5 := fun b hb => by
  rcases h.2 with hn | ⟨g, cap, cur, hv, hB, hg, rest⟩
  · rw [hn.1] at hb; cases hb
  · rw [hv] at hb; injection hb with hb; subst hb; exact ⟨cur, hg⟩
theorem Own.caps {w : World} {B : Nat} {v : Value} {l : By} (h : Own w B 5 cb v l) : ∀ a n c, v = .slice a n c → n ≤ c := fun a n c e => by
  rcases h.2 with hn | ⟨g, cap, cur, hv, hB, hg, hle, rest⟩
  · rw [hn.1] at e; injection e with _ e2 e3; omega
  · rw [hv] at e; injection e with _ e2 e3; omega
theorem newD_read {n j : Nat} (hj : j < n) : (newD n).read j = zer 64 := by
  show ((List.replicate (64 * n) 0#8).drop (64 * j)).take 64 = zer 64
  unfold zer
  rw [List.drop_replicate, List.take_replicate]
  congr 1
  omega
theorem newD_cl {n : Nat} (h1 : 1 ≤ n) (h2 : n ≤ 65536) : Cl (newD n) := ⟨newD_ok h1 h2, rfl⟩
theorem newD_sn {n fr size : Nat} (h1 : 1 ≤ size) (h : fr + 2 * size ≤ n) : Sn (newD n) fr size 0 [] [] := Sn.zero (newD_read (by omega)) (newD_read (by omega)) []
section
variable {w0 w : World} {g sb o fr size gen : Nat} {d : Dk} {last prev : By}
theorem open_sn (h : DX w0 w g sb d) (c : Cl d) (s : Sn d fr size gen last prev) (h2 : 2 ≤ size) (hs : size ≤ 65536) (hr : fr + 2 * size ≤ d.n) :
    Calls Try.prog 48 #[.pointer (some ⟨g, 0, none⟩), ci fr, ci size] w fun e w' => ∃ sv, e = .returned (.tuple #[.pointer (some ⟨w.heap.size + 1 + 1 + 1, 0, none⟩), sv, ci 0]) ∧ Ext w w' ∧ Blk w' (w.heap.size + 1 + 1 + 1) (sc g fr size gen false) 143 ∧ Sp w' 5 cb sv last ∧ (∀ q, sv.ownBlock = some q → w.heap.size + 4 ≤ q) := by
  have h1 := open_ok h fr size c.pow h2 hs hr
  rw [s.open] at h1
  exact h1
theorem save_sn (h : DX w0 w g sb d) (k : Blk w o (sc g fr size gen false) 143) (h0o : w0.heap.size ≤ o) (c : Cl d) (hR : d.R = []) (s : Sn d fr size gen last prev) (dv : Value) (data : By) (hrd : Rd w cb dv data) (hcap : ∀ a n c, dv = .slice a n c → n ≤ c) (hdv : ∀ b, dv.ownBlock = some b → ∃ c, Blk w b c 5)
    (hl : data.length ≤ 64 * (size - 1)) (hg : gen < 1099511627776) (h2 : 2 ≤ size) (hs : size ≤ 65536) (hr : fr + 2 * size ≤ d.n) :
    Calls Try.prog 50 #[.pointer (some ⟨o, 0, none⟩), dv] w fun e w' => e = .returned (ci 0) ∧ ∃ d', Saved d d' (slotN fr size (gen + 1)) (gen + 1) data ∧ DX w0 w' g sb d' ∧ Blk w' o (sc g fr size (gen + 1) false) 143 ∧ Kz g sb o w w' ∧ Sn d' fr size (gen + 1) data last := by
  obtain ⟨c1, k1⟩ := h.gb
  obtain ⟨c2, k2⟩ := h.sbb
  have hat : slotN fr size (gen + 1) + size ≤ d.n := by unfold slotN; split <;> omega
  obtain ⟨d', e', sv⟩ := save_clean c (gen := gen + 1) (show 1 ≤ size by omega) hat hl
  refine (save_ok h k h0o dv data hrd hcap (fun b hb => ?_) hl hg h2 hs hr (by rw [hR]; simp)).mono ?_
  · obtain ⟨cc, kb⟩ := hdv b hb
    exact ⟨cc, 5, kb, kb.ne k1 (by decide), kb.ne k2 (by decide), by decide⟩
  · rw [e']
    rintro e w' ⟨rfl, q1, q2, q3⟩
    exact ⟨rfl, d', sv, q1, q2, q3, s.save h2 hs hg hr hl sv⟩
end
def b123 : By := [1#8, 2#8, 3#8]
theorem b123_len : b123.length = 3 := rfl
theorem V_b123 : V cb b123 = #[.int .u8 1, .int .u8 2, .int .u8 3] := by unfold V; rfl
attribute [irreducible] b123
set_option maxRecDepth 100000 in
set_option maxHeartbeats 2000000 in
theorem known12_calls (w : World) : Calls Try.prog 45 #[] w fun e w' => e = .returned (.bool true) ∧ Ext w w' := by
  obtain ⟨d0, hd0⟩ : ∃ d, newD 8 = d := ⟨_, rfl⟩
  have hn : d0.n = 8 := by rw [← hd0]; rfl
  have hR : d0.R = [] := by rw [← hd0]; rfl
  have hC : Cl d0 := by rw [← hd0]; exact newD_cl (by omega) (by omega)
  have hS : Sn d0 0 4 0 [] [] := by rw [← hd0]; exact newD_sn (by omega) (by omega)
  have HN := Lib.hid hn
  have HR := Lib.hid hR
  have HC := Lib.hid hC
  have HS := Lib.hid hS
  have HD := Lib.hid hd0
  clear hn hR hC hS hd0
  go_enter Try.func45, Try.ntmps45
  go_upto_region 7 with (first
    | (go_at_call 24; refine (DX.make (n := 8) (by decide) (by decide) w (Ext.refl w)).mono ?_
       rw [HD.out]
       rintro e w1 ⟨rfl, h1, _⟩
       have P1 := Lib.hid h1
       have n1 := Lib.hid h1.e.size
       clear h1)
    | (go_at_call 47; refine (num12_calls 0 _).mono ?_; rintro e w9 ⟨rfl, rfl⟩)
    | (go_at_call 48; refine (open_sn P1.out HC.out HS.out (by decide) (by decide) (by rw [HN.out]; decide)).mono ?_
       rintro e w2 ⟨sv, rfl, x, b, s, _⟩
       have P2 := Lib.hid (P1.out.ext x)
       have B2 := Lib.hid b
       have h0o : w.heap.size ≤ w1.heap.size + 1 + 1 + 1 := by have := n1.out; omega
       have H0 := Lib.hid h0o
       obtain ⟨sa, scp, rfl⟩ := s.shape
       clear x b s P1 h0o)
    | (go_at_call 52; refine (sgen_calls B2.out).mono ?_; rintro e w9 ⟨rfl, rfl⟩)
    | (go_at_call 56; refine (smost_calls B2.out (by decide) (by decide)).mono ?_; rintro e w9 ⟨rfl, rfl⟩)
    | fail)
  have hx : Ext w2 (w2.alloc (.cells (V cb b123) 5)) := Ext.of_alloc _
  have hbn := Blk.new w2 (V cb b123) 5
  have hrd : Rd (w2.alloc (.cells (V cb b123) 5)) cb (.slice (some ⟨w2.heap.size, 0, none⟩) 3 3) b123 := hbn.rdv b123_len.symm
  have hsv := save_sn (P2.out.ext hx) (B2.out.ext hx) H0.out HC.out HR.out HS.out (.slice (some ⟨w2.heap.size, 0, none⟩) 3 3) b123 hrd (fun a n c e => by injection e with _ e2 e3; omega) (fun b hb => by injection hb with hb; subst hb; exact ⟨_, hbn⟩) (by rw [b123_len]; decide) (by decide) (by decide) (by decide) (by rw [HN.out]; decide)
  rw [V_b123] at hsv
  have HSV := Lib.hid hsv
  clear hx hbn hrd hsv
  go_upto_region 9 with (first
    | (go_at_call 50; refine HSV.out.mono ?_
       rintro e w3 ⟨rfl, d1, sv1, h3, k3, _, s3⟩
       have P3 := Lib.hid h3
       have S3 := Lib.hid s3
       have V3 := Lib.hid sv1
       clear h3 k3 s3 sv1 HSV P2 B2)
    | (go_at_call 48; refine (open_sn P3.out V3.out.cl S3.out (by decide) (by decide) (by rw [V3.out.n, HN.out]; decide)).mono ?_
       rintro e w4 ⟨sv, rfl, x, b, s, _⟩
       have P4 := Lib.hid (P3.out.ext x)
       have B4 := Lib.hid b
       obtain ⟨sa4, sc4, rfl⟩ := s.shape
       have Q4 := Lib.hid s.rd
       rw [b123_len] at Q4 ⊢
       clear x b s P3)
    | fail)
  have hx5 : Ext w4 (w4.alloc (.cells (V cb b123) 5)) := Ext.of_alloc _
  have hsm := same12_calls (.slice sa4 3 sc4) (.slice (some ⟨w4.heap.size, 0, none⟩) 3 3) b123 b123 (w4.alloc (.cells (V cb b123) 5)) (hx5.rd Q4.out) ((Blk.new w4 (V cb b123) 5).rdv b123_len.symm) (by rw [b123_len]; decide) (by rw [b123_len]; decide)
  rw [decide_eq_true rfl, V_b123] at hsm
  have HX5 := Lib.hid hx5
  rw [V_b123] at HX5
  have HSM := Lib.hid hsm
  have hpd : d1.R.length = 0 := by rw [V3.out.r]; rfl
  have HPD := Lib.hid hpd
  clear hx5 hsm hpd
  go_wp2_with (first
    | (go_at_call 47; refine (num12_calls 0 _).mono ?_; rintro e w9 ⟨rfl, rfl⟩)
    | (go_at_call 52; refine (sgen_calls B4.out).mono ?_; rintro e w9 ⟨rfl, rfl⟩)
    | (go_at_call 51; refine HSM.out.mono ?_; rintro e w5 ⟨rfl, n5, rfl⟩
       have P5 := Lib.hid ((P4.out.ext HX5.out).drewN n5))
    | (go_at_call 30; refine (P5.out.pending).mono ?_; rw [HPD.out]; rintro e w9 ⟨rfl, rfl⟩)
    | fail)
  go_ret
  exact ⟨rfl, P5.out.e⟩
end Go.Proofs.Ytjcbmlpfpcpakaa
namespace Go.Proofs.Ytjcbmlpfpcpakaa
open Go Go.RowKit
set_option linter.unusedVariables false
set_option linter.unusedSimpArgs false
set_option maxRecDepth 100000 in
set_option maxHeartbeats 400000 in
theorem slots_calls (a b : Int) (ha : -9223372036854775808 ≤ a) (ha' : a ≤ 9223372036854775807) (hb : -9223372036854775808 ≤ b) (hb' : b ≤ 9223372036854775807) (fr sz : Nat) (h1 : a % 9 = fr) (h2 : b % 30 + 2 = sz) (w : World) :
    Calls Try.prog 53 #[ci a, ci b] w fun e w' => ∃ o, e = .returned (.tuple #[.pointer (some ⟨w.heap.size + 1, 0, none⟩), .pointer (some ⟨o, 0, none⟩), ci sz]) ∧ DX w w' (w.heap.size + 1) w.heap.size (newD (fr + 2 * sz + 3)) ∧ Blk w' o (sc (w.heap.size + 1) fr sz 0 false) 143 ∧ w.heap.size ≤ o ∧ Ext w w' := by
  have hf : fr < 9 := by omega
  have hs2 : 2 ≤ sz := by omega
  have hs : sz < 32 := by omega
  have HP1 := Lib.hid (fun w => place12_calls a 9 ha ha' (by omega) (by omega) w)
  have HP2 := Lib.hid (fun w => place12_calls b 30 hb hb' (by omega) (by omega) w)
  obtain ⟨b2, hb2⟩ : ∃ b2 : Nat, b % 30 = b2 := ⟨(b % 30).toNat, by omega⟩
  have HB2 := Lib.hid hb2
  rw [h1] at HP1
  rw [hb2] at HP2
  have hsz : sz = b2 + 2 := by omega
  subst hsz
  obtain ⟨n, hn⟩ : ∃ n, fr + 2 * (b2 + 2) + 3 = n := ⟨_, rfl⟩
  have hn1 : (fr : Int) + 2 * (2 + (b2 : Int)) + 3 = n := by omega
  obtain ⟨d0, hd0⟩ : ∃ d, newD n = d := ⟨_, rfl⟩
  have hdn : d0.n = n := by rw [← hd0]; rfl
  have HC : Hid (Cl d0) := Lib.hid (by rw [← hd0]; exact newD_cl (by omega) (by omega))
  have HS : Hid (Sn d0 fr (b2 + 2) 0 [] []) := Lib.hid (by rw [← hd0]; exact newD_sn (by omega) (by omega))
  have HN : Hid (n ≤ 65536 ∧ 1 ≤ n ∧ fr + 2 * (b2 + 2) ≤ d0.n) := Lib.hid (by omega)
  have HM := Lib.hid (DX.make (n := n) HN.out.2.1 HN.out.1 w (Ext.refl w))
  have HO := Lib.hid (fun w1 (P1 : DX w w1 (w.heap.size + 1) w.heap.size d0) => open_sn (size := b2 + 2) P1 HC.out HS.out (by omega) (by omega) HN.out.2.2)
  have hn3 : (n : Int) < 100 := by omega
  have e2 : (2 : Int) + (b2 : Int) = ((b2 + 2 : Nat) : Int) := by omega
  have hb30 : b2 < 30 := by omega
  rw [← e2] at HO
  rw [← hn1] at HM
  rw [hn]
  rw [hd0] at HM ⊢
  have HSZ : Hid (2 ≤ b2 + 2 ∧ b2 + 2 ≤ 65536) := Lib.hid (by omega)
  clear HB2 hb2 h1 h2 ha ha' hb hb' hn hdn hd0 hs hs2 e2 hn1 hn3
  go_enter Try.func53, Try.ntmps53
  go_upto_region 2 with (first
    | (go_at_call 46; first
        | (refine (HP1.out _).mono ?_; rintro e w9 ⟨rfl, rfl⟩; clear HP1)
        | (refine (HP2.out _).mono ?_; rintro e w9 ⟨rfl, rfl⟩))
    | fail)
  go_upto_region 5 with (first
    | (go_at_call 24; refine HM.out.mono ?_
       rintro e w1 ⟨rfl, p1, _⟩
       have P1 := Lib.hid p1
       have N1 := Lib.hid p1.e.size
       clear p1 HM)
    | (go_at_call 47; refine (num12_calls 0 _).mono ?_; rintro e w9 ⟨rfl, rfl⟩)
    | fail)
  go_wp2_with (first
    | (go_at_call 47; refine (num12_calls 0 _).mono ?_; rintro e w9 ⟨rfl, rfl⟩)
    | (go_at_call 48; refine (HO.out _ P1.out).mono ?_
       rintro e w2 ⟨sv, rfl, x, b, s, _⟩
       have P2 := Lib.hid (P1.out.ext x)
       have B2 := Lib.hid b
       have X2 := Lib.hid x
       clear x b s)
    | fail)
  go_ret3
  refine ⟨_, ?_, P2.out, B2.out, (by have := N1.out; omega), P2.out.e⟩
  rw [show ((b2 + 2 : Nat) : Int) = 2 + (b2 : Int) from by omega]
  rfl
end Go.Proofs.Ytjcbmlpfpcpakaa
