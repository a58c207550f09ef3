/- Layer 8 (disk): the disk that the document names. -/
import Derived.Test.YtjcbmlpfpcpakaaD8m
namespace Go.Proofs.Ytjcbmlpfpcpakaa
open Go.RowKit
set_option linter.unusedVariables false
def s7 : List (BitVec 8) := List.replicate 64 7#8
def s8 : List (BitVec 8) := List.replicate 64 8#8
def s0 : List (BitVec 8) := List.replicate 64 0#8
def K1 : Dk := newD 4
def K2 : Dk := writeD K1 1 s7
def K3 : Dk := crashD K2 [] (-1) 0
def K4 : Dk := writeD K3 1 s7
def K5 : Dk := writeD K4 1 s8
def K6 : Dk := crashD K5 [true] 1 3
theorem K2_read : K2.read 1 = s7 := by decide +kernel
theorem K2_S : K2.S = List.replicate 256 0#8 := by decide +kernel
theorem K3_read : K3.read 1 = s0 := by decide +kernel
theorem K6_read : K6.read 1 = List.replicate 3 8#8 ++ List.replicate 61 7#8 := by decide +kernel
theorem K1_p : powP K1 = 0 := by decide +kernel
theorem K2_p : powP K2 = 0 := by decide +kernel
theorem K3_p : powP K3 = 0 := by decide +kernel
theorem K4_p : powP K4 = 0 := by decide +kernel
theorem K6_p : powP K6 = 0 := by decide +kernel
theorem K_n : K1.n = 4 ∧ K2.n = 4 ∧ K3.n = 4 ∧ K4.n = 4 ∧ K6.n = 4 := by decide +kernel
theorem K_R : K1.R.length = 0 ∧ K2.R.length = 1 ∧ K3.R.length = 0 ∧ K4.R.length = 1 := by decide +kernel
theorem s_len : s7.length = 64 ∧ s8.length = 64 ∧ s0.length = 64 := by decide +kernel
theorem K_eq : newD 4 = K1 ∧ writeD K1 1 s7 = K2 ∧ crashD K2 [] (-1) 0 = K3 ∧ writeD K3 1 s7 = K4 ∧ writeD K4 1 s8 = K5 ∧ crashD K5 [true] 1 3 = K6 := ⟨rfl, rfl, rfl, rfl, rfl, rfl⟩
theorem s_eq : List.replicate 64 7#8 = s7 ∧ List.replicate 64 8#8 = s8 ∧ List.replicate 64 0#8 = s0 := ⟨rfl, rfl, rfl⟩
attribute [irreducible] K1 K2 K3 K4 K5 K6 s7 s8 s0
theorem DX.slt {w0 w : World} {g sb : Nat} {d : Dk} (h : DX w0 w g sb d) : sb < w.heap.size := by obtain ⟨rv, k⟩ := h.d; exact k.s.lt
theorem full_at (x : BitVec 8) (l : List (BitVec 8)) (hl : List.replicate 64 x = l) (w : World) : Calls Try.prog 43 #[cb x] w fun e w' => e = .returned (.slice (some ⟨w.heap.size, 0, none⟩) 64 64) ∧ Blk w' w.heap.size (V cb l) 5 ∧ Ext w w' := by
  subst hl
  exact full_calls x w
theorem Blk.rdv {w : World} {b : Nat} {l : List (BitVec 8)} {t : TypeId} (h : Blk w b (V cb l) t) {n c : Nat} (hn : n = l.length) : Rd w cb (.slice (some ⟨b, 0, none⟩) n c) l := by
  have h' : Blk w b (V cb (l ++ [])) t := by rw [List.append_nil]; exact h
  exact Blk.rd h' hn
set_option maxRecDepth 100000 in
set_option maxHeartbeats 4000000 in
theorem known_calls (w : World) : Calls Try.prog 23 #[] w fun e w' => e = .returned (.bool true) ∧ Ext w w' := by
  obtain ⟨n1, n2, n3, n4, n6⟩ := K_n
  obtain ⟨r1, r2, r3, r4⟩ := K_R
  obtain ⟨e1, e2, e3, e4, e5, e6⟩ := K_eq
  obtain ⟨t7, t8, t0⟩ := s_eq
  obtain ⟨l7, l8, l0⟩ := s_len
  have N1 := Lib.hid n1
  have N2 := Lib.hid n2
  have N3 := Lib.hid n3
  have N4 := Lib.hid n4
  have N6 := Lib.hid n6
  have R1 := Lib.hid r1
  have R2 := Lib.hid r2
  have R3 := Lib.hid r3
  have R4 := Lib.hid r4
  have E1 := Lib.hid e1
  have E2 := Lib.hid e2
  have E3 := Lib.hid e3
  have E4 := Lib.hid e4
  have E5 := Lib.hid e5
  have E6 := Lib.hid e6
  have T7 := Lib.hid t7
  have T8 := Lib.hid t8
  have T0 := Lib.hid t0
  have L7 := Lib.hid l7
  have L8 := Lib.hid l8
  have L0 := Lib.hid l0
  have hS := Lib.hid K2_S
  clear n1 n2 n3 n4 n6 r1 r2 r3 r4 e1 e2 e3 e4 e5 e6 t7 t8 t0 l7 l8 l0
  go_enter Try.func23, Try.ntmps23
  go_upto_region 4 with (first
    | (go_at_call 24; refine (DX.make (n := 4) (by decide) (by decide) w (Ext.refl w)).mono ?_
       rw [E1.out]
       rintro e w1 ⟨rfl, h1, _⟩
       have P1 := Lib.hid h1
       clear h1)
    | (go_at_call 25; refine (num_calls 0 _).mono ?_; rintro e w9 ⟨rfl, rfl⟩)
    | (go_at_call 38; refine (P1.out.sectors).mono ?_; rw [N1.out]; rintro e w9 ⟨rfl, rfl⟩)
    | fail)
  go_upto_region 8 with (first
    | (go_at_call 43; have hq := P1.out; clear hq; refine (full_at 7#8 s7 T7.out _).mono ?_
       rintro e p2w ⟨rfl, f, x⟩
       have F2 := Lib.hid f
       have P2 := Lib.hid (P1.out.ext x)
       
       clear f x P1)
    | (go_at_call 27; refine (P2.out.write 1 _ s7 K1_p (by rw [N1.out]; decide) L7.out (F2.out.rdv L7.out.symm) (by rw [R1.out]; decide)).mono ?_
       rw [E2.out]
       rintro e w3 ⟨rfl, h, _⟩
       have P3 := Lib.hid h
       clear h P2 F2)
    | (go_at_call 33; refine (P3.out.read 1 K2_p (by rw [N2.out]; decide)).mono ?_
       rw [K2_read]
       rintro e w4 ⟨rfl, h, _, b⟩
       have P4 := Lib.hid h
       have B4 := Lib.hid b
       clear h b P3)
    | (go_at_call 25; refine (num_calls 0 _).mono ?_; rintro e w99 ⟨rfl, rfl⟩)
    | (go_at_call 43; have hq := P4.out; clear hq; refine (full_at 7#8 s7 T7.out _).mono ?_
       rintro e p5w ⟨rfl, f, x⟩
       have F5 := Lib.hid f
       have P5 := Lib.hid (P4.out.ext x)
       have B5 := Lib.hid (B4.out.ext x)
       clear f x P4)
    | (go_at_call 34; refine (same_calls _ _ s7 s7 _ (B5.out.rdv L7.out.symm) (F5.out.rdv L7.out.symm) (by rw [L7.out]; decide) (by rw [L7.out]; decide)).mono ?_
       rw [decide_eq_true rfl]
       rintro e w6 ⟨rfl, n6, rfl⟩
       have P6 := Lib.hid (P5.out.drewN n6)
       clear P5 B5 F5)
    | (go_at_call 30; refine (P6.out.pending).mono ?_; rw [R2.out]; rintro e w99 ⟨rfl, rfl⟩)
    | (go_at_call 31; refine (P6.out.image).mono ?_
       rw [hS.out]
       rintro e w7 ⟨v, rfl, h, _, o⟩
       have P7 := Lib.hid h
       obtain ⟨qa, ca, rfl, _⟩ := o.form
       rw [List.length_replicate]
       clear h o P6)
    | (go_at_call 31; refine (P7.out.image).mono ?_
       rw [hS.out]
       rintro e w8 ⟨v, rfl, h, _, o⟩
       have P8 := Lib.hid h
       obtain ⟨qb, cb', rfl, ho⟩ := o.form
       obtain ⟨gb, rfl, _, _, hc, _⟩ := ho 64 (by simp)
       rw [List.getElem_replicate] at hc
       rw [List.length_replicate]
       clear h o ho P7)
    | fail)
  clear hc
  go_upto_region 12 with (first
    | (go_at_call 32; refine (P8.out.crash (.slice none 0 0) [] (-1) 0 (Or.inl ⟨_, _, rfl, rfl, fun _ => rfl⟩) (by decide) (Or.inl rfl)).mono ?_
       rw [E3.out]
       rintro e w9 ⟨rfl, h, _⟩
       have P9 := Lib.hid h
       clear h P8)
    | (go_at_call 33; refine (P9.out.read 1 K3_p (by rw [N3.out]; decide)).mono ?_
       rw [K3_read]
       rintro e w10 ⟨rfl, h, _, b⟩
       have P10 := Lib.hid h
       have B10 := Lib.hid b
       clear h b P9)
    | (go_at_call 25; refine (num_calls 0 _).mono ?_; rintro e w99 ⟨rfl, rfl⟩)
    | (go_at_call 43; have hq := P10.out; clear hq; refine (full_at 0#8 s0 T0.out _).mono ?_
       rintro e p11w ⟨rfl, f, x⟩
       have F11 := Lib.hid f
       have P11 := Lib.hid (P10.out.ext x)
       have B11 := Lib.hid (B10.out.ext x)
       clear f x P10)
    | (go_at_call 34; refine (same_calls _ _ s0 s0 _ (B11.out.rdv L0.out.symm) (F11.out.rdv L0.out.symm) (by rw [L0.out]; decide) (by rw [L0.out]; decide)).mono ?_
       rw [decide_eq_true rfl]
       rintro e w12 ⟨rfl, n12, rfl⟩
       have P12 := Lib.hid (P11.out.drewN n12)
       clear P11 B11 F11)
    | (go_at_call 30; refine (P12.out.pending).mono ?_; rw [R3.out]; rintro e w99 ⟨rfl, rfl⟩)
    | fail)
  go_upto_region 14 with (first
    | (go_at_call 43; have hq := P12.out; clear hq; refine (full_at 7#8 s7 T7.out _).mono ?_
       rintro e p13w ⟨rfl, f, x⟩
       have F13 := Lib.hid f
       have P13 := Lib.hid (P12.out.ext x)
       
       clear f x P12)
    | (go_at_call 27; refine (P13.out.write 1 _ s7 K3_p (by rw [N3.out]; decide) L7.out (F13.out.rdv L7.out.symm) (by rw [R3.out]; decide)).mono ?_
       rw [E4.out]
       rintro e w14 ⟨rfl, h, _⟩
       have P14 := Lib.hid h
       clear h P13 F13)
    | (go_at_call 43; have hq := P14.out; clear hq; refine (full_at 8#8 s8 T8.out _).mono ?_
       rintro e p15w ⟨rfl, f, x⟩
       have F15 := Lib.hid f
       have P15 := Lib.hid (P14.out.ext x)
       
       clear f x P14)
    | (go_at_call 27; refine (P15.out.write 1 _ s8 K4_p (by rw [N4.out]; decide) L8.out (F15.out.rdv L8.out.symm) (by rw [R4.out]; decide)).mono ?_
       rw [E5.out]
       rintro e w16 ⟨rfl, h, _⟩
       have P16 := Lib.hid h
       clear h P15 F15)
    | fail)
  have hsz := P16.out.slt
  have hrd : Rd (w16.alloc (.cells #[.bool true] 4)) Value.bool (.slice (some ⟨w16.heap.size, 0, none⟩) 1 1) [true] := by
    refine Or.inr ⟨_, _, _, _, rfl, rfl, by decide, fun i hi => ?_⟩
    have : i = 0 := by simpa using hi
    subst this
    exact (Blk.new w16 #[.bool true] 4).cell 0
  have HR := Lib.hid hrd
  have P17 := Lib.hid (P16.out.ext (Ext.of_alloc (.cells #[.bool true] 4)))
  clear hrd P16
  go_upto_region 16 with (first
    | (go_at_call 32; refine (P17.out.crash _ [true] 1 3 HR.out (by decide) (Or.inr (fun h => by have := Option.some.inj h; simp only at this; omega))).mono ?_
       rw [E6.out]
       rintro e w18 ⟨rfl, h, _⟩
       have P18 := Lib.hid h
       clear h P17 HR hsz)
    | (go_at_call 33; refine (P18.out.read 1 K6_p (by rw [N6.out]; decide)).mono ?_
       rw [K6_read]
       rintro e w19 ⟨rfl, h, _, b⟩
       have P19 := Lib.hid h
       have c2 : w19.cell? ⟨w18.heap.size, 2, none⟩ = some (.int .u8 8) := by rw [b.cell, V_get]; rfl
       have c3 : w19.cell? ⟨w18.heap.size, 3, none⟩ = some (.int .u8 7) := by rw [b.cell, V_get]; rfl
       have c63 : w19.cell? ⟨w18.heap.size, 63, none⟩ = some (.int .u8 7) := by rw [b.cell, V_get]; rfl
       clear h b P18)
    | fail)
  go_wp2_with (first | (go_at_call 25; refine (num_calls 0 _).mono ?_; rintro e w99 ⟨rfl, rfl⟩) | fail)
  go_ret
  exact ⟨rfl, P19.out.e⟩
end Go.Proofs.Ytjcbmlpfpcpakaa
