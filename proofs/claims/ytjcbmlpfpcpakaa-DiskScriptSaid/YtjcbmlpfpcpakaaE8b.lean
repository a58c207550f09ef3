/- Layer 8 (disk), the document's disk: made, loaded, its image; a write carried out. -/
import Derived.Test.YtjcbmlpfpcpakaaE8a
import Derived.Test.YtjcbmlpfpcpakaaD8y
import Derived.IntWalk
namespace Go.Proofs.Ytjcbmlpfpcpakaa
open Go.RowKit
set_option linter.unusedVariables false
/-- the first bytes of a write, carried out -/
def carS (S : List (BitVec 8)) (s : Nat) (l : List (BitVec 8)) (c : Nat) : List (BitVec 8) := S.take (64 * s) ++ l.take c ++ S.drop (64 * s + c)
theorem carS_len {S l : List (BitVec 8)} {n s c : Nat} (h : S.length = 64 * n) (hs : s < n) (hl : l.length = 64) (hc : c ≤ 64) : (carS S s l c).length = 64 * n := by
  unfold carS
  rw [List.length_append, List.length_append, List.length_take, List.length_take, List.length_drop]
  omega
theorem carS_zero (S l : List (BitVec 8)) (s : Nat) : carS S s l 0 = S := by
  unfold carS
  rw [List.take_zero, List.append_nil, Nat.add_zero, List.take_append_drop]
theorem carS_step {S l : List (BitVec 8)} {n s k : Nat} (h : S.length = 64 * n) (hs : s < n) (hl : l.length = 64) (hk : k < 64) : (carS S s l k).set (64 * s + k) (l[k]'(by omega)) = carS S s l (k + 1) := by
  have h1 : (S.take (64 * s) ++ l.take k).length = 64 * s + k := by rw [List.length_append, List.length_take, List.length_take]; omega
  unfold carS
  rw [List.set_append_right _ _ (by omega), h1, Nat.sub_self, List.drop_eq_getElem_cons (by omega), List.set_cons_zero, show l.take (k + 1) = l.take k ++ [l[k]'(by omega)] from List.take_succ_eq_append_getElem (by omega)]
  simp only [List.append_assoc, List.cons_append, List.nil_append, Nat.add_assoc]
theorem carS_full (S l : List (BitVec 8)) (s : Nat) (hl : l.length = 64) : carS S s l 64 = putS S s l := by
  unfold carS putS
  rw [show l.take 64 = l from List.take_of_length_le (by omega)]
theorem carS_torn {S : List (BitVec 8)} {n : Nat} {p : Nat × List (BitVec 8)} {c : Nat} (hS : S.length = 64 * n) (hp : p.1 < n) (hl : p.2.length = 64) (hc : c ≤ 64) : carS S p.1 p.2 c = putS S p.1 (tornP S p c) := (putS_torn hS hp hl hc).symm
section
variable {w w' : World} {B g sb sc n : Nat} {pv : Value} {E : List We} {S : List (BitVec 8)} {left made synced : Int}
theorem RB.ne (h : RB w B g sb sc pv E n S left made synced) : g ≠ sb := by
  rintro rfl
  obtain ⟨cur, h1, _⟩ := h.s.blk
  exact absurd (Blk.type h.b h1) (by decide)
theorem RB.put (h : RB w B g sb sc pv E n S left made synced) (i : Nat) (y : BitVec 8) (hi : i < 64 * n) : RB (w.setCell ⟨sb, i, none⟩ (cb y)) B g sb sc pv E n (S.set i y) left made synced := by
  have hgr := grown_set w sb i (cb y)
  have hne := h.ne
  obtain ⟨cs, hs1, _⟩ := h.s.blk
  refine ⟨h.b.grown hgr (fun e => hne (Option.some.inj e)), h.s.set i y (by rw [h.sl]; exact hi), by rw [List.length_set]; exact h.sl, h.n1, h.n2, ?_, fun x hx => ⟨⟨?_, (h.e x hx).1.l⟩, (h.e x hx).2⟩⟩
  · refine row_far h.p fun k hk hlt => hgr.block k hlt (fun e => ?_)
    have := Option.some.inj e
    subst this
    exact ownsRow_type h.p hs1 (by decide) hk
  · obtain ⟨g', c, h1, h2, h3, h4⟩ := (h.e x hx).1.v
    exact ⟨g', c, h1, h2.grown hgr (fun e => h4 (Option.some.inj e)), h3, h4⟩
set_option maxRecDepth 100000 in
set_option maxHeartbeats 2000000 in
theorem carry_calls (h : RB w B g sb sc pv E n S left made synced) (x : We) (hx : x ∈ E) (c : Nat) (hc : c ≤ 64) :
    Calls Try.prog 140 #[.pointer (some ⟨g, 0, none⟩), .agg #[ci x.s, x.v], ci c] w fun e w' => e = .returned (.tuple #[]) ∧ RB w' B g sb sc pv E n (carS S x.s x.l c) left made synced ∧ Only w w' (· = sb) := by
  obtain ⟨g', c', hv, _, _, hgs⟩ := (h.e x hx).1.v
  have hxs := (h.e x hx).2
  have hxl := (h.e x hx).1.l
  have hn2 := h.n2
  have hsl := h.sl
  have hsc := h.lim
  obtain ⟨xs, xv, xl⟩ := x
  simp only at hv hxs hxl
  subst hv
  have HX := Lib.hid hx
  have HH := Lib.hid h
  have HSL := Lib.hid hsl
  have HXL := Lib.hid hxl
  have hxs' : (xs : Int) < n := by omega
  have hn2' : (n : Int) ≤ 65536 := by omega
  have hc' : (c : Int) ≤ 64 := by omega
  have hscm : (sc : Int) ≤ 9223372036854775807 := by have := hsc.1; unfold maxLen at this; omega
  have hsc2 : 64 * (n : Int) ≤ sc := by have := hsc.2; omega
  clear h hx hsl hxl hsc
  go_enter Try.func140, Try.ntmps140
  go_wp2_with fail
  have HI : Hid (RB (w.alloc (.cells #[ci xs, .slice (some ⟨g', 0, none⟩) 64 c'] 175)) B g sb sc pv E n (carS S xs xl 0) left made synced ∧ Blk (w.alloc (.cells #[ci xs, .slice (some ⟨g', 0, none⟩) 64 c'] 175)) w.heap.size #[ci xs, .slice (some ⟨g', 0, none⟩) 64 c'] 175 ∧ Only w (w.alloc (.cells #[ci xs, .slice (some ⟨g', 0, none⟩) 64 c'] 175)) (· = sb)) :=
    ⟨by rw [carS_zero]; exact HH.out.ext (Ext.of_alloc _), Blk.new w _ 175, (Ext.of_alloc _).only⟩
  clear HH
  generalize w.alloc (.cells #[ci xs, .slice (some ⟨g', 0, none⟩) 64 c'] 175) = w1 at *
  generalize w.heap.size = bx at *
  go_loopw [6] (fun iv wx => ∃ k : Nat, k ≤ c ∧ iv = ci k ∧ Hid (RB wx B g sb sc pv E n (carS S xs xl k) left made synced ∧ Blk wx bx #[ci xs, .slice (some ⟨g', 0, none⟩) 64 c'] 175 ∧ Only w wx (· = sb))) (fun iv _ => ((c : Int) - intOf iv).toNat)
  case atStart => exact ⟨0, Nat.zero_le _, rfl, HI.out⟩
  case round =>
    clear HI
    obtain ⟨k, hk, rfl, hU⟩ := hrel
    by_cases hlt : k < c
    · have hlt' : (k : Int) < c := by omega
      have c0 : wr.cell? ⟨g, 0, none⟩ = some (.slice (some ⟨sb, 0, none⟩) (64 * n) sc) := hU.out.1.b.cell 0
      have b0 : wr.cell? ⟨bx, 0, none⟩ = some (ci xs) := hU.out.2.1.cell 0
      have b1 : wr.cell? ⟨bx, 1, none⟩ = some (.slice (some ⟨g', 0, none⟩) 64 c') := hU.out.2.1.cell 1
      obtain ⟨gq, cq, hvq, hsq, _, hgq⟩ := (hU.out.1.e _ HX.out).1.v
      injection hvq with hvq _ hvc
      injection hvq with hvq
      injection hvq with hvq _ _
      subst hvq hvc
      have hkl : k < xl.length := by rw [HXL.out]; omega
      have d0 : wr.cell? ⟨g', k, none⟩ = some (cb (xl[k]'hkl)) := hsq.cell k hkl
      have hkk : 64 * xs + k < (carS S xs xl k).length := by rw [hU.out.1.sl]; omega
      obtain ⟨y, hy⟩ : ∃ y, wr.cell? ⟨sb, 64 * xs + k, none⟩ = some (cb y) := ⟨_, hU.out.1.s.cell _ hkk⟩
      have hf := hU.out.1.s.free (64 * xs + k)
      have HS := Lib.hid (hU.out.1.put (64 * xs + k) (xl[k]'hkl) (by omega))
      rw [carS_step HSL.out (by omega) HXL.out (by omega)] at HS
      have HB : Hid (∀ z, Blk (wr.setCell ⟨sb, 64 * xs + k, none⟩ (cb z)) bx #[ci xs, .slice (some ⟨g', 0, none⟩) 64 c'] 175 ∧ Only w (wr.setCell ⟨sb, 64 * xs + k, none⟩ (cb z)) (· = sb)) := fun z => by
        obtain ⟨cs, hs1, _⟩ := hU.out.1.s.blk
        exact ⟨hU.out.2.1.far _ (fun e => by have e : bx = sb := e; subst e; exact absurd (Blk.type hU.out.2.1 hs1) (by decide)) _, hU.out.2.2.trans (only_set _ _ _ _ rfl)⟩
      generalize xl[k]'hkl = z at *
      have h1 : (64 * (xs : Int) + k).toNat = 64 * xs + k := by omega
      have h2 : 64 * (xs : Int) + k < 64 * n := by omega
      have hw1 : IntKind.i64.wrap (64 * (xs : Int)) = 64 * (xs : Int) := IntWalk.i64_in _ (by omega)
      have hw2 : IntKind.i64.wrap (64 * (xs : Int) + k) = 64 * (xs : Int) + k := IntWalk.i64_in _ (by omega)
      clear hkl hkk hsq hgq hU
      go_wp2_with fail
      go_region
      go_wp2_with fail
      go_roundw
      case measure => simp only [intOf]; omega
      case rel => exact ⟨k + 1, hlt, by go_num, Lib.hid ⟨HS.out.ext ((Ext.refl _).drew), (HB.out _).1, (HB.out _).2.drew⟩⟩
    · obtain rfl : k = c := by omega
      go_wp2_with fail
      go_end0
      exact ⟨rfl, hU.out.1, hU.out.2.2⟩
end
end Go.Proofs.Ytjcbmlpfpcpakaa
