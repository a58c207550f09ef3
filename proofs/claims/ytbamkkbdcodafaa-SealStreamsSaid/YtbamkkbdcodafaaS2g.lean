/- The walks of layer 2 (seal): what is asked of a list. -/
import Derived.Test.YtbamkkbdcodafaaS2f
import Derived.Test.YtbamkkbdcodafaaP2a
namespace Go.Proofs.Ytbamkkbdcodafaa
open Go.RowKit
set_option linter.unusedVariables false

/-- a new row of one slice -/
theorem Rds.one {w : World} {sv : Value} {p : List (BitVec 8)} (h : Rd w cb sv p) (hm : p.length ≤ 9223372036854775807) : Rds (w.alloc (.cells #[sv] 23)) (.slice (some ⟨w.heap.size, 0, none⟩) 1 1) [p] := by
  refine ⟨[sv], Or.inr ⟨_, 0, _, _, rfl, rfl, by simp, fun i hi => ?_⟩, rfl, fun i hi hj => ?_⟩
  · obtain rfl : i = 0 := by simpa using hi
    rw [World.cell?_alloc_new]; rfl
  · obtain rfl : i = 0 := by simpa using hi
    exact ⟨h.alloc, hm⟩
theorem asked_calls (lv sv : Value) (p : List (BitVec 8)) (mk : BitVec 64) (w : World) (hl : Rd w cb lv p) (hp : Rd w cb sv p) (hm : p.length ≤ 9223372036854775807) :
    Calls Try.prog 20 #[lv, sv, cw mk] w fun e w' => e = .returned (.bool true) ∧ Ext w w' := by
  have hl1 := hl
  have hp1 := hp
  obtain ⟨ad, c, rfl, hat⟩ := hl1.at
  obtain ⟨ad2, c2, rfl, hat2⟩ := hp1.at
  clear hat hat2 hl1 hp1
  have H1 := Lib.hid (rcrc_calls _ p w hp hm)
  have H2 := Lib.hid (rfnv_calls _ [p] _ (Rds.one hp hm) (by simp))
  have H3 := Lib.hid (rback_calls mk _ p _ (hp.alloc (ob := .cells #[.slice ad2 p.length c2] 23)) hm)
  have H4 := Lib.hid (crc_calls _ p _ (hl.alloc (ob := .cells #[.slice ad2 p.length c2] 23)) hm)
  have hcs := crc_same p
  have HE := Lib.hid (Ext.of_alloc (w := w) (.cells #[.slice ad2 p.length c2] 23))
  have HL := Lib.hid hl
  generalize hT : ~~~ tkn 0xFFFFFFFF#32 p = T at *
  generalize hR : rtk 0xFFFFFFFF#32 p ^^^ 0xFFFFFFFF#32 = R at *
  subst hcs
  generalize hF : fnvs off0 [p] = F at *
  generalize hB : bck mk p = B at *
  have HF := Lib.hid hF
  have HB := Lib.hid hB
  clear hT hR hF hB hl hp
  have k1 : (Bv T == Bv T) = true := by simp
  have k2 : (Bv F == Bv F) = true := by simp
  have k3 : (Bv B == Bv B) = true := by simp
  have hm' : (p.length : Int) ≤ 9223372036854775807 := by omega
  have HM := Lib.hid hm
  clear hm
  go_enter Try.func20, Try.ntmps20
  go_wp2_with (first
    | (go_at_call 23; refine H1.out.mono ?_; rintro e w' ⟨rfl, rfl⟩)
    | (go_at_call 13; refine H2.out.mono ?_; rintro e w' ⟨rfl, rfl⟩)
    | (go_at_call 35; refine H3.out.mono ?_; rintro e w' ⟨rfl, rfl⟩)
    | (go_at_call 19; refine H4.out.mono ?_; rintro e w' ⟨rfl, hx⟩
       have e1 : Ext w w' := HE.out.trans hx
       have H5 := Lib.hid (fnv_calls _ [p] _ (Rds.one (e1.rd HL.out) HM.out) (by simp))
       have H6 := Lib.hid (back_calls mk _ p _ ((e1.rd HL.out).alloc (ob := .cells #[.slice ad p.length c] 23)) HM.out)
       have e2 := Lib.hid (e1.alloc (.cells #[.slice ad p.length c] 23))
       rw [HF.out] at H5
       rw [HB.out] at H6
       clear hx e1)
    | (go_at_call 14; refine H5.out.mono ?_; rintro e w' ⟨rfl, rfl⟩)
    | (go_at_call 32; refine H6.out.mono ?_; rintro e w' ⟨rfl, rfl⟩)
    | fail)
  go_ret
  exact ⟨rfl, e2.out⟩
end Go.Proofs.Ytbamkkbdcodafaa
