/- Layer 25 (balance): floats lent, kept, compared. -/
import Derived.Test.YtkpjnikmcojdlaaB25b
import Derived.Test.YtkpjnikmcojdlaaFlt
namespace Go.Proofs.Ytkpjnikmcojdlaa
open Go.RowKit
set_option linter.unusedVariables false

abbrev cf (n : Nat) : Value := .float .f64 n
theorem cf_one (a : Nat) : (cf a).oneCell' = true := rfl
theorem Try.u36 : Try.prog.underlying 36 = some (.slice 48) := by kernel_rfl
theorem Try.info48 : (Try.prog.info? 48).map (fun i => (i.zero, i.size, i.bytes)) = some (some (.float .f64 0), 1, 8) := by kernel_rfl
theorem frombits (n : Int) (w : World) : (callFunc 37 #[.int .u64 n]).run Try.prog w = .ok (.value (cf n.toNat)) w := by kernel_rfl
theorem tobits (n : Nat) (w : World) : (callFunc 40 #[cf n]).run Try.prog w = .ok (.value (.int .u64 n)) w := by kernel_rfl
theorem run_store_float {P : Program} {w : World} {a : Addr} {m : Mode} (k : FloatKind) (n : Nat) : (store a (.float k n) m).run P w = stored P w a (.float k n) m := run_store P w a _ m rfl
attribute [go_sem] run_store_float
/-- the words of these reals -/
def bitsOf (l : List (BitVec 64)) : List Nat := l.map BitVec.toNat
set_option maxHeartbeats 1000000 in
theorem floats_calls (sv : Value) (l : List (BitVec 64)) (w : World) (hl : Rd w cw sv l) (hm : l.length * 8 ≤ 140737488351232) :
    Calls Try.prog 18 #[sv] w fun e w' => ∃ g c, e = .returned (.slice (some ⟨g, 0, none⟩) l.length c) ∧ l.length + 1 ≤ c ∧ c ≤ maxLen ∧ w.heap.size ≤ g ∧ Own w' w.heap.size 48 cf (.slice (some ⟨g, 0, none⟩) (l.length + 1) c) (bitsOf l ++ [13842939354630062080]) ∧ HasRow w' cf 48 g (bitsOf l ++ [13842939354630062080]) ∧ Ext w w' := by
  obtain ⟨i48, j1, j2, j3, j4⟩ := info_parts Try.info48
  have hz : i48.zero = some (cf 0) := j2
  have hfb : ∀ (x : BitVec 64) (w : World), (callFunc 37 #[cw x]).run Try.prog w = .ok (.value (cf x.toNat)) w := fun x w => frombits (Bv x) w
  obtain ⟨ad, c, rfl, hat⟩ := hl.at
  have HA := Lib.hid hat
  have hm' : (l.length : Int) ≤ 17592186043904 := by omega
  have HM := Lib.hid hm
  clear hat hl hm
  go_enter Try.func18, Try.ntmps18
  go_wp2_with fail
  go_loopw [3, 4] (fun nv iv wr => ∃ (k : Nat), k ≤ l.length ∧ iv = .int .i64 k ∧ Hid (Own wr w.heap.size 48 cf nv ((bitsOf l).take k) ∧ Ext w wr)) (fun _ iv _ => (l.length - (intOf iv).toNat))
  case atStart => exact ⟨0, by omega, rfl, by rw [List.take_zero]; exact ⟨Own.nil, Ext.refl _⟩⟩
  case round =>
    obtain ⟨k, hk, rfl, hT⟩ := hrel
    have hbl : (bitsOf l).length = l.length := by unfold bitsOf; simp
    by_cases hlt : k < l.length
    · obtain ⟨b, o, rfl, hci⟩ := HA.out k hlt
      have hcw := hT.out.2.cell hci
      have htk : Hid ((bitsOf l).take (k + 1) = (bitsOf l).take k ++ [(l[k]).toNat]) := by
        show _ = _
        rw [List.take_add_one, List.getElem?_eq_getElem (by rw [hbl]; exact hlt)]
        simp [bitsOf]
      generalize l[k] = x at *
      clear hci
      have O1 := Lib.hid ((Ext.of_alloc (w := wr) (.cells #[cf x.toNat] 48)).own hT.out.1)
      have X1 : Hid ((wr.alloc (.cells #[cf x.toNat] 48)).cell? ⟨wr.heap.size, 0, none⟩ = some (cf x.toNat)) := by show _ = _; rw [World.cell?_alloc_new]; rfl
      have S1 := Lib.hid ((hT.out.2.alloc (.cells #[cf x.toNat] 48)).size)
      have B1 : Hid ((((bitsOf l).take k).length + 1) * 8 ≤ 140737488355328) := by show _ ≤ _; rw [List.length_take, hbl]; have := HM.out; omega
      have M1 : Hid (((bitsOf l).take k).length + 1 ≤ 9223372036854775807) := by show _ ≤ _; rw [List.length_take, hbl]; have := HM.out; omega
      clear hbl
      go_wp2_with (first
        | (at_builtin; refine wpList_append_one cf rfl (.tmp 11) (.tmp 17) 36 rfl w.heap.size 48 i48 (cf 0) 8 Try.u36 j1 hz j3 j4 rfl _ ((bitsOf l).take k) rfl O1.out wr.heap.size 1 _ rfl X1.out rfl B1.out M1.out S1.out ?_
           intro nv' w3 ho3 hg3 hb3
           have P3 := Lib.hid (And.intro ho3 ((hT.out.2.alloc (.cells #[cf x.toNat] 48)).grown hg3 (fun k hk => (O1.out.lt k hk).1)))
           clear ho3 hg3 hb3 O1 X1 S1 B1 M1)
        | fail)
      go_roundw
      case measure => simp only [intOf]; omega
      case rel => exact ⟨k + 1, by omega, by go_num, by rw [htk.out]; exact P3.out⟩
    · obtain rfl : l.length = k := by omega
      have hT2 := hT.out
      rw [List.take_of_length_le (by rw [hbl]; exact Nat.le_refl _)] at hT2
      have HB := Lib.hid hbl
      have O1 := Lib.hid ((Ext.of_alloc (w := wr) (.cells #[cf 13842939354630062080] 48)).own hT2.1)
      have X1 : Hid ((wr.alloc (.cells #[cf 13842939354630062080] 48)).cell? ⟨wr.heap.size, 0, none⟩ = some (cf 13842939354630062080)) := by show _ = _; rw [World.cell?_alloc_new]; rfl
      have S1 := Lib.hid ((hT2.2.alloc (.cells #[cf 13842939354630062080] 48)).size)
      have B1 : Hid (((bitsOf l).length + 1) * 8 ≤ 140737488355328) := by show _ ≤ _; rw [hbl]; have := HM.out; omega
      have M1 : Hid ((bitsOf l).length + 1 ≤ 9223372036854775807) := by show _ ≤ _; rw [hbl]; have := HM.out; omega
      have E1 := Lib.hid hT2.2
      clear hbl hk hlt hT hT2
      go_wp2_with (first
        | (at_builtin; refine wpList_append_one cf rfl (.tmp 19) (.tmp 20) 36 rfl w.heap.size 48 i48 (cf 0) 8 Try.u36 j1 hz j3 j4 rfl _ (bitsOf l) rfl O1.out wr.heap.size 1 _ rfl X1.out rfl B1.out M1.out S1.out ?_
           intro nv' w3 ho3 hg3 hb3
           have E3 := Lib.hid ((E1.out.alloc (.cells #[cf 13842939354630062080] 48)).grown hg3 (fun k hk => (O1.out.lt k hk).1))
           obtain ⟨g, cc, hv, hB, hr, hcc, hcm⟩ := ho3.has (by simp)
           simp only [List.length_append, List.length_singleton, HB.out] at hv hcc
           subst hv
           have P := Lib.hid (And.intro hB (And.intro ho3 hr))
           have HC := Lib.hid (And.intro hcc hcm)
           have hc1 : (l.length : Int) ≤ cc := by omega
           have hc2 : (cc : Int) ≤ 9223372036854775807 := by simp only [maxLen] at hcm; omega
           clear ho3 hg3 hb3 hB hr hcc hcm O1 X1 S1 B1 M1)
        | fail)
      go_ret
      exact ⟨g, cc, rfl, HC.out.1, HC.out.2, P.out.1, P.out.2.1, P.out.2.2, E3.out⟩
theorem bitsOf_len (l : List (BitVec 64)) : (bitsOf l).length = l.length := by unfold bitsOf; simp
theorem keptFloats_calls (g c : Nat) (sv : Value) (l : List (BitVec 64)) (w : World) (hg : HasRow w cf 48 g (bitsOf l ++ [13842939354630062080])) (hc : l.length + 1 ≤ c) (hcm : c ≤ maxLen) (hl : Rd w cw sv l) :
    Calls Try.prog 20 #[.slice (some ⟨g, 0, none⟩) l.length c, sv] w fun e w' => e = .returned (.bool true) ∧ ∃ n, w.drewN n = w' := by
  have htb := tobits
  have hne : (FloatKind.f64.format.order 13842939354630062080 13842939354630062080 != some .eq) = false := by kernel_rfl
  obtain ⟨ad, c', rfl, hat⟩ := hl.at
  have HA := Lib.hid hat
  have hlast : w.cell? ⟨g, l.length, none⟩ = some (cf 13842939354630062080) := by
    have h := hg.cell l.length (by simp [bitsOf_len])
    rw [h]; simp [bitsOf_len]
  have HG : Hid (∀ i, (hi : i < l.length) → w.cell? ⟨g, i, none⟩ = some (cf (l[i]).toNat)) := fun i hi => by
    rw [hg.cell i (by simp [bitsOf_len]; omega), List.getElem_append_left (by rw [bitsOf_len]; exact hi)]
    simp [bitsOf]
  have hc1 : (l.length : Int) + 1 ≤ c := by omega
  have hc2 : (c : Int) ≤ 9223372036854775807 := by simp only [maxLen] at hcm; omega
  have hlm' : (l.length : Int) + 1 ≤ 9223372036854775807 := by omega
  clear hat hl hg hc hcm
  go_enter Try.func20, Try.ntmps20
  go_wp2_with fail
  go_loopw [6] (fun i wr => ∃ (k n : Nat), k ≤ l.length ∧ i = .int .i64 k ∧ wr = w.drewN n) (fun i _ => (l.length - (intOf i).toNat))
  case atStart => exact ⟨0, 0, by omega, rfl, rfl⟩
  case round =>
    obtain ⟨k, n, hk, rfl, rfl⟩ := hrel
    by_cases hlt : k < l.length
    · obtain ⟨b, o, rfl, h1⟩ := HA.out k hlt
      have h2 := HG.out k hlt
      generalize l[k] = x at *
      have hbv : ((x.toNat : Int) != Bv x) = false := by unfold Bv; simp
      go_wp2_with fail
      go_quiet (fail)
      go_wp2_with fail
      go_roundw
      case measure => simp only [intOf]; omega
      case rel => exact ⟨k + 1, _, by omega, by go_num, rfl⟩
    · obtain rfl : l.length = k := by omega
      go_wp2_with fail
      go_ret
      exact ⟨rfl, _, rfl⟩
theorem sameFloats_calls (sa sb : Value) (l : List Nat) (w : World) (ha : Rd w cf sa l) (hb : Rd w cf sb l) (hl : l.length ≤ 9223372036854775807) :
    Calls Try.prog 21 #[sa, sb] w fun e w' => e = .returned (.bool true) ∧ ∃ n, w.drewN n = w' := by
  have htb := tobits
  have hl' : (l.length : Int) ≤ 9223372036854775807 := by omega
  clear hl
  obtain ⟨ad, c, rfl, hA⟩ := ha.at
  obtain ⟨bd, d, rfl, hB⟩ := hb.at
  have HA := Lib.hid hA
  have HB := Lib.hid hB
  clear ha hb hA hB
  go_enter Try.func21, Try.ntmps21
  go_wp2_with fail
  go_loopw [5] (fun i wr => ∃ (k n : Nat), k ≤ l.length ∧ i = .int .i64 k ∧ wr = w.drewN n) (fun i _ => (l.length - (intOf i).toNat))
  case atStart => exact ⟨0, 0, by omega, rfl, rfl⟩
  case round =>
    obtain ⟨k, n, hk, rfl, rfl⟩ := hrel
    by_cases hlt : k < l.length
    · obtain ⟨b1, o1, rfl, h1⟩ := HA.out k hlt
      obtain ⟨b2, o2, rfl, h2⟩ := HB.out k hlt
      generalize l[k] = x at *
      have hyy : ((x : Int) != (x : Int)) = false := by simp
      go_wp2_with fail
      go_quiet (fail)
      go_wp2_with fail
      go_roundw
      case measure => simp only [intOf]; omega
      case rel => exact ⟨k + 1, _, by omega, by go_num, rfl⟩
    · obtain rfl : l.length = k := by omega
      go_wp2_with fail
      go_ret
      exact ⟨rfl, _, rfl⟩
end Go.Proofs.Ytkpjnikmcojdlaa
