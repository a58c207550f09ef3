/- Layer 7 (dice): lists compared, floats lent, weights picked. -/
import Derived.Test.YtaneknfhilfalaaD7d
import Derived.Test.YtaneknfhilfalaaGen
import Derived.Test.YtaneknfhilfalaaFly
namespace Go.Proofs.Ytaneknfhilfalaa
open Go.RowKit
set_option linter.unusedVariables false

theorem Rd.at {α : Type} {w : World} {f : α → Value} {v : Value} {l : List α} (h : Rd w f v l) : ∃ ad c, v = .slice ad l.length c ∧ ∀ i, (hi : i < l.length) → ∃ b o, ad = some ⟨b, o, none⟩ ∧ w.cell? ⟨b, o + i, none⟩ = some (f l[i]) := by
  rcases h with ⟨a, c, rfl, h0, _⟩ | ⟨b, o, c, n, rfl, hn, hp, hc⟩
  · subst h0
    exact ⟨a, c, rfl, fun i hi => absurd hi (by simp)⟩
  · exact ⟨some ⟨b, o, none⟩, c, by rw [hn], fun i hi => ⟨b, o, rfl, hc i hi⟩⟩
theorem take_succ_eq {α : Type} {a b : List α} {k : Nat} (ha : k < a.length) (hb : k < b.length) (h : a.take k = b.take k) (hk : a[k] = b[k]) : a.take (k + 1) = b.take (k + 1) := by
  rw [List.take_add_one, List.take_add_one, h, List.getElem?_eq_getElem ha, List.getElem?_eq_getElem hb, hk]
theorem same_calls (sa sb : Value) (a b : List Int) (w : World) (ha : Rd w ci sa a) (hb : Rd w ci sb b) (hla : a.length ≤ 9223372036854775807) (hlb : b.length ≤ 9223372036854775807) :
    Calls Try.prog 36 #[sa, sb] w fun e w' => e = .returned (.bool (decide (a = b))) ∧ ∃ n, w.drewN n = w' := by
  have hla' : (a.length : Int) ≤ 9223372036854775807 := by omega
  have hlb' : (b.length : Int) ≤ 9223372036854775807 := by omega
  clear hla hlb
  obtain ⟨ad, c, rfl, hA⟩ := ha.at
  obtain ⟨bd, d, rfl, hB⟩ := hb.at
  have HA := Lib.hid hA
  have HB := Lib.hid hB
  clear ha hb hA hB
  go_enter Try.func36, Try.ntmps36
  by_cases hl : a.length = b.length
  · have hll : (a.length : Int) = b.length := by omega
    have HL := Lib.hid hl
    clear hl
    go_wp2_with fail
    go_loopw [5] (fun i wr => ∃ (k n : Nat), k ≤ b.length ∧ i = .int .i64 k ∧ wr = w.drewN n ∧ Hid (a.take k = b.take k)) (fun i _ => (b.length - (intOf i).toNat))
    case atStart => exact ⟨0, 0, by omega, rfl, rfl, by show List.take 0 a = _; rw [List.take_zero, List.take_zero]⟩
    case round =>
      obtain ⟨k, n, hk, rfl, rfl, ht⟩ := hrel
      by_cases hlt : k < b.length
      · have hlt2 : k < a.length := by rw [HL.out]; exact hlt
        obtain ⟨b1, o1, rfl, hc1⟩ := HA.out k hlt2
        obtain ⟨b2, o2, rfl, hc2⟩ := HB.out k hlt
        by_cases hx : a[k] = b[k]
        · have ht' := Lib.hid (take_succ_eq hlt2 hlt ht.out hx)
          rw [hx] at hc1
          generalize b[k] = y at *
          clear ht hx
          have hyy : (y != y) = false := by simp
          go_wp2_with fail
          go_quiet (fail)
          go_wp2_with fail
          go_roundw
          case measure => simp only [intOf]; omega
          case rel => exact ⟨k + 1, _, by omega, by go_num, rfl, ht'⟩
        · have hne : (a[k] != b[k]) = true := by simp [hx]
          have hab := Lib.hid (show a ≠ b from fun h => hx (by subst h; rfl))
          generalize b[k] = y at *
          generalize a[k] = x at *
          clear ht hx
          go_wp2_with fail
          go_quiet (fail)
          go_wp2_with fail
          go_ret
          exact ⟨by rw [decide_eq_false hab.out]; rfl, _, (World.drewN_drewN ..).symm⟩
      · obtain rfl : k = b.length := by omega
        have hab := Lib.hid (show a = b by have := ht.out; rw [List.take_length, ← HL.out, List.take_length] at this; exact this)
        clear ht
        go_wp2_with fail
        go_ret
        exact ⟨by rw [decide_eq_true hab.out]; rfl, _, rfl⟩
  · have hll : ((a.length : Int) != b.length) = true := by simp; omega
    have hab := Lib.hid (show a ≠ b from fun h => hl (by rw [h]))
    clear hl
    go_wp2_with fail
    go_ret
    exact ⟨by rw [decide_eq_false hab.out]; rfl, 0, rfl⟩
abbrev cf (n : Nat) : Value := .float .f64 n
theorem cf_one (a : Nat) : (cf a).oneCell' = true := rfl
theorem Try.u48 : Try.prog.underlying 48 = some (.slice 37) := by kernel_rfl
theorem Try.info37 : (Try.prog.info? 37).map (fun i => (i.zero, i.size, i.bytes)) = some (some (.float .f64 0), 1, 8) := by kernel_rfl
theorem frombits (n : Int) (w : World) : (callFunc 33 #[.int .u64 n]).run Try.prog w = .ok (.value (cf n.toNat)) w := by kernel_rfl
theorem tobits (n : Nat) (w : World) : (callFunc 45 #[cf n]).run Try.prog w = .ok (.value (.int .u64 n)) w := by kernel_rfl
theorem run_store_float {P : Program} {w : World} {a : Addr} {m : Mode} (k : FloatKind) (n : Nat) : (store a (.float k n) m).run P w = stored P w a (.float k n) m := run_store P w a _ m rfl
attribute [go_sem] run_store_float
/-- the words of these reals -/
def bitsOf (l : List (BitVec 64)) : List Nat := l.map BitVec.toNat
set_option maxHeartbeats 1000000 in
theorem floats_calls (sv : Value) (l : List (BitVec 64)) (w : World) (hl : Rd w cw sv l) (hm : l.length * 8 ≤ 140737488351232) :
    Calls Try.prog 30 #[sv] w fun e w' => ∃ g c, e = .returned (.slice (some ⟨g, 0, none⟩) l.length c) ∧ l.length + 1 ≤ c ∧ c ≤ maxLen ∧ w.heap.size ≤ g ∧ Own w' w.heap.size 37 cf (.slice (some ⟨g, 0, none⟩) (l.length + 1) c) (bitsOf l ++ [13842939354630062080]) ∧ HasRow w' cf 37 g (bitsOf l ++ [13842939354630062080]) ∧ Ext w w' := by
  obtain ⟨i48, j1, j2, j3, j4⟩ := info_parts Try.info37
  have hz : i48.zero = some (cf 0) := j2
  have hfb : ∀ (x : BitVec 64) (w : World), (callFunc 33 #[cw x]).run Try.prog w = .ok (.value (cf x.toNat)) w := fun x w => frombits (Bv x) w
  obtain ⟨ad, c, rfl, hat⟩ := hl.at
  have HA := Lib.hid hat
  have hm' : (l.length : Int) ≤ 17592186043904 := by omega
  have HM := Lib.hid hm
  clear hat hl hm
  go_enter Try.func30, Try.ntmps30
  go_wp2_with fail
  go_loopw [3, 4] (fun nv iv wr => ∃ (k : Nat), k ≤ l.length ∧ iv = .int .i64 k ∧ Hid (Own wr w.heap.size 37 cf nv ((bitsOf l).take k) ∧ Ext w wr)) (fun _ iv _ => (l.length - (intOf iv).toNat))
  case atStart => exact ⟨0, by omega, rfl, by rw [List.take_zero]; exact ⟨Own.nil, Ext.refl _⟩⟩
  case round =>
    obtain ⟨k, hk, rfl, hT⟩ := hrel
    have hbl : (bitsOf l).length = l.length := by unfold bitsOf; simp
    by_cases hlt : k < l.length
    · obtain ⟨b, o, rfl, hci⟩ := HA.out k hlt
      have hcw := hT.out.2.cell hci
      have htk : Hid ((bitsOf l).take (k + 1) = (bitsOf l).take k ++ [(l[k]).toNat]) := by
        show _ = _
        rw [List.take_add_one, List.getElem?_eq_getElem (by rw [hbl]; exact hlt)]
        simp [bitsOf]
      generalize l[k] = x at *
      clear hci
      have O1 := Lib.hid ((Ext.of_alloc (w := wr) (.cells #[cf x.toNat] 37)).own hT.out.1)
      have X1 : Hid ((wr.alloc (.cells #[cf x.toNat] 37)).cell? ⟨wr.heap.size, 0, none⟩ = some (cf x.toNat)) := by show _ = _; rw [World.cell?_alloc_new]; rfl
      have S1 := Lib.hid ((hT.out.2.alloc (.cells #[cf x.toNat] 37)).size)
      have B1 : Hid ((((bitsOf l).take k).length + 1) * 8 ≤ 140737488355328) := by show _ ≤ _; rw [List.length_take, hbl]; have := HM.out; omega
      have M1 : Hid (((bitsOf l).take k).length + 1 ≤ 9223372036854775807) := by show _ ≤ _; rw [List.length_take, hbl]; have := HM.out; omega
      clear hbl
      go_wp2_with (first
        | (at_builtin; refine wpList_append_one cf rfl (.tmp 11) (.tmp 17) 48 rfl w.heap.size 37 i48 (cf 0) 8 Try.u48 j1 hz j3 j4 rfl _ ((bitsOf l).take k) rfl O1.out wr.heap.size 1 _ rfl X1.out rfl B1.out M1.out S1.out ?_
           intro nv' w3 ho3 hg3 hb3
           have P3 := Lib.hid (And.intro ho3 ((hT.out.2.alloc (.cells #[cf x.toNat] 37)).grown hg3 (fun k hk => (O1.out.lt k hk).1)))
           clear ho3 hg3 hb3 O1 X1 S1 B1 M1)
        | fail)
      go_roundw
      case measure => simp only [intOf]; omega
      case rel => exact ⟨k + 1, by omega, by go_num, by rw [htk.out]; exact P3.out⟩
    · obtain rfl : l.length = k := by omega
      have hT2 := hT.out
      rw [List.take_of_length_le (by rw [hbl]; exact Nat.le_refl _)] at hT2
      have HB := Lib.hid hbl
      have O1 := Lib.hid ((Ext.of_alloc (w := wr) (.cells #[cf 13842939354630062080] 37)).own hT2.1)
      have X1 : Hid ((wr.alloc (.cells #[cf 13842939354630062080] 37)).cell? ⟨wr.heap.size, 0, none⟩ = some (cf 13842939354630062080)) := by show _ = _; rw [World.cell?_alloc_new]; rfl
      have S1 := Lib.hid ((hT2.2.alloc (.cells #[cf 13842939354630062080] 37)).size)
      have B1 : Hid (((bitsOf l).length + 1) * 8 ≤ 140737488355328) := by show _ ≤ _; rw [hbl]; have := HM.out; omega
      have M1 : Hid ((bitsOf l).length + 1 ≤ 9223372036854775807) := by show _ ≤ _; rw [hbl]; have := HM.out; omega
      have E1 := Lib.hid hT2.2
      clear hbl hk hlt hT hT2
      go_wp2_with (first
        | (at_builtin; refine wpList_append_one cf rfl (.tmp 19) (.tmp 20) 48 rfl w.heap.size 37 i48 (cf 0) 8 Try.u48 j1 hz j3 j4 rfl _ (bitsOf l) rfl O1.out wr.heap.size 1 _ rfl X1.out rfl B1.out M1.out S1.out ?_
           intro nv' w3 ho3 hg3 hb3
           have E3 := Lib.hid ((E1.out.alloc (.cells #[cf 13842939354630062080] 37)).grown hg3 (fun k hk => (O1.out.lt k hk).1))
           obtain ⟨g, cc, hv, hB, hr, hcc, hcm⟩ := ho3.has (by simp)
           simp only [List.length_append, List.length_singleton, HB.out] at hv hcc
           subst hv
           have P := Lib.hid (And.intro hB (And.intro ho3 hr))
           have HC := Lib.hid (And.intro hcc hcm)
           have hc1 : (l.length : Int) ≤ cc := by omega
           have hc2 : (cc : Int) ≤ 9223372036854775807 := by simp only [maxLen] at hcm; omega
           clear ho3 hg3 hb3 hB hr hcc hcm O1 X1 S1 B1 M1)
        | fail)
      go_ret
      exact ⟨g, cc, rfl, HC.out.1, HC.out.2, P.out.1, P.out.2.1, P.out.2.2, E3.out⟩
theorem bitsOf_len (l : List (BitVec 64)) : (bitsOf l).length = l.length := by unfold bitsOf; simp
end Go.Proofs.Ytaneknfhilfalaa
