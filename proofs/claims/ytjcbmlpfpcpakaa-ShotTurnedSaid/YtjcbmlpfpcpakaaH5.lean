/- Layer 12 (shot): numbers laid into a sector and read out of it, the walks. -/
import Derived.Test.YtjcbmlpfpcpakaaH3
import Derived.Lib.BufferWrite
namespace Go.Proofs.Ytjcbmlpfpcpakaa
open Go.RowKit
set_option linter.unusedVariables false
def putL (L : By) (o n : Nat) (v : BitVec 64) (k : Nat) : By := L.take (o + n - k) ++ putB v k ++ L.drop (o + n)
theorem putL_zero (L : By) (o n : Nat) (v : BitVec 64) : putL L o n v 0 = L := by
  unfold putL
  rw [putB_nil, List.append_nil, Nat.sub_zero, List.take_append_drop]
theorem putL_len {L : By} {o n : Nat} (v : BitVec 64) {k : Nat} (hk : k ≤ n) (h : o + n ≤ L.length) : (putL L o n v k).length = L.length := by
  unfold putL
  rw [List.length_append, List.length_append, List.length_take, putB_len, List.length_drop]
  omega
theorem putL_step {L : By} {o n : Nat} (v : BitVec 64) {k : Nat} (hk : k < n) (h : o + n ≤ L.length) : (putL L o n v k).set (o + (n - 1 - k)) ((v >>> (8 * k)).setWidth 8) = putL L o n v (k + 1) := by
  unfold putL
  have hl : (L.take (o + n - k)).length = o + n - k := by rw [List.length_take]; omega
  rw [List.append_assoc, List.set_append_left _ _ (by rw [hl]; omega)]
  have e : o + n - k = (o + n - (k + 1)) + 1 := by omega
  rw [e, List.take_succ_eq_append_getElem (by omega), List.set_append_right _ _ (by rw [List.length_take]; omega), List.length_take, show o + (n - 1 - k) - min (o + n - (k + 1)) L.length = 0 by omega, List.set_cons_zero]
  rw [putB_succ]
  simp
set_option maxRecDepth 100000 in
theorem put_calls (b o n c : Nat) (T : TypeId) (L : By) (v : BitVec 64) (w : World) (h : Blk w b (V cb L) T) (ho : o + n ≤ L.length) (hn : n ≤ 8) :
    Calls Try.prog 145 #[.slice (some ⟨b, o, none⟩) n c, .int .u64 (Bv v)] w fun e w' => e = .returned (.tuple #[]) ∧ Blk w' b (V cb (putL L o n v n)) T ∧ w.grownBy w' (some b) := by
  have hn' : (n : Int) ≤ 8 := by omega
  have H := Lib.hid h
  have HO := Lib.hid ho
  clear h ho
  go_enter Try.func145, Try.ntmps145
  go_wp2_with fail
  go_loopw [7] (fun iv wx => ∃ k : Nat, k ≤ n ∧ iv = ci k ∧ Hid (Blk wx b (V cb (putL L o n v k)) T ∧ w.grownBy wx (some b))) (fun iv _ => ((n : Int) - intOf iv).toNat)
  case atStart => exact ⟨0, Nat.zero_le _, rfl, by rw [putL_zero]; exact H.out, World.grownBy.refl _ _⟩
  case round =>
    obtain ⟨k, hk, rfl, hU⟩ := hrel
    by_cases hlt : k < n
    · have hlt' : (k : Int) < n := by omega
      have hc : ∃ y, wr.cell? ⟨b, o + (n - 1 - k), none⟩ = some (cb y) := by
        rw [hU.out.1.cell, V_get, List.getElem?_eq_getElem (by rw [putL_len v hk HO.out]; have := HO.out; omega)]
        exact ⟨_, rfl⟩
      obtain ⟨y, hc⟩ := hc
      have hf := hU.out.1.free (o + (n - 1 - k))
      have hi : ((n : Int) - 1 - k) = ((n - 1 - k : Nat) : Int) := by omega
      clear hk
      go_wp2_with fail
      refine ⟨⟨k + 1, hlt, by simp, Lib.hid ⟨?_, grown_trans hU.out.2 (grown_set _ _ _ _)⟩⟩, by simp only [intOf]; omega⟩
      have h1 := hU.out.1.set (o + (n - 1 - k)) (cb ((v >>> (8 * k)).setWidth 8))
      rw [V_set, putL_step v hlt HO.out] at h1
      exact h1
    · obtain rfl : k = n := by omega
      go_wp2_with fail
      go_end0
      exact ⟨rfl, hU.out.1, hU.out.2⟩
set_option maxRecDepth 100000 in
theorem got_calls (sv : Value) (l : By) (w : World) (h : Rd w cb sv l) (hl : l.length ≤ 9223372036854775807) :
    Calls Try.prog 141 #[sv] w fun e w' => e = .returned (.int .u64 (Bv (gotB l))) ∧ w = w' := by
  have hl' : (l.length : Int) ≤ 9223372036854775807 := by omega
  clear hl
  obtain ⟨r, hr⟩ : ∃ r, gotL 0#64 l = r := ⟨_, rfl⟩
  rw [gotB_eq, hr]
  have HR := Lib.hid hr
  obtain ⟨ad, c, rfl, hat⟩ := h.at
  have HA := Lib.hid hat
  clear hr hat h
  go_enter Try.func141, Try.ntmps141
  go_wp2_with fail
  have H0 : (0 : Int) = Bv 0#64 := by unfold Bv; rfl
  go_loop [2, 7] (fun x i => ∃ (k : Nat) (y : BitVec 64), k ≤ l.length ∧ i = .int .i64 k ∧ x = .int .u64 (Bv y) ∧ Hid (gotL y (l.drop k) = r)) (fun _ i => l.length - (intOf i).toNat)
  case atStart => exact ⟨0, 0#64, by omega, rfl, by rw [← H0], by rw [List.drop_zero]; exact HR.out⟩
  case round =>
    clear HR H0
    obtain ⟨k, y, hk, rfl, rfl, hy⟩ := hrel
    by_cases hlt : k < l.length
    · obtain ⟨b, o, rfl, hci⟩ := HA.out k hlt
      obtain ⟨x, hx⟩ : ∃ x, l[k] = x := ⟨_, rfl⟩
      have hy' := hy.out
      rw [List.drop_eq_getElem_cons hlt, gotL_cons, hx] at hy'
      rw [hx] at hci
      have HY := Lib.hid hy'
      clear hy hy' hx
      go_wp2_with fail
      go_round
      case measure => simp only [intOf]; omega
      case rel => exact ⟨k + 1, gotF y x, by omega, by go_num, rfl, HY⟩
    · obtain rfl : k = l.length := by omega
      have hy' := hy.out
      rw [List.drop_length, gotL_nil] at hy'
      subst hy'
      clear hy
      go_wp2_with fail
      go_ret
      exact ⟨rfl, rfl⟩
theorem isnz_calls (x : BitVec 8) (w : World) : Calls Try.prog 143 #[cb x] w fun e w' => e = .returned (.bool (x != 0#8)) ∧ w = w' := by
  go_enter Try.func143, Try.ntmps143
  go_wp2_with fail
  go_ret
  exact ⟨rfl, rfl⟩
set_option maxRecDepth 100000 in
theorem index_calls (sv : Value) (l : By) (w : World) (h : Rd w cb sv l) (hl : l.length ≤ 9223372036854775807) :
    Calls Try.prog 162 #[sv, .func (.func 143) #[] #[]] w fun e w' => (∃ r : Int, e = .returned (ci r) ∧ decide (0 ≤ r) = notZero l) ∧ w = w' := by
  have hl' : (l.length : Int) ≤ 9223372036854775807 := by omega
  clear hl
  obtain ⟨ad, c, rfl, hat⟩ := h.at
  have HA := Lib.hid hat
  obtain ⟨r, hr⟩ : ∃ r, notZero l = r := ⟨_, rfl⟩
  rw [hr]
  have HR := Lib.hid hr
  clear hat h hr
  go_enter Try.func162, Try.ntmps162
  go_wp2_with fail
  go_loop [8] (fun i => ∃ (k : Nat), k ≤ l.length ∧ i = .int .i64 k ∧ Hid (notZero (l.drop k) = r)) (fun i => l.length - (intOf i).toNat)
  case atStart => exact ⟨0, by omega, rfl, by rw [List.drop_zero]; exact HR.out⟩
  case round =>
    clear HR
    obtain ⟨k, hk, rfl, hy⟩ := hrel
    by_cases hlt : k < l.length
    · obtain ⟨b, o, rfl, hci⟩ := HA.out k hlt
      obtain ⟨x, hx⟩ : ∃ x, l[k] = x := ⟨_, rfl⟩
      have hy' := hy.out
      rw [List.drop_eq_getElem_cons hlt, notZero_cons, hx] at hy'
      rw [hx] at hci
      cases hn : (x != 0#8) with
      | true =>
        rw [hn, Bool.true_or] at hy'
        have HY := Lib.hid hy'
        have HC := isnz_calls x w
        rw [hn] at HC
        clear hy hy' hx hn
        go_wp2_with (first | (go_at_call 143; refine HC.mono ?_; rintro e w1 ⟨rfl, rfl⟩) | fail)
        go_ret
        exact ⟨⟨k, rfl, by rw [← HY.out]; simp⟩, rfl⟩
      | false =>
        rw [hn, Bool.false_or] at hy'
        have HY := Lib.hid hy'
        have HC := isnz_calls x w
        rw [hn] at HC
        clear hy hy' hx hn
        go_wp2_with (first | (go_at_call 143; refine HC.mono ?_; rintro e w1 ⟨rfl, rfl⟩) | fail)
        go_round
        case measure => simp only [intOf]; omega
        case rel => exact ⟨k + 1, by omega, by go_num, HY⟩
    · obtain rfl : k = l.length := by omega
      have hy' := hy.out
      rw [List.drop_length, notZero_nil] at hy'
      subst hy'
      clear hy
      go_wp2_with fail
      go_ret
      exact ⟨⟨-1, rfl, by simp⟩, rfl⟩
set_option maxRecDepth 100000 in
theorem contains_calls (sv : Value) (l : By) (w : World) (h : Rd w cb sv l) (hl : l.length ≤ 9223372036854775807) :
    Calls Try.prog 142 #[sv, .func (.func 143) #[] #[]] w fun e w' => e = .returned (.bool (notZero l)) ∧ w = w' := by
  have H := Lib.hid (index_calls sv l w h hl)
  clear h hl
  go_enter Try.func142, Try.ntmps142
  go_wp2_with (first | (go_at_call 162; refine H.out.mono ?_; rintro e w1 ⟨⟨r, rfl, hr⟩, rfl⟩) | fail)
  go_ret
  exact ⟨by rw [← hr]; rfl, rfl⟩
end Go.Proofs.Ytjcbmlpfpcpakaa
namespace Go.Proofs.Ytjcbmlpfpcpakaa
open Go.RowKit
set_option linter.unusedVariables false
theorem zer_eq (n : Nat) : zer n = List.replicate n 0#8 := by unfold zer; rfl
theorem zer_add (a b : Nat) : zer (a + b) = zer a ++ zer b := by rw [zer_eq, zer_eq, zer_eq, List.replicate_append_replicate]
theorem putL_at (A Z D : By) (o n : Nat) (v : BitVec 64) (hA : A.length = o) (hZ : Z.length = n) : putL (A ++ Z ++ D) o n v n = A ++ putB v n ++ D := by
  subst hA; subst hZ
  unfold putL
  rw [show A.length + Z.length - Z.length = A.length by omega, List.append_assoc A Z D, List.take_left, ← List.append_assoc A Z D, ← List.length_append, List.drop_left]
def hA (gen : BitVec 64) : By := magic ++ putB gen 8
theorem head1 (gen : BitVec 64) : putL (magic ++ zer 60) 4 8 gen 8 = magic ++ putB gen 8 ++ zer 52 := by
  rw [show zer 60 = zer 8 ++ zer 52 from zer_add 8 52, ← List.append_assoc]
  exact putL_at _ _ _ _ _ _ rfl (zer_len _)
theorem head2 (gen v : BitVec 64) : putL (magic ++ putB gen 8 ++ zer 52) 12 4 v 4 = magic ++ putB gen 8 ++ putB v 4 ++ zer 48 := by
  rw [show zer 52 = zer 4 ++ zer 48 from zer_add 4 48, ← List.append_assoc]
  exact putL_at _ _ _ _ _ _ (by simp [magic, putB_len]) (zer_len _)
theorem head3 (gen v u : BitVec 64) : putL (magic ++ putB gen 8 ++ putB v 4 ++ zer 48) 16 4 u 4 = magic ++ putB gen 8 ++ putB v 4 ++ putB u 4 ++ zer 39 ++ zer 5 := by
  rw [show zer 48 = zer 4 ++ zer 44 from zer_add 4 44, ← List.append_assoc, putL_at _ _ _ _ _ _ (by simp [magic, putB_len]) (zer_len _), show zer 44 = zer 39 ++ zer 5 from zer_add 39 5, ← List.append_assoc]
theorem head4 (h : By) (v : BitVec 64) (hl : h.length = 59) : putL (h ++ zer 5) 59 5 v 5 = h ++ putB v 5 := by
  have := putL_at h (zer 5) [] 59 5 v hl (zer_len 5)
  rw [List.append_nil, List.append_nil] at this
  exact this
theorem headA_eq (gen : BitVec 64) (data : By) : headA gen data = magic ++ putB gen 8 ++ putB (BitVec.ofNat 64 data.length) 4 ++ putB ((crcB data).setWidth 64) 4 ++ zer 39 := by unfold headA; rfl
theorem headB_eq (gen : BitVec 64) (data : By) : headB gen data = headA gen data ++ putB (((crcB (headA gen data)).setWidth 64) <<< 8 ||| 165#64) 5 := by unfold headB; rfl
theorem crcB_eq (p : By) : crcB p = ~~~ tkn 0xFFFFFFFF#32 p := by unfold crcB; rfl
theorem crc_ok (sv : Value) (p : By) (w : World) (hp : Rd w cb sv p) (hm : p.length ≤ 9223372036854775807) : Calls Try.prog 146 #[sv] w fun e w' => e = .returned (c32 (crcB p)) ∧ Ext w w' := by
  rw [crcB_eq]
  exact crc_calls sv p w hp hm
theorem shl8 (x : BitVec 64) : x <<< 8 = x * 256#64 := by rw [← mul_shl]; rfl
theorem V_zer64 : (List.replicate 64 (.int .u8 0 : Value)).toArray = V cb (zer 64) := by rw [zer_eq]; unfold V; rfl
theorem copy_magic (w : World) (B : Nat) (hb : Blk w B (V cb (zer 64)) 146) (ty : TypeId) (s : ByteArray) (hs : s = { data := #[83, 72, 79, 84] }) :
    (Builtin.copy_ #[36, 9] ty #[.slice (some ⟨B, 0, none⟩) 64 64, .string s]).run Try.prog w = .ok (ci 4) (w.setRow B (V cb (magic ++ zer 60))) := by
  subst hs
  obtain ⟨i5, j1, j2, j3, j4⟩ := info_parts Try.info5
  have h := Lib.run_copy_row_string (P := Try.prog) w 36 9 ty 5 B 0 64 64 { data := #[83, 72, 79, 84] } (V cb (zer 64)) 146 Try.u36 (by rw [j1]; simp [j3]) hb (by decide) (by rw [V_size, zer_len]; decide)
  rw [h]
  have e : ((V cb (zer 64)).toList.take 0 ++ Lib.byteCells (#[83, 72, 79, 84] : Array UInt8).toList ++ (V cb (zer 64)).toList.drop (0 + ByteArray.size { data := #[83, 72, 79, 84] })).toArray = V cb (magic ++ zer 60) := by
    apply Array.ext'
    rw [V_toList, V_toList, List.take_zero, List.nil_append, List.map_append, show 0 + ByteArray.size { data := #[83, 72, 79, 84] } = 4 from rfl, ← List.map_drop, zer_eq, zer_eq, List.drop_replicate]
    rfl
  rw [← e]
  rfl
set_option maxRecDepth 100000 in
theorem head_calls (gen : Nat) (sv : Value) (data : By) (w : World) (hp : Rd w cb sv data) (hg : gen ≤ 2199023255552) (hm : data.length ≤ 4294967296) :
    Calls Try.prog 103 #[ci gen, sv] w fun e w' => e = .returned (.agg (V cb (headB (BitVec.ofNat 64 gen) data))) ∧ Ext w w' := by
  obtain ⟨sa, scp, rfl⟩ := hp.form
  have HP := Lib.hid hp
  have hcp := copy_magic
  clear hp
  go_enter Try.func103, Try.ntmps103
  go_upto_region 2 with (first
    | (guard_target =~ wpList _ _ _ (Oper.mk _ (.alloc 146) _ _ _ _ :: _) _ _; refine wpList_alloc_row A146 rfl rfl ?_
       rw [V_zer64]
       have E1 : Ext w (w.alloc (.cells (V cb (zer 64)) 146)) := Ext.of_alloc _
       have B1 := Blk.new w (V cb (zer 64)) 146
       obtain ⟨w1, hw1⟩ : ∃ w1, w.alloc (.cells (V cb (zer 64)) 146) = w1 := ⟨_, rfl⟩
       rw [hw1] at E1 B1 ⊢
       have hcq := hcp w1 w.heap.size B1
       clear hw1 hcp)
    | fail)
  have B2 : Blk (w1.setRow w.heap.size (V cb (magic ++ zer 60))) w.heap.size (V cb (magic ++ zer 60)) 146 := setRow_heap w1 w.heap.size _ _ 146 (0, 0) B1
  have G2 : w1.grownBy (w1.setRow w.heap.size (V cb (magic ++ zer 60))) (some w.heap.size) := ⟨rfl, rfl, rfl, by simp [World.setRow], fun k _ hk => setRow_other w1 w.heap.size k _ (fun e => hk (by rw [e]))⟩
  have E2 : Ext w (w1.setRow w.heap.size (V cb (magic ++ zer 60))) := E1.grown1 G2 (Nat.le_refl _)
  generalize w1.setRow w.heap.size (V cb (magic ++ zer 60)) = w2 at *
  clear hcq E1 B1 G2
  have P1 := Lib.hid (put_calls w.heap.size 4 8 60 146 _ (BitVec.ofNat 64 gen) w2 B2 (by simp [magic, zer_len]) (by omega))
  rw [head1] at P1
  have e1 : (gen : Int) = Bv (BitVec.ofNat 64 gen) := (Bv_ofNat gen (by omega)).symm
  have X2 := Lib.hid E2
  clear B2 E2
  go_upto_region 3 with (first
    | (go_at_call 145; rw [e1]; refine P1.out.mono ?_
       rintro e w3 ⟨rfl, b3, g3⟩
       have B3 := Lib.hid b3
       have X3 := Lib.hid (X2.out.grown1 g3 (Nat.le_refl _))
       clear b3 g3 P1 X2)
    | fail)
  have P2 := Lib.hid (put_calls w.heap.size 12 4 52 146 _ (BitVec.ofNat 64 data.length) w3 B3.out (by simp [magic, putB_len, zer_len]) (by omega))
  rw [head2] at P2
  have e2 : (data.length : Int) = Bv (BitVec.ofNat 64 data.length) := (Bv_ofNat data.length (by omega)).symm
  have X3' := X3
  clear B3
  go_upto_region 4 with (first
    | (go_at_call 145; refine P2.out.mono ?_
       rintro e w4 ⟨rfl, b4, g4⟩
       have B4 := Lib.hid b4
       have X4 := Lib.hid (X3.out.grown1 g4 (Nat.le_refl _))
       clear b4 g4 P2 X3 X3')
    | fail)
  have C4 := Lib.hid (fun w5 (e : Ext w w5) => crc_ok (.slice sa data.length scp) data w5 (e.rd HP.out) (by omega))
  have P3 := Lib.hid (fun w5 b => put_calls w.heap.size 16 4 48 146 (magic ++ putB (BitVec.ofNat 64 gen) 8 ++ putB (BitVec.ofNat 64 data.length) 4 ++ zer 48) ((crcB data).setWidth 64) w5 b (by simp [magic, putB_len, zer_len]) (by omega))
  rw [head3, ← headA_eq] at P3
  go_region_with (first
    | (go_at_call 146; refine (C4.out _ X4.out.drew).mono ?_
       rintro e w5 ⟨rfl, x5⟩
       have B5 := Lib.hid (B4.out.drew.ext x5)
       have X5 := Lib.hid (X4.out.drew.trans x5)
       clear x5 C4 B4 X4)
    | (go_at_call 145; refine (P3.out _ B5.out).mono ?_
       rintro e w6 ⟨rfl, b6, g6⟩
       have B6 := Lib.hid b6
       have X6 := Lib.hid (X5.out.grown1 g6 (Nat.le_refl _))
       clear b6 g6 P3 X5 B5)
    | fail)
  go_wp2_with fail
  have C6 := Lib.hid (fun w5 (e : Ext w5 w5) b => crc_ok (.slice (some ⟨w.heap.size, 0, none⟩) 59 64) (headA (BitVec.ofNat 64 gen) data) w5 (Blk.rd (m := zer 5) (T := 146) b (headA_len _ _).symm) (by rw [headA_len]; omega))
  have P4 := Lib.hid (fun w5 b => put_calls w.heap.size 59 5 5 146 (headA (BitVec.ofNat 64 gen) data ++ zer 5) (((crcB (headA (BitVec.ofNat 64 gen) data)).setWidth 64) <<< 8 ||| 165#64) w5 b (by simp [headA_len, zer_len]) (by omega))
  rw [head4 _ _ (headA_len _ _), ← headB_eq, shl8] at P4
  go_region_with (first
    | (go_at_call 146; refine (C6.out _ (Ext.refl _) B6.out.drew).mono ?_
       rintro e w7 ⟨rfl, x7⟩
       have B7 := Lib.hid (B6.out.drew.ext x7)
       have X7 := Lib.hid (X6.out.drew.trans x7)
       clear x7 C6 B6 X6)
    | (go_at_call 145; refine (P4.out _ B7.out).mono ?_
       rintro e w8 ⟨rfl, b8, g8⟩
       have B8 := Lib.hid b8
       have X8 := Lib.hid (X7.out.grown1 g8 (Nat.le_refl _))
       clear b8 g8 P4 X7 B7)
    | fail)
  have HL := Lib.hid (headB_len (BitVec.ofNat 64 gen) data)
  go_wp2_with (first
    | (guard_target =~ wpList _ _ _ (Oper.mk _ (.load 146 _) _ _ _ _ :: _) _ _; refine wpList_load_row A146 rfl _ rfl _ 0 rfl ((headB (BitVec.ofNat 64 gen) data).map cb) (by rw [List.length_map]; exact HL.out) (V_rangeV B8.out) ?_)
    | (guard_target =~ wpList _ _ _ (Oper.mk _ (.store 146 _ _) _ _ _ _ :: _) _ _; refine wpList_store_blk A146 rfl _ _ rfl w.heap.size rfl _ _ B8.out (by rw [V_size]; exact HL.out) ((headB (BitVec.ofNat 64 gen) data).map cb) (by rw [List.length_map]; exact HL.out) (cb_ones _) rfl ?_
       intro w9 B9 G9
       have X9 := Lib.hid (X8.out.grown1 G9 (Nat.le_refl _))
       have B9' := Lib.hid B9
       clear B9 G9)
    | fail)
  have B9 := B9'.out
  rw [← V_eq] at B9
  refine bodyPost_ret (results_cell_row rfl _ _ w.heap.size 146 (V cb (headB (BitVec.ofNat 64 gen) data)) (0, 0) _ rfl B9 Try.u146 rfl (size_map146 _ HL.out)) rfl ?_
  exact ⟨rfl, X9.out⟩
end Go.Proofs.Ytjcbmlpfpcpakaa
