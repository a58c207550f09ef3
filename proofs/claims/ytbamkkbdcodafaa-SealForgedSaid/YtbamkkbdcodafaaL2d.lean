/- SealForged: the walk of the law. -/
import Derived.Test.YtbamkkbdcodafaaS2i
import Derived.Test.YtbamkkbdcodafaaEqa
namespace Go.Proofs.Ytbamkkbdcodafaa
open Go.RowKit
set_option linter.unusedVariables false

theorem zero4 : (#[.int .u8 0, .int .u8 0, .int .u8 0, .int .u8 0] : Array Value) = V cb (List.replicate 4 0#8) := by unfold V; rfl
theorem heap_second (w : World) (A B : Obj) : ((w.alloc A).alloc B).heap[w.heap.size + 1]? = some B := by
  have h := heap_alloc_last (w.alloc A) B
  simpa using h
theorem setRow_second (w : World) (A : Obj) (c c' : Array Value) (t : TypeId) : ((w.alloc A).alloc (.cells c t)).setRow (w.heap.size + 1) c' = (w.alloc A).alloc (.cells c' t) := by
  have h := World.setRow_alloc_new (w.alloc A) c c' t
  simpa using h
theorem four_of {α : Type} (l : List α) (h : l.length = 4) : ∃ a b c d, l = [a, b, c, d] := by
  match l, h with
  | [a, b, c, d], _ => exact ⟨a, b, c, d, rfl⟩
set_option maxHeartbeats 1000000 in
theorem forged_walk (sv : Value) (p : List (BitVec 8)) (want : BitVec 32) (od : List (BitVec 8)) (hod : od.length = 4) (W : World) (hp : Rd W cb sv p) (hm : p.length ≤ 140737488351232) :
    Calls Try.prog 7 #[sv, c32 want, .agg (V cb od)] W fun e w' => e = .returned (.bool true) ∧ Ext W w' := by
  have hm' : (p.length : Int) ≤ 140737488351232 := by omega
  have hp1 := hp
  obtain ⟨ad, c, rfl, hat⟩ := hp1.at
  clear hat hp1
  have HP := Lib.hid hp
  have HM := Lib.hid hm
  have HO := Lib.hid hod
  have hT := Blk.new W (V cb od) 30
  have eT := Ext.of_alloc (w := W) (.cells (V cb od) 30)
  have HTs : Hid ((W.alloc (.cells (V cb od) 30)).heap.size = W.heap.size + 1) := by show _ = _; simp
  have H17 := Lib.hid (known_calls (W.alloc (.cells (V cb od) 30)))
  obtain ⟨gO, hgO⟩ : ∃ g, W.heap.size = g := ⟨_, rfl⟩
  have HG := Lib.hid hgO
  have HT := Lib.hid hT
  have HE := Lib.hid eT
  clear hp hm hod hT eT hgO
  obtain ⟨X, hX⟩ : ∃ X, tkn 0xFFFFFFFF#32 p = X := ⟨_, rfl⟩
  have HX := Lib.hid hX
  obtain ⟨t, ht⟩ : ∃ t, four8 (tailw (~~~X) want) = t := ⟨_, rfl⟩
  have HTt := Lib.hid ht
  have ht4 : t.length = 4 := by rw [← ht, four8_len]
  have H4 := Lib.hid ht4
  have hsz : (Try.prog.info? 30).map (·.size) = some (V cb t).size := by rw [Try.size30, V_size, ht4]
  have HZ := Lib.hid hsz
  have HS : Hid ((V cb (List.replicate 4 0#8)).size = (V cb t).size) := by show _ = _; rw [V_size, V_size, ht4]; rfl
  have HF := Lib.hid (show ~~~ tkn X t = want by rw [← ht]; exact forged X want)
  clear hX ht ht4 hsz
  obtain ⟨o0, o1, o2, o3, ho'⟩ := four_of od HO.out
  obtain ⟨t0, t1, t2, t3, ht'⟩ := four_of t H4.out
  have ho := Lib.hid ho'
  have ht := Lib.hid ht'
  have hVo : V cb od = #[cb o0, cb o1, cb o2, cb o3] := by rw [ho']; unfold V; rfl
  have hVt : V cb t = #[cb t0, cb t1, cb t2, cb t3] := by rw [ht']; unfold V; rfl
  have hEq : ∀ w : World, (Op.equalIn 10000 30 (.agg #[cb o0, cb o1, cb o2, cb o3]) (.agg #[cb t0, cb t1, cb t2, cb t3])).run Try.prog w = .ok (decide (od = t)) w := fun w => by
    obtain ⟨i5, j1, _⟩ := info_parts Try.info5
    rw [← hVo, ← hVt]
    exact run_equal_words w 9998 Try.underlying30 Try.underlying5 j1 (by kernel_rfl) od t HO.out H4.out
  clear ho' ht' hVo hVt
  have HU : Hid (od ≠ t → ~~~ tkn X od ≠ want) := fun hne he => hne (tkn_four (v := X) [] (by rw [HO.out, H4.out]) (by rw [HO.out]; omega) (by
    rw [List.append_nil, List.append_nil]
    have h1 : ~~~ tkn X t = want := HF.out
    rw [← h1] at he
    simpa using congrArg (~~~ ·) he))
  cases hr : decide (od = t) with
  | true =>
    rw [hr] at hEq
    clear hr
    go_enter Try.func7, Try.ntmps7
    go_wp2_with (first
      | (go_at_call 17; refine H17.out.mono ?_; clear H17; rintro e w2 ⟨rfl, e2⟩
         have H19a := Lib.hid (crc_calls _ p w2 ((HE.out.trans e2).rd HP.out) (by have := HM.out; omega))
         rw [HX.out] at H19a)
      | (go_at_call 19; refine H19a.out.mono ?_; clear H19a; rintro e w3 ⟨rfl, e3⟩
         have H26 := Lib.hid (tail_calls (~~~X) want w3)
         rw [HTt.out] at H26)
      | (go_at_call 26; refine H26.out.mono ?_; clear H26; rintro e w4 ⟨rfl, A, rfl⟩)
      | (refine wpList_store_row rfl 30 (.tmp 7) (.tmp 13) rfl (w3.heap.size + 1) (V cb t) (V cb (List.replicate 4 0#8)) 30 rfl rfl (by rw [zero4]; exact heap_second _ _ _) HZ.out HS.out (V_one _ (fun _ => rfl) _) ?_
         rw [setRow_second]
         have e4 : Ext w3 ((w3.alloc A).alloc (.cells (V cb t) 30)) := Ext.of_alloc2 _ _
         have b4 : Blk ((w3.alloc A).alloc (.cells (V cb t) 30)) (w3.heap.size + 1) (V cb t) 30 := heap_second _ _ _
         generalize (w3.alloc A).alloc (.cells (V cb t) 30) = w5 at *
         obtain ⟨gX, hgX⟩ : ∃ g, w3.heap.size + 1 = g := ⟨_, rfl⟩
         have HGX := Lib.hid hgX
         rw [hgX]
         clear hgX
         have H18 := Lib.hid (joined_calls _ _ p t w5 ((((HE.out.trans e2).trans e3).trans e4).rd HP.out) ((show Blk w5 gX (V cb t) 30 by rw [← HGX.out]; exact b4).whole (n := 4) (c := 4) H4.out.symm) (by have := HM.out; have := H4.out; omega)))
      | (go_at_call 18; refine H18.out.mono ?_; clear H18; rintro e w6 ⟨jv, rfl, ho6, e6⟩
         have H19b := Lib.hid (crc_calls _ (p ++ t) w6 ho6.rd (by have := HM.out; have := H4.out; simp; omega))
         rw [tkn_append, HX.out, HF.out] at H19b
         have hbT : Blk w6 gX (V cb t) 30 := by rw [← HGX.out]; exact b4.ext e6
         have hbO : Blk w6 W.heap.size (V cb od) 30 := ((((HT.out.ext e2).ext e3).ext e4).ext e6))
      | (go_at_call 19; refine H19b.out.mono ?_; clear H19b; rintro e w7 ⟨rfl, e7⟩
         have H18b := Lib.hid (joined_calls _ _ p od w7 ((((((HE.out.trans e2).trans e3).trans e4).trans e6).trans e7).rd HP.out) ((hbO.ext e7).whole (n := 4) (c := 4) HO.out.symm) (by have := HM.out; have := HO.out; omega))
         have hbT := hbT.ext e7
         have hbO := hbO.ext e7
         have c0 : w7.cell? ⟨W.heap.size, 0, none⟩ = some (cb o0) := by rw [hbO.cell, V_get, ho.out]; rfl
         have c1 : w7.cell? ⟨W.heap.size, 1, none⟩ = some (cb o1) := by rw [hbO.cell, V_get, ho.out]; rfl
         have c2 : w7.cell? ⟨W.heap.size, 2, none⟩ = some (cb o2) := by rw [hbO.cell, V_get, ho.out]; rfl
         have c3 : w7.cell? ⟨W.heap.size, 3, none⟩ = some (cb o3) := by rw [hbO.cell, V_get, ho.out]; rfl
         have d0 : w7.cell? ⟨gX, 0, none⟩ = some (cb t0) := by rw [hbT.cell, V_get, ht.out]; rfl
         have d1 : w7.cell? ⟨gX, 1, none⟩ = some (cb t1) := by rw [hbT.cell, V_get, ht.out]; rfl
         have d2 : w7.cell? ⟨gX, 2, none⟩ = some (cb t2) := by rw [hbT.cell, V_get, ht.out]; rfl
         have d3 : w7.cell? ⟨gX, 3, none⟩ = some (cb t3) := by rw [hbT.cell, V_get, ht.out]; rfl)
      | (go_at_call 18; refine H18b.out.mono ?_; clear H18b; rintro e w8 ⟨kv, rfl, ho8, e8⟩
         have H19c := Lib.hid (crc_calls _ (p ++ od) w8 ho8.rd (by have := HM.out; have := HO.out; simp; omega))
         rw [tkn_append, HX.out] at H19c)
      | (go_at_call 19; refine H19c.out.mono ?_; clear H19c; rintro e w9 ⟨rfl, e9⟩)
      | fail)
    go_ret
    exact ⟨rfl, ((((HE.out.trans e2).trans e3).trans e4).trans e6).trans e7⟩
  | false =>
    rw [hr] at hEq
    have hne := HU.out (of_decide_eq_false hr)
    have hnb : (~~~ tkn X od != want) = true := by simpa using hne
    clear hr hne
    go_enter Try.func7, Try.ntmps7
    go_wp2_with (first
      | (go_at_call 17; refine H17.out.mono ?_; clear H17; rintro e w2 ⟨rfl, e2⟩
         have H19a := Lib.hid (crc_calls _ p w2 ((HE.out.trans e2).rd HP.out) (by have := HM.out; omega))
         rw [HX.out] at H19a)
      | (go_at_call 19; refine H19a.out.mono ?_; clear H19a; rintro e w3 ⟨rfl, e3⟩
         have H26 := Lib.hid (tail_calls (~~~X) want w3)
         rw [HTt.out] at H26)
      | (go_at_call 26; refine H26.out.mono ?_; clear H26; rintro e w4 ⟨rfl, A, rfl⟩)
      | (refine wpList_store_row rfl 30 (.tmp 7) (.tmp 13) rfl (w3.heap.size + 1) (V cb t) (V cb (List.replicate 4 0#8)) 30 rfl rfl (by rw [zero4]; exact heap_second _ _ _) HZ.out HS.out (V_one _ (fun _ => rfl) _) ?_
         rw [setRow_second]
         have e4 : Ext w3 ((w3.alloc A).alloc (.cells (V cb t) 30)) := Ext.of_alloc2 _ _
         have b4 : Blk ((w3.alloc A).alloc (.cells (V cb t) 30)) (w3.heap.size + 1) (V cb t) 30 := heap_second _ _ _
         generalize (w3.alloc A).alloc (.cells (V cb t) 30) = w5 at *
         obtain ⟨gX, hgX⟩ : ∃ g, w3.heap.size + 1 = g := ⟨_, rfl⟩
         have HGX := Lib.hid hgX
         rw [hgX]
         clear hgX
         have H18 := Lib.hid (joined_calls _ _ p t w5 ((((HE.out.trans e2).trans e3).trans e4).rd HP.out) ((show Blk w5 gX (V cb t) 30 by rw [← HGX.out]; exact b4).whole (n := 4) (c := 4) H4.out.symm) (by have := HM.out; have := H4.out; omega)))
      | (go_at_call 18; refine H18.out.mono ?_; clear H18; rintro e w6 ⟨jv, rfl, ho6, e6⟩
         have H19b := Lib.hid (crc_calls _ (p ++ t) w6 ho6.rd (by have := HM.out; have := H4.out; simp; omega))
         rw [tkn_append, HX.out, HF.out] at H19b
         have hbT : Blk w6 gX (V cb t) 30 := by rw [← HGX.out]; exact b4.ext e6
         have hbO : Blk w6 W.heap.size (V cb od) 30 := ((((HT.out.ext e2).ext e3).ext e4).ext e6))
      | (go_at_call 19; refine H19b.out.mono ?_; clear H19b; rintro e w7 ⟨rfl, e7⟩
         have H18b := Lib.hid (joined_calls _ _ p od w7 ((((((HE.out.trans e2).trans e3).trans e4).trans e6).trans e7).rd HP.out) ((hbO.ext e7).whole (n := 4) (c := 4) HO.out.symm) (by have := HM.out; have := HO.out; omega))
         have hbT := hbT.ext e7
         have hbO := hbO.ext e7
         have c0 : w7.cell? ⟨W.heap.size, 0, none⟩ = some (cb o0) := by rw [hbO.cell, V_get, ho.out]; rfl
         have c1 : w7.cell? ⟨W.heap.size, 1, none⟩ = some (cb o1) := by rw [hbO.cell, V_get, ho.out]; rfl
         have c2 : w7.cell? ⟨W.heap.size, 2, none⟩ = some (cb o2) := by rw [hbO.cell, V_get, ho.out]; rfl
         have c3 : w7.cell? ⟨W.heap.size, 3, none⟩ = some (cb o3) := by rw [hbO.cell, V_get, ho.out]; rfl
         have d0 : w7.cell? ⟨gX, 0, none⟩ = some (cb t0) := by rw [hbT.cell, V_get, ht.out]; rfl
         have d1 : w7.cell? ⟨gX, 1, none⟩ = some (cb t1) := by rw [hbT.cell, V_get, ht.out]; rfl
         have d2 : w7.cell? ⟨gX, 2, none⟩ = some (cb t2) := by rw [hbT.cell, V_get, ht.out]; rfl
         have d3 : w7.cell? ⟨gX, 3, none⟩ = some (cb t3) := by rw [hbT.cell, V_get, ht.out]; rfl)
      | (go_at_call 18; refine H18b.out.mono ?_; clear H18b; rintro e w8 ⟨kv, rfl, ho8, e8⟩
         have H19c := Lib.hid (crc_calls _ (p ++ od) w8 ho8.rd (by have := HM.out; have := HO.out; simp; omega))
         rw [tkn_append, HX.out] at H19c)
      | (go_at_call 19; refine H19c.out.mono ?_; clear H19c; rintro e w9 ⟨rfl, e9⟩)
      | fail)
    go_ret
    exact ⟨rfl, ((((((HE.out.trans e2).trans e3).trans e4).trans e6).trans e7).trans e8).trans e9⟩
theorem forged_walk' (sv : Value) (p : List (BitVec 8)) (want : BitVec 32) (od : List (BitVec 8)) (hod : od.length = 4) (W : World) (hp : Rd W cb sv p) (hm : p.length * 1 ≤ 140737488351232) :
    Calls Try.prog 7 #[sv, c32 want, .agg (V cb od)] W fun e w' => e = .returned (.bool true) ∧ Below W.heap.size W w' :=
  (forged_walk sv p want od hod W hp (by omega)).mono fun e w' h => ⟨h.1, h.2.to⟩
end Go.Proofs.Ytbamkkbdcodafaa
