/- BalanceOwn: the walk of the law. -/
import Derived.Test.YtkpjnikmcojdlaaB25y
import Derived.Test.YtkpjnikmcojdlaaB25u
namespace Go.Proofs.Ytkpjnikmcojdlaa
open Go.RowKit
set_option linter.unusedVariables false

/-- 'append([]T{}, x...)' where nothing is drawn -/
theorem wpList_copy {P : Program} {α : Type} (f : α → Value) (hf1 : ∀ a, (f a).oneCell' = true) {ops : Array Oper} {rest : List Oper} {o : Oper} {a : Act} {w : World} {Q : Exit → Act → World → Prop} (hgd : o.guard = none) (s x : Operand) (t : TypeId)
    (ho : o.op = .call { callee := .builtin .append, args := #[s, x], argTypes := #[t, t] })
    (B : Nat) (e : TypeId) (i : TypeInfo) (z : α) (bytes : Nat) (ht : P.underlying t = some (.slice e)) (hi : P.info? e = some i) (hz : i.zero = some (f z))
    (hsize : i.size = 1) (hby : i.bytes = bytes) (hzs : (f z).cells.size = 1)
    (b : Nat) (hs : a.eval s = .slice (some ⟨b, 0, none⟩) 0 0) (hown : Own w B e f (.slice (some ⟨b, 0, none⟩) 0 0) []) (hB : B ≤ w.heap.size) (sv : Value) (m : List α) (hx : a.eval x = sv) (hm : Rd w f sv m)
    (hbytes : m.length * bytes ≤ 140737488355328) (h63 : m.length ≤ 9223372036854775807)
    (h : ∀ v' w', Own w' B e f v' m → Ext w w' → wpList P ops Q rest (a.put o.dst v') w') : wpList P ops Q (o :: rest) a w := by
  refine wpList_plain hgd fun K hK => ?_
  obtain ⟨v', w', hr, h1, h2⟩ := run_copy (P := P) f hf1 w B t o.type e i z bytes ht hi hz hsize hby hzs b hown hB sv m hm hbytes h63
  unfold Oper.wp execOp
  simp only [ho, resolve, invoke, builtin, Sem.run_bind, Sem.run_pure, Result.andThen_ok, List.map_toArray, List.map_cons, List.map_nil, hs, hx, hr]
  exact hK _ _ (h v' w' h1 h2)
/-- loads, moves and owners that a call has answered -/
structure Tri (w : World) (B : Nat) (vf vm vi : Value) (S : List Nat) (P : List Mv) (O : List Int) : Prop where
  f : Own w B 48 cf vf S
  m : OwnM w B vm P
  i : Own w B 3 ci vi O
section
variable {w w' w'' W : World} {B C : Nat} {vf vm vi uf um ui : Value} {S : List Nat} {P : List Mv} {O : List Int}
theorem Tri.ext (h : Tri w B vf vm vi S P O) (e : Ext w w') : Tri w' B vf vm vi S P O := ⟨e.own h.f, h.m.ext e, e.own h.i⟩
theorem Tri.keep {g1 g2 : Nat} (h : Tri w B vf vm vi S P O) (k : Bar w w' (.slice (some ⟨g1, 0, none⟩) 0 0) (.slice (some ⟨g2, 0, none⟩) 0 0)) (h1 : g1 < B) (h2 : g2 < B) : Tri w' B vf vm vi S P O := ⟨h.f.keep k h1 h2, h.m.keep k h1 h2, h.i.keep k h1 h2⟩
theorem Bar.other {a b v : Value} {T U s t n na nb : Nat} {D E : Nat} {xs xa xb : List Value} (h : Bar w w' a b) (k : w.ownsRow B T s v n xs) (ha : w.ownsRow D U t a na xa) (hb : w.ownsRow E U t b nb xb) (hT : T ≠ U) : w'.ownsRow B T s v n xs := by
  refine h.row k ?_
  rcases World.ownsRow.diff k ha hT with e | e
  · exact Or.inl e
  · rcases World.ownsRow.diff k hb hT with e2 | e2
    · exact Or.inl e2
    · exact Or.inr ⟨e, e2⟩
theorem aprt_of {a b : Value} {T s na xa nb xb} (ha : w.ownsRow B T s a na xa) (hb : w'.ownsRow w.heap.size T s b nb xb) : Aprt a b := by
  unfold Aprt
  cases h1 : a.ownBlock with
  | none => exact Or.inl rfl
  | some x =>
    cases h2 : b.ownBlock with
    | none => exact Or.inr (Or.inl rfl)
    | some y =>
      refine Or.inr (Or.inr fun e => ?_)
      have e : x = y := Option.some.inj e
      have := (World.ownsRow.lt ha x h1).2
      have := (World.ownsRow.lt hb y h2).1
      omega
theorem Ext.bar {a b : Value} {T s na nb : Nat} {xa xb : List Value} (e : Ext W w) (h : Bar w w' a b) (ha : w''.ownsRow B T s a na xa) (hb : w''.ownsRow C T s b nb xb) (h1 : W.heap.size ≤ B) (h2 : W.heap.size ≤ C) : Ext W w' :=
  e.below (h.below e.size (fun k hk => Nat.le_trans h1 (World.ownsRow.lt ha k hk).1) (fun k hk => Nat.le_trans h2 (World.ownsRow.lt hb k hk).1)) (Nat.le_refl _)
end
set_option maxHeartbeats 4000000 in
set_option maxRecDepth 100000 in
theorem own_bad (lv ov lv2 ov2 : Value) (l : List (BitVec 64)) (ow : List Int) (s s2 : Int) (W : World) (hl : Rd W cw lv l) (ho : Rd W ci ov ow) (hlm : l.length * 8 ≤ 140737488351232) (hom : ow.length * 8 ≤ 140737488351232) (hr : rightB (bitsOf l) ow s = false) :
    Calls Try.prog 10 #[.agg #[lv, ov, ci s], .agg #[lv2, ov2, ci s2]] W fun e w' => e = .returned (.bool true) ∧ Ext W w' := by
  obtain ⟨ad, c, rfl, -⟩ := hl.at
  obtain ⟨ad2, c2, rfl, -⟩ := ho.at
  have hbx := (Blk.new W #[.slice ad l.length c, .slice ad2 ow.length c2, ci s] 35).alloc (.cells #[lv2, ov2, ci s2] 35)
  have X0 := Lib.hid ((Ext.of_alloc (w := W) (.cells #[.slice ad l.length c, .slice ad2 ow.length c2, ci s] 35)).alloc (.cells #[lv2, ov2, ci s2] 35))
  obtain ⟨w0, hw0⟩ : ∃ x, (W.alloc (.cells #[.slice ad l.length c, .slice ad2 ow.length c2, ci s] 35)).alloc (.cells #[lv2, ov2, ci s2] 35) = x := ⟨_, rfl⟩
  rw [hw0] at X0 hbx
  obtain ⟨bx, hb⟩ : ∃ x, W.heap.size = x := ⟨_, rfl⟩
  rw [hb] at hbx
  have HW0 := Lib.hid hw0
  have HBX := Lib.hid hb
  have BX : Hid (∀ w', Ext w0 w' → w'.cell? ⟨bx, 0, none⟩ = some (.slice ad l.length c) ∧ w'.cell? ⟨bx, 1, none⟩ = some (.slice ad2 ow.length c2) ∧ w'.cell? ⟨bx, 2, none⟩ = some (ci s)) := fun w' e => ⟨(hbx.ext e).cell 0, (hbx.ext e).cell 1, (hbx.ext e).cell 2⟩
  have HA := Lib.hid (awake_calls w0)
  have HFL := Lib.hid (fun w (e : Ext w0 w) => floats_calls (.slice ad l.length c) l w ((X0.out.trans e).rd hl) hlm)
  have HIN := Lib.hid (fun w (e : Ext w0 w) => ints_calls (.slice ad2 ow.length c2) ow w ((X0.out.trans e).rd ho) hom)
  obtain ⟨ld, hld⟩ : ∃ x, bitsOf l = x := ⟨_, rfl⟩
  have hlt : ∀ x ∈ ld, x < 18446744073709551616 := by rw [← hld]; exact bits_lt l
  have hll : ld.length = l.length := by rw [← hld, bitsOf_len]
  rw [hld] at HFL hr
  have HLL := Lib.hid hll
  have hps : planR ld ow s 400 = none := by unfold planR; rw [hr]; rfl
  have hss : sumsR ld ow s = none := by unfold sumsR; rw [hr]; rfl
  have BS := Lib.hid (fun (w : World) (fv qv : Value) (h1 : Rd w cf fv ld) (h2 : Rd w ci qv ow) => bsums_calls fv qv ld ow s w h1 h2 hlt (by rw [hll]; omega) (by omega))
  have PL := Lib.hid (fun (w : World) (fv qv : Value) (h1 : Rd w cf fv ld) (h2 : Rd w ci qv ow) => plan_calls fv qv ld ow s 400 w h1 h2 hlt (by rw [hll]; omega) (by omega) (by omega) (fun h => by rw [hr] at h; cases h))
  rw [hss] at BS
  rw [hps] at PL
  clear hl ho hbx hw0 hb hld hlt hll hr hps hss
  go_enter Try.func10, Try.ntmps10
  go_upto_region 1 with fail
  rw [HW0.out, HBX.out]
  go_upto_region 3 with (first
    | (go_at_call 25; refine HA.out.mono ?_; clear HA; rintro e w1 ⟨rfl, e1⟩
       have E1 := Lib.hid e1
       clear e1)
    | fail)
  have K0 := BX.out w1 E1.out
  go_region_held3 (fun w' => w'.cell? ⟨bx, 0, none⟩ = some (.slice ad l.length c) ∧ w'.cell? ⟨bx, 1, none⟩ = some (.slice ad2 ow.length c2) ∧ w'.cell? ⟨bx, 2, none⟩ = some (ci s)) (first | exact K2 | exact K1 | exact K0)
    (first
      | (go_at_call 12; refine (HIN.out w2 E2.out).mono ?_
         rintro e w3 ⟨g2, c4, rfl, hc3, hc4, hlo2, ho2, hh2, e3⟩
         have E3 := Lib.hid (E2.out.trans e3)
         have RL : Hid (Rd w3 cf (.slice (some ⟨g1, 0, none⟩) l.length c3) ld) := (e3.own O1.out).head HLL.out
         have RO : Hid (Rd w3 ci (.slice (some ⟨g2, 0, none⟩) ow.length c4) ow) := ho2.head rfl
         have K2 := BX.out w3 E3.out
         have hc3' : (ow.length : Int) ≤ c4 := by omega
         clear e3 hh2 hlo2 ho2 O1)
      | (go_at_call 18; refine (HFL.out w1.drew (E1.out.drew)).mono ?_
         rintro e w2 ⟨g1, c3, rfl, hc1, hc2, hlo1, ho1, hh1, e2⟩
         have E2 := Lib.hid (E1.out.drew.trans e2)
         have K1 := BX.out w2 E2.out
         have O1 := Lib.hid ho1
         have hc1' : (l.length : Int) ≤ c3 := by omega
         clear e2 hh1 hlo1 ho1))
  obtain ⟨-, -, z2⟩ := BX.out w3 E3.out
  have S3 := Lib.hid (BS.out w3 _ _ RL.out RO.out)
  clear K0 K1 K2 HFL HIN BS E1 E2
  go_wp2_with (first
    | (go_at_call 19; refine S3.out.mono ?_; clear S3; rintro e w4 ⟨hres, e4⟩
       have he := sums_none hres
       subst he
       have E4 := Lib.hid (E3.out.trans e4)
       have P4 := Lib.hid (PL.out w4 _ _ (e4.rd RL.out) (e4.rd RO.out))
       obtain ⟨-, -, z2⟩ := BX.out w4 E4.out
       clear hres e4 RL RO PL)
    | (go_at_call 24; refine P4.out.mono ?_; clear P4; rintro e w5 ⟨hres, e5⟩
       have he := plan_none hres
       subst he
       have E5 := Lib.hid (E4.out.trans e5)
       clear hres e5 z2)
    | fail)
  all_goals go_ret
  all_goals exact ⟨rfl, X0.out.trans E5.out⟩
set_option maxHeartbeats 8000000 in
set_option maxRecDepth 100000 in
theorem own_right (lv ov lv2 ov2 : Value) (l l2 : List (BitVec 64)) (ow ow2 : List Int) (s s2 : Int) (W : World) (hl : Rd W cw lv l) (ho : Rd W ci ov ow) (hl2 : Rd W cw lv2 l2) (ho2 : Rd W ci ov2 ow2) (hlm2 : l2.length * 8 ≤ 140737488351232) (hom2 : ow2.length * 8 ≤ 140737488351232) (hr : rightB (bitsOf l) ow s = true) :
    Calls Try.prog 10 #[.agg #[lv, ov, ci s], .agg #[lv2, ov2, ci s2]] W fun e w' => e = .returned (.bool true) ∧ Ext W w' := by
  obtain ⟨i48, j1, j2, j3, j4⟩ := info_parts Try.info48
  have hz : i48.zero = some (cf 0) := j2
  obtain ⟨i3, n1, n2, n3, n4⟩ := info_parts Try.info3
  have hz3 : i3.zero = some (ci 0) := n2
  have rt := right_rt (bits_lt l) hr
  obtain ⟨n, hn⟩ : ∃ x, ow.length = x := ⟨_, rfl⟩
  have hll : l.length = n := by rw [← hn, ← bitsOf_len l]; exact rt.len
  have hn64 : n ≤ 64 := by rw [← hn]; exact rt.many
  obtain ⟨ad, c, ea, -⟩ := hl.at
  obtain ⟨ad2, c2, eb, -⟩ := ho.at
  rw [hll] at ea
  rw [hn] at eb
  subst ea eb
  obtain ⟨bd, d, rfl, -⟩ := hl2.at
  obtain ⟨bd2, d2, rfl, -⟩ := ho2.at
  have hs1 : 0 < s := rt.lo
  have hs2 : s ≤ 8 := rt.hi
  have NN0 := Lib.hid rt.nn
  have hbx := (Blk.new W #[.slice ad n c, .slice ad2 n c2, ci s] 35).alloc (.cells #[.slice bd l2.length d, .slice bd2 ow2.length d2, ci s2] 35)
  have hby := Blk.new (W.alloc (.cells #[.slice ad n c, .slice ad2 n c2, ci s] 35)) #[.slice bd l2.length d, .slice bd2 ow2.length d2, ci s2] 35
  rw [World.size_alloc] at hby
  have X0 := Lib.hid ((Ext.of_alloc (w := W) (.cells #[.slice ad n c, .slice ad2 n c2, ci s] 35)).alloc (.cells #[.slice bd l2.length d, .slice bd2 ow2.length d2, ci s2] 35))
  obtain ⟨w0, hw0⟩ : ∃ x, (W.alloc (.cells #[.slice ad n c, .slice ad2 n c2, ci s] 35)).alloc (.cells #[.slice bd l2.length d, .slice bd2 ow2.length d2, ci s2] 35) = x := ⟨_, rfl⟩
  rw [hw0] at X0 hbx hby
  obtain ⟨bx, hb⟩ : ∃ x, W.heap.size = x := ⟨_, rfl⟩
  rw [hb] at hbx hby
  have HW0 := Lib.hid hw0
  have HBX := Lib.hid hb
  have BX : Hid (∀ w', Ext w0 w' → w'.cell? ⟨bx, 0, none⟩ = some (.slice ad n c) ∧ w'.cell? ⟨bx, 1, none⟩ = some (.slice ad2 n c2) ∧ w'.cell? ⟨bx, 2, none⟩ = some (ci s)) := fun w' e => ⟨(hbx.ext e).cell 0, (hbx.ext e).cell 1, (hbx.ext e).cell 2⟩
  have BY : Hid (∀ w', Ext w0 w' → w'.cell? ⟨bx + 1, 0, none⟩ = some (.slice bd l2.length d) ∧ w'.cell? ⟨bx + 1, 1, none⟩ = some (.slice bd2 ow2.length d2) ∧ w'.cell? ⟨bx + 1, 2, none⟩ = some (ci s2)) := fun w' e => ⟨(hby.ext e).cell 0, (hby.ext e).cell 1, (hby.ext e).cell 2⟩
  have HA := Lib.hid (awake_calls w0)
  have HFL := Lib.hid (fun w (e : Ext w0 w) => floats_calls (.slice ad n c) l w ((X0.out.trans e).rd hl) (by omega))
  have HIN := Lib.hid (fun w (e : Ext w0 w) => ints_calls (.slice ad2 n c2) ow w ((X0.out.trans e).rd ho) (by omega))
  have HF2 := Lib.hid (fun w (e : Ext w0 w) => floats_calls (.slice bd l2.length d) l2 w ((X0.out.trans e).rd hl2) hlm2)
  have HO2 := Lib.hid (fun w (e : Ext w0 w) => (X0.out.trans e).rd ho2)
  have HL0 := Lib.hid (fun w (e : Ext w0 w) => (X0.out.trans e).rd hl)
  have HO0 := Lib.hid (fun w (e : Ext w0 w) => (X0.out.trans e).rd ho)
  have HR0 := Lib.hid hr
  obtain ⟨ld, hld⟩ : ∃ x, bitsOf l = x := ⟨_, rfl⟩
  have HLN : Hid (ld.length = n) := by show _ = _; rw [← hld, bitsOf_len, hll]
  rw [hld, hll] at HFL
  rw [hld] at NN0 hr
  rw [hn] at HIN
  have HON := Lib.hid hn
  obtain ⟨m, hm⟩ : ∃ m : Nat, s = (m : Int) := ⟨s.toNat, by omega⟩
  obtain ⟨PA, hPA⟩ : ∃ P, planF ld m 400 ow = P := ⟨_, rfl⟩
  have hPl : PA.length ≤ 400 := by rw [← hPA]; exact planF_len _ _ _ _
  have HPL : Hid (PA.length ≤ 400) := hPl
  obtain ⟨OA, hOA⟩ : ∃ x, afterF ld m 400 ow = x := ⟨_, rfl⟩
  have HOA : Hid (OA.length = n) := by show _ = _; rw [← hOA, after_len, hn]
  have HAP : Hid (applied ow s PA = some OA) := by
    show _ = _
    subst hm
    rw [← hPA, applied_plan hr 400, hOA]
  have HPR : Hid (planR ld ow s 400 = some PA) := by
    show _ = _
    subst hm
    unfold planR
    rw [hr, if_pos rfl, Int.toNat_natCast]
    exact congrArg some hPA
  obtain ⟨SA, hSA⟩ : ∃ x, sumsOf ld ow s.toNat = x := ⟨_, rfl⟩
  have HSR : Hid (sumsR ld ow s = some SA) := by show _ = _; unfold sumsR; rw [hr, if_pos rfl, hSA]
  have HSL : Hid (SA.length ≤ 64) := by show _ ≤ _; rw [← hSA, sumsOf_len]; omega
  have hs64 : -9223372036854775808 ≤ s ∧ s ≤ 9223372036854775807 := by omega
  have BS := Lib.hid (fun (D : List Nat) (O : List Int) (w : World) (fv qv : Value) (h1 : Rd w cf fv D) (h2 : Rd w ci qv O) (h3 : D.length = n) (h4 : O.length = n) (h5 : ∀ z ∈ D, nn z) => bsums_calls fv qv D O s w h1 h2 (fun z hz => nn_word (h5 z hz)) (by omega) (by omega))
  have PL := Lib.hid (fun (D : List Nat) (O : List Int) (w : World) (fv qv : Value) (h1 : Rd w cf fv D) (h2 : Rd w ci qv O) (h3 : D.length = n) (h4 : O.length = n) (h5 : ∀ z ∈ D, nn z) => plan_calls fv qv D O s 400 w h1 h2 (fun z hz => nn_word (h5 z hz)) (by omega) (by omega) (by omega) (fun _ => planF_len _ _ _ _))
  have AP := Lib.hid (fun (O : List Int) (w : World) (qv : Value) (pv : Value) (P : List Mv) (h2 : Rd w ci qv O) (h4 : O.length = n) (h5 : RdM w pv P) (h6 : P.length ≤ 400) => apply_calls qv O s pv P w h2 (by omega) hs64 h5 (by omega))
  have BS2 := Lib.hid (fun (w : World) (fv qv : Value) (h1 : Rd w cf fv (bitsOf l2)) (h2 : Rd w ci qv ow2) => bsums_calls fv qv (bitsOf l2) ow2 s2 w h1 h2 (bits_lt l2) (by rw [bitsOf_len]; omega) (by omega))
  have PL2 := Lib.hid (fun (w : World) (fv qv : Value) (h1 : Rd w cf fv (bitsOf l2)) (h2 : Rd w ci qv ow2) => plan_calls fv qv (bitsOf l2) ow2 s2 9 w h1 h2 (bits_lt l2) (by rw [bitsOf_len]; omega) (by omega) (by omega) (fun _ => Nat.le_trans (planF_len _ _ _ _) (by omega)))
  have hn' : (n : Int) ≤ 64 := by omega
  clear hl ho hl2 ho2 hr rt hbx hby hw0 hb hld hll hn hm hPA hOA hSA hlm2 hom2 hPl
  go_enter Try.func10, Try.ntmps10
  go_upto_region 1 with fail
  rw [HW0.out, HBX.out]
  go_upto_region 3 with (first
    | (go_at_call 25; refine HA.out.mono ?_; clear HA; rintro e w1 ⟨rfl, e1⟩
       have E1 := Lib.hid e1
       clear e1)
    | fail)
  have K0 := BX.out w1 E1.out
  go_region_held3 (fun w' => w'.cell? ⟨bx, 0, none⟩ = some (.slice ad n c) ∧ w'.cell? ⟨bx, 1, none⟩ = some (.slice ad2 n c2) ∧ w'.cell? ⟨bx, 2, none⟩ = some (ci s)) (first | exact K2 | exact K1 | exact K0)
    (first
      | (go_at_call 12; refine (HIN.out w2 E2.out).mono ?_
         rintro e w3 ⟨g2, c4, rfl, hc3, hc4, hlo2, ho2, hh2, e3⟩
         have E3 := Lib.hid (E2.out.trans e3)
         have P3 : Hid (Pr w3 w3 w0.heap.size g1 c3 g2 c4 n ld 13842939354630062080 ow (-77)) := ⟨e3.own (O1.out.2.mono (E1.out.drew).size), ho2.mono E2.out.size, HLN.out, HON.out, Bar.refl _ _ _⟩
         have K2 := BX.out w3 E3.out
         have hc3' : (n : Int) ≤ c4 := by omega
         have HC4 := Lib.hid hc4
         clear e3 hh2 hlo2 ho2)
      | (go_at_call 18; refine (HFL.out w1.drew (E1.out.drew)).mono ?_
         rintro e w2 ⟨g1, c3, rfl, hc1, hc2, hlo1, ho1, hh1, e2⟩
         have E2 := Lib.hid (E1.out.drew.trans e2)
         have K1 := BX.out w2 E2.out
         have O1 := Lib.hid (And.intro hlo1 ho1)
         have hc1' : (n : Int) ≤ c3 := by omega
         have HC3 := Lib.hid hc2
         clear e2 hh1 hlo1 ho1))
  have HC := Lib.hid (And.intro (show n ≤ c3 by omega) (And.intro (show n ≤ c4 by omega) (And.intro HC3.out HC4.out)))
  obtain ⟨-, -, z2⟩ := BX.out w3 E3.out
  have S3 := Lib.hid (BS.out ld ow w3 _ _ (P3.out.rdL c3) (P3.out.rdO c4) P3.out.nl P3.out.no NN0.out)
  rw [HSR.out] at S3
  have G3 : Hid (g1 < w3.heap.size ∧ g2 < w3.heap.size) := P3.out.blocks.2.2
  have E3s := Lib.hid E3.out
  clear K0 K1 K2 HFL HIN E1 E2 O1 HC3 HC4
  go_upto_region 12 with (first
    | (go_at_call 19; refine S3.out.mono ?_; clear S3; rintro e w4 ⟨hres, e4⟩
       obtain ⟨va, rfl, hva⟩ := sums_some hres
       have E4 := Lib.hid (E3.out.trans e4)
       have P4 := Lib.hid (P3.out.ext e4)
       have S4 := Lib.hid (PL.out ld ow w4 _ _ (P4.out.rdL c3) (P4.out.rdO c4) P4.out.nl P4.out.no NN0.out)
       rw [HPR.out] at S4
       have F4 := Lib.hid e4
       have VA := Lib.hid hva
       obtain ⟨-, -, z2⟩ := BX.out w4 E4.out
       clear hres e4 P3 E3 hva)
    | (go_at_call 24; refine S4.out.mono ?_; clear S4; rintro e w5 ⟨hres, e5⟩
       obtain ⟨vp, rfl, hvp⟩ := plan_some hres
       have E5 := Lib.hid (E4.out.trans e5)
       have P5 := Lib.hid (P4.out.ext e5)
       have S5 := Lib.hid (AP.out ow w5 _ _ PA (P5.out.rdO c4) P5.out.no hvp.rd HPL.out)
       rw [HAP.out] at S5
       have F5 := Lib.hid (F4.out.trans e5)
       have VA5 := Lib.hid (e5.own VA.out)
       have VP5 := Lib.hid (hvp.mono F4.out.size)
       obtain ⟨-, -, z2⟩ := BX.out w5 E5.out
       clear hres e5 P4 E4 VA hvp F4)
    | (go_at_call 13; refine S5.out.mono ?_; clear S5; rintro e w6 ⟨hres, e6⟩
       obtain ⟨vu, rfl, hvu⟩ := apply_some hres
       have E6 := Lib.hid (E5.out.trans e6)
       have P6 := Lib.hid (P5.out.ext e6)
       have T1 : Hid (Tri w6 w3.heap.size va vp vu SA PA OA) := ⟨e6.own VA5.out, VP5.out.ext e6, hvu.mono F5.out.size⟩
       have M6 : Hid (Own (w6.alloc (.cells #[] 48)) w6.heap.size 48 cf (.slice (some ⟨w6.heap.size, 0, none⟩) 0 0) []) := Own.made (Nat.le_refl _)
       clear hres e6 P5 E5 VA5 VP5 hvu z2)
    | (at_builtin; refine wpList_copy cf cf_one rfl (.tmp 82) (.tmp 83) 36 rfl w6.heap.size 48 i48 0 8 Try.u36 j1 hz j3 j4 rfl _ rfl M6.out (Ext.size (by repeat (first | exact Ext.refl _ | refine Ext.alloc ?_ _ | refine Ext.drew ?_))) _ SA rfl (Ext.rd (by repeat (first | exact Ext.refl _ | refine Ext.alloc ?_ _ | refine Ext.drew ?_)) T1.out.f.rd) (by have := HSL.out; omega) (by have := HSL.out; omega) ?_
       intro vA w7 h1 h2
       have VA7 := Lib.hid h1
       have F7 : Hid (Ext w6 w7) := (Ext.of_alloc _).trans h2
       have M7 : Hid (OwnM (w7.alloc (.cells #[] 29)) w7.heap.size (.slice (some ⟨w7.heap.size, 0, none⟩) 0 0) []) := OwnM.made (Nat.le_refl _)
       clear h1 h2 M6)
    | (at_builtin; refine wpList_append_moves rfl (.tmp 85) (.tmp 86) rfl w7.heap.size _ [] rfl M7.out _ PA rfl ((T1.out.m.ext (F7.out.alloc _)).rd) (by have := HPL.out; simp; omega) (Ext.size (by repeat (first | exact Ext.refl _ | refine Ext.alloc ?_ _ | refine Ext.drew ?_))) ?_
       intro vP w8 h1 h2 _
       have F8 : Hid (Ext w6 w8) := F7.out.trans ((Ext.of_alloc _).grown1 h2 (Nat.le_refl _))
       have VP8 : Hid (OwnM w8 w6.heap.size vP PA) := OwnM.mono h1 F7.out.size
       have VA8 : Hid (Own w8 w6.heap.size 48 cf vA SA) := ((Ext.of_alloc _).grown1 h2 (Nat.le_refl _)).own VA7.out
       have M8 : Hid (Own (w8.alloc (.cells #[] 3)) w8.heap.size 3 ci (.slice (some ⟨w8.heap.size, 0, none⟩) 0 0) []) := Own.made (Nat.le_refl _)
       clear h1 h2 M7 VA7 F7)
    | (at_builtin; refine wpList_copy ci ci_one rfl (.tmp 88) (.tmp 89) 22 rfl w8.heap.size 3 i3 0 8 Try.u22 n1 hz3 n3 n4 rfl _ rfl M8.out (Ext.size (by repeat (first | exact Ext.refl _ | refine Ext.alloc ?_ _ | refine Ext.drew ?_))) _ OA rfl (Ext.rd (by repeat (first | exact Ext.refl _ | exact F8.out | refine Ext.alloc ?_ _ | refine Ext.drew ?_ | refine Ext.trans ?_ F8.out)) T1.out.i.rd) (by have := HOA.out; omega) (by have := HOA.out; omega) ?_
       intro vU w9 h1 h2
       have F9 : Hid (Ext w6 w9) := F8.out.trans ((Ext.of_alloc _).trans h2)
       have T2 : Hid (Tri w9 w6.heap.size vA vP vU SA PA OA) := ⟨((Ext.of_alloc _).trans h2).own VA8.out, VP8.out.ext ((Ext.of_alloc _).trans h2), h1.mono F8.out.size⟩
       have T19 := Lib.hid (T1.out.ext F9.out)
       have E9 := Lib.hid (E6.out.trans F9.out)
       have P9 := Lib.hid (P6.out.ext F9.out)
       have G6 : Hid (g1 < w6.heap.size ∧ g2 < w6.heap.size) := P6.out.blocks.2.2
       clear h1 h2 M8 VA8 VP8 F8 T1 E6 P6)
    | fail)
  have K0 := BY.out w9 E9.out
  have KY9 : Hid (∀ w', Ext w9 w' → w'.cell? ⟨bx + 1, 0, none⟩ = some (.slice bd l2.length d) ∧ w'.cell? ⟨bx + 1, 1, none⟩ = some (.slice bd2 ow2.length d2) ∧ w'.cell? ⟨bx + 1, 2, none⟩ = some (ci s2)) := fun w' e => BY.out w' (E9.out.trans e)
  go_region_held3 (fun w' => w'.cell? ⟨bx + 1, 0, none⟩ = some (.slice bd l2.length d) ∧ w'.cell? ⟨bx + 1, 1, none⟩ = some (.slice bd2 ow2.length d2) ∧ w'.cell? ⟨bx + 1, 2, none⟩ = some (ci s2)) (first | exact K0 | exact KY9.out _ (by repeat (first | exact Ext.refl _ | exact X11.out | exact X10.out | refine Ext.alloc ?_ _ | refine Ext.drew ?_ | refine Ext.trans ?_ X11.out | refine Ext.trans ?_ X10.out)))
    (first
      | (go_at_call 19; refine (BS2.out w10 _ _ (RW.out _) (HO2.out w10 (E9.out.trans (by repeat (first | exact Ext.refl _ | exact X10.out | refine Ext.alloc ?_ _ | refine Ext.drew ?_ | refine Ext.trans ?_ X10.out))))).mono ?_; rintro e w11 ⟨hres, e11⟩
         obtain ⟨dv, rfl, -⟩ := hres.own
         have X11 := Lib.hid e11
         clear hres e11)
      | (go_at_call 18; refine (HF2.out w9.drew (E9.out.drew)).mono ?_; rintro e w10 ⟨ga, ca, rfl, -, -, -, -, hh, e10⟩
         have X10 := Lib.hid e10
         have RW : Hid (∀ c, Rd w10 cf (.slice (some ⟨ga, 0, none⟩) l2.length c) (bitsOf l2)) := fun c => hh.rd (bitsOf_len l2).symm
         clear hh e10))
  have F11 : Hid (Ext w9 w11) := (by repeat (first | exact Ext.refl _ | exact X11.out | exact X10.out | refine Ext.alloc ?_ _ | refine Ext.drew ?_ | refine Ext.trans ?_ X11.out | refine Ext.trans ?_ X10.out))
  have E11 := Lib.hid (E9.out.trans F11.out)
  have T111 := Lib.hid (T19.out.ext F11.out)
  have T211 := Lib.hid (T2.out.ext F11.out)
  have P11 := Lib.hid (P9.out.ext F11.out)
  clear K0 KY9 X10 X11 RW T19 T2 P9 E9 F11 BS2
  go_upto_region 13 with fail
  have K0 := BY.out w11 E11.out
  have KY9 : Hid (∀ w', Ext w11 w' → w'.cell? ⟨bx + 1, 0, none⟩ = some (.slice bd l2.length d) ∧ w'.cell? ⟨bx + 1, 1, none⟩ = some (.slice bd2 ow2.length d2) ∧ w'.cell? ⟨bx + 1, 2, none⟩ = some (ci s2)) := fun w' e => BY.out w' (E11.out.trans e)
  go_region_held3 (fun w' => w'.cell? ⟨bx + 1, 0, none⟩ = some (.slice bd l2.length d) ∧ w'.cell? ⟨bx + 1, 1, none⟩ = some (.slice bd2 ow2.length d2) ∧ w'.cell? ⟨bx + 1, 2, none⟩ = some (ci s2)) (first | exact K0 | exact KY9.out _ (by repeat (first | exact Ext.refl _ | exact X13.out | exact X12.out | refine Ext.alloc ?_ _ | refine Ext.drew ?_ | refine Ext.trans ?_ X13.out | refine Ext.trans ?_ X12.out)))
    (first
      | (go_at_call 24; refine (PL2.out w12 _ _ (RW.out _) (HO2.out w12 (E11.out.trans (by repeat (first | exact Ext.refl _ | exact X12.out | refine Ext.alloc ?_ _ | refine Ext.drew ?_ | refine Ext.trans ?_ X12.out))))).mono ?_; rintro e w13 ⟨hres, e13⟩
         obtain ⟨dv2, rfl, -⟩ := hres.own
         have X13 := Lib.hid e13
         clear hres e13)
      | (go_at_call 18; refine (HF2.out w11.drew (E11.out.drew)).mono ?_; rintro e w12 ⟨gb, cb, rfl, -, -, -, -, hh, e12⟩
         have X12 := Lib.hid e12
         have RW : Hid (∀ c, Rd w12 cf (.slice (some ⟨gb, 0, none⟩) l2.length c) (bitsOf l2)) := fun c => hh.rd (bitsOf_len l2).symm
         clear hh e12))
  have F13 : Hid (Ext w11 w13) := (by repeat (first | exact Ext.refl _ | exact X13.out | exact X12.out | refine Ext.alloc ?_ _ | refine Ext.drew ?_ | refine Ext.trans ?_ X13.out | refine Ext.trans ?_ X12.out))
  have E13 := Lib.hid (E11.out.trans F13.out)
  have T113 := Lib.hid (T111.out.ext F13.out)
  have T213 := Lib.hid (T211.out.ext F13.out)
  have P13 := Lib.hid (P11.out.ext F13.out)
  clear K0 KY9 X12 X13 RW T111 T211 P11 E11 F13 PL2 HF2 HO2 BY
  obtain ⟨-, -, z2⟩ := BX.out w13 E13.out
  have S13 := Lib.hid (BS.out ld ow w13 _ _ (P13.out.rdL c3) (P13.out.rdO c4) P13.out.nl P13.out.no NN0.out)
  rw [HSR.out] at S13
  have GB : Hid (w0.heap.size ≤ w13.heap.size) := E13.out.size
  have G13 : Hid (g1 < w13.heap.size ∧ g2 < w13.heap.size) := P13.out.blocks.2.2
  go_wp2_with (first
    | (go_at_call 19; refine S13.out.mono ?_; clear S13; rintro e w14 ⟨hres, e14⟩
       obtain ⟨vb, rfl, hva⟩ := sums_some hres
       have E14 := Lib.hid (E13.out.trans e14)
       have P14 := Lib.hid (P13.out.ext e14)
       have S14 := Lib.hid (PL.out ld ow w14 _ _ (P14.out.rdL c3) (P14.out.rdO c4) P14.out.nl P14.out.no NN0.out)
       rw [HPR.out] at S14
       have F14 := Lib.hid e14
       have VA := Lib.hid hva
       obtain ⟨-, -, z2⟩ := BX.out w14 E14.out
       clear hres e14 P13 E13 hva)
    | (go_at_call 24; refine S14.out.mono ?_; clear S14; rintro e w15 ⟨hres, e15⟩
       obtain ⟨vq, rfl, hvp⟩ := plan_some hres
       have E15 := Lib.hid (E14.out.trans e15)
       have P15 := Lib.hid (P14.out.ext e15)
       have S15 := Lib.hid (AP.out ow w15 _ _ PA (P15.out.rdO c4) P15.out.no hvp.rd HPL.out)
       rw [HAP.out] at S15
       have F15 := Lib.hid (F14.out.trans e15)
       have VA5 := Lib.hid (e15.own VA.out)
       have VP5 := Lib.hid (hvp.mono F14.out.size)
       obtain ⟨-, -, z2⟩ := BX.out w15 E15.out
       clear hres e15 P14 E14 VA hvp F14)
    | (go_at_call 13; refine S15.out.mono ?_; clear S15; rintro e w16 ⟨hres, e16⟩
       obtain ⟨vv, rfl, hvu⟩ := apply_some hres
       have E16 := Lib.hid (E15.out.trans e16)
       have F16 := Lib.hid (F15.out.trans e16)
       have P16 := Lib.hid (P15.out.ext e16)
       have T1 := Lib.hid (T113.out.ext F16.out)
       have T2 := Lib.hid (T213.out.ext F16.out)
       have T3 : Hid (Tri w16 w13.heap.size vb vq vv SA PA OA) := ⟨e16.own VA5.out, VP5.out.ext e16, hvu.mono F15.out.size⟩
       have SM := Lib.hid (fun n => sameFloats_calls va vA SA (w16.drewN n) T1.out.f.rd.drewN T2.out.f.rd.drewN (by have := HSL.out; omega))
       have SN := Lib.hid (fun n => sameMoves_calls vp vP PA (w16.drewN n) (T1.out.m.rd.drewN n) (T2.out.m.rd.drewN n) (by have := HPL.out; omega))
       have SO := Lib.hid (fun n => same_true vu vU OA (w16.drewN n) T1.out.i.rd.drewN T2.out.i.rd.drewN (by have := HOA.out; omega))
       have SM2 := Lib.hid (fun n => sameFloats_calls vb vA SA (w16.drewN n) T3.out.f.rd.drewN T2.out.f.rd.drewN (by have := HSL.out; omega))
       have SN2 := Lib.hid (fun n => sameMoves_calls vq vP PA (w16.drewN n) (T3.out.m.rd.drewN n) (T2.out.m.rd.drewN n) (by have := HPL.out; omega))
       have SO2 := Lib.hid (fun n => same_true vv vU OA (w16.drewN n) T3.out.i.rd.drewN T2.out.i.rd.drewN (by have := HOA.out; omega))
       have N0 : Hid (w16 = w16.drewN 0) := rfl
       have AF : Hid (Aprt va vb) := aprt_of T113.out.f T3.out.f
       have AM : Hid (Aprt vp vq) := aprt_of T113.out.m T3.out.m
       have AI : Hid (Aprt vu vv) := aprt_of T113.out.i T3.out.i
       clear hres e16 P15 E15 VA5 VP5 hvu z2 T113 T213 F15)
    | (go_at_call 21; refine (SM.out 0).mono ?_; rintro e w17 ⟨rfl, n1', h17⟩; clear SM
       obtain ⟨y1, hy1⟩ : ∃ y, w17 = w16.drewN y := ⟨n1', by rw [← h17]; rfl⟩
       clear h17
       subst hy1)
    | (go_at_call 15; refine (SN.out y1).mono ?_; rintro e w17 ⟨rfl, n2', h17⟩; clear SN
       obtain ⟨y2, hy2⟩ : ∃ y, w17 = w16.drewN y := ⟨y1 + n2', by rw [← h17, World.drewN_drewN]⟩
       clear h17
       subst hy2)
    | (go_at_call 16; refine (SO.out y2).mono ?_; rintro e w17 ⟨rfl, n3', h17⟩; clear SO
       obtain ⟨y3, hy3⟩ : ∃ y, w17 = w16.drewN y := ⟨y2 + n3', by rw [← h17, World.drewN_drewN]⟩
       clear h17
       subst hy3)
    | (go_at_call 21; refine (SM2.out y3).mono ?_; rintro e w17 ⟨rfl, n4', h17⟩; clear SM2
       obtain ⟨y4, hy4⟩ : ∃ y, w17 = w16.drewN y := ⟨y3 + n4', by rw [← h17, World.drewN_drewN]⟩
       clear h17
       subst hy4)
    | (go_at_call 15; refine (SN2.out y4).mono ?_; rintro e w17 ⟨rfl, n5', h17⟩; clear SN2
       obtain ⟨y5, hy5⟩ : ∃ y, w17 = w16.drewN y := ⟨y4 + n5', by rw [← h17, World.drewN_drewN]⟩
       clear h17
       subst hy5)
    | (go_at_call 16; refine (SO2.out y5).mono ?_; rintro e w17 ⟨rfl, n6', h17⟩; clear SO2
       obtain ⟨y6, hy6⟩ : ∃ y, w17 = w16.drewN y := ⟨y5 + n6', by rw [← h17, World.drewN_drewN]⟩
       clear h17
       subst hy6)
    | fail)
  have P17 := Lib.hid ((P16.out.ext ((Ext.refl w16).drewN y6)).again)
  have T117 := Lib.hid (T1.out.ext ((Ext.refl w16).drewN y6))
  have T217 := Lib.hid (T2.out.ext ((Ext.refl w16).drewN y6))
  have T317 := Lib.hid (T3.out.ext ((Ext.refl w16).drewN y6))
  have E17 := Lib.hid (E16.out.drewN y6)
  clear T1 T2 T3 E16 P16 F16
  generalize w16.drewN y6 = w17 at *
  go_loopw [22] (fun iv wr => ∃ (i : Nat) (L' : List Nat) (O' : List Int), i ≤ n ∧ iv = .int .i64 i ∧ Hid (Pr w17 wr w0.heap.size g1 c3 g2 c4 n L' 13842939354630062080 O' (-77) ∧ (∀ q, q < i → L'[q]? = some (whl q)) ∧ ∀ q, q < i → O'[q]? = some 0)) (fun iv _ => (n - (intOf iv).toNat))
  case atStart => exact ⟨0, ld, ow, by omega, rfl, P17.out, fun q hq => by omega, fun q hq => by omega⟩
  case round =>
    clear P17
    obtain ⟨i, L', O', hi, rfl, hT⟩ := hrel
    by_cases hlt : i < n
    · have hlt' : (i : Int) < n := by omega
      obtain ⟨a1, a2⟩ := hT.out.1.cellL hlt
      obtain ⟨b1, b2⟩ := (hT.out.1.setL hlt (whl i)).cellO hlt
      have hcv : ∀ w, (convert 3 48 (.int .i64 (i : Int))).run Try.prog w = .ok (cf (whl i)) w := conv_whl rfl
      have HS := Lib.hid ((hT.out.1.setL hlt (whl i)).setO hlt 0)
      have HF1 : Hid (∀ q, q < i + 1 → (L'.set i (whl i))[q]? = some (whl q)) := fill_set (F := whl) hT.out.2.1 (by rw [hT.out.1.nl]; exact hlt)
      have HF2 : Hid (∀ q, q < i + 1 → (O'.set i 0)[q]? = some 0) := fill_set (F := fun _ => (0 : Int)) hT.out.2.2 (by rw [hT.out.1.no]; exact hlt)
      generalize L'[i]'(by rw [hT.out.1.nl]; exact hlt) = u0 at *
      generalize O'[i]'(by rw [hT.out.1.no]; exact hlt) = v0 at *
      clear hT
      go_wp2_with fail
      go_roundw
      case measure => simp only [intOf]; omega
      case rel => exact ⟨i + 1, _, _, by omega, by go_num, HS.out, HF1.out, HF2.out⟩
    · obtain rfl : n = i := by omega
      have hL3 : L' = (List.range n).map whl := fill_list hT.out.1.nl hT.out.2.1
      have hO3 : O' = List.replicate n 0 := by rw [← fill_const]; exact fill_list hT.out.1.no hT.out.2.2
      have E18 := Lib.hid (hT.out.1.extB E17.out (Nat.le_refl _))
      have P18 := Lib.hid hT.out.1.again
      have T118 := Lib.hid (T117.out.keep hT.out.1.bar G3.out.1 G3.out.2)
      have T218 := Lib.hid (T217.out.keep hT.out.1.bar G6.out.1 G6.out.2)
      have T318 := Lib.hid (T317.out.keep hT.out.1.bar G13.out.1 G13.out.2)
      have RZ := Lib.hid (whl_right (n := n) hn64 hs1 hs2)
      have NZ : Hid (∀ z ∈ (List.range n).map whl, nn z) := fun z hz => by
        obtain ⟨q, hq, rfl⟩ := List.mem_map.1 hz
        exact Or.inl (whl_good (by have := List.mem_range.1 hq; omega))
      have AZ := Lib.hid (zeros_apply (n := n) hn64 hs1 hs2)
      subst hL3 hO3
      clear hT T117 T217 T317 E17 hi hlt NN0 HSR HAP HPR G3 G6 G13
      generalize wr = w18 at *
      have HSX : Hid (∃ x, sumsR ((List.range n).map whl) (List.replicate n 0) s = some x ∧ x.length ≤ 64) := by
        refine ⟨sumsOf ((List.range n).map whl) (List.replicate n 0) s.toNat, ?_, ?_⟩
        · unfold sumsR; rw [RZ.out, if_pos rfl]
        · rw [sumsOf_len]; omega
      obtain ⟨SX, hSX, hSXl⟩ := HSX.out
      have HPX : Hid (∃ x, planR ((List.range n).map whl) (List.replicate n 0) s 400 = some x ∧ x.length ≤ 400) := by
        refine ⟨planF ((List.range n).map whl) s.toNat (400 : Int).toNat (List.replicate n 0), ?_, planF_len _ _ _ _⟩
        unfold planR; rw [RZ.out, if_pos rfl]
      obtain ⟨PX, hPX, hPXl⟩ := HPX.out
      obtain ⟨LW, hLW⟩ : ∃ x, (List.range n).map whl = x := ⟨_, rfl⟩
      obtain ⟨OZ, hOZ⟩ : ∃ x, List.replicate n (0 : Int) = x := ⟨_, rfl⟩
      rw [hLW, hOZ] at P18 hSX hPX
      rw [hLW] at NZ
      rw [hOZ] at AZ
      have HSX := Lib.hid hSX
      have HSXL := Lib.hid hSXl
      have HPX := Lib.hid hPX
      have HPXL := Lib.hid hPXl
      have LN0 := resL_len OZ s PA
      obtain ⟨RN, hRN⟩ : ∃ R, applied OZ s PA = R := ⟨_, rfl⟩
      have HRN := Lib.hid hRN
      rw [hRN] at LN0
      obtain ⟨CN, hCN⟩ : ∃ R, resC RN = R := ⟨_, rfl⟩
      have HCN := Lib.hid hCN
      obtain ⟨LN, hLN⟩ : ∃ R, resL RN = R := ⟨_, rfl⟩
      have HLN := Lib.hid hLN
      rw [hLN] at LN0
      have HLNL : Hid (LN.length ≤ 64) := by show _ ≤ _; have := P18.out.no; omega
      clear hSX hSXl hPX hPXl RZ hLW hOZ hRN hCN hLN LN0
      obtain ⟨-, -, z2⟩ := BX.out w18 E18.out
      go_upto_region 25 with (first
        | (go_at_call 19; refine (BS.out LW OZ w18 _ _ (P18.out.rdL c3) (P18.out.rdO c4) P18.out.nl P18.out.no NZ.out).mono ?_; rintro e w19 ⟨hres, e19⟩
           rw [HSX.out] at hres
           obtain ⟨vx, rfl, hvx⟩ := sums_some hres
           have E19 := Lib.hid (E18.out.trans e19)
           have P19 := Lib.hid (P18.out.ext e19)
           have T119 := Lib.hid (T118.out.ext e19)
           have T219 := Lib.hid (T218.out.ext e19)
           have T319 := Lib.hid (T318.out.ext e19)
           have VX := Lib.hid hvx
           clear hres e19 hvx z2 P18 E18 T118 T218 T318)
        | fail)
      go_cut [25, 26] from 197 to 208 (fun va1 va2 wx => ∃ vy, vy = va1 ∧ va2 = ci 0 ∧ Hid (Own wx w19.heap.size 48 cf vy SX ∧ Ext w19 wx))
      case first =>
        as_aux_lemma =>
          have K0 : w19.cell? ⟨bx, 2, none⟩ = some (ci s) := (BX.out _ E19.out).2.2
          have KB : Hid (∀ w', Ext w19 w' → w'.cell? ⟨bx, 2, none⟩ = some (ci s)) := fun w' e => (BX.out _ (E19.out.trans e)).2.2
          have M1 : Hid (Own (w19.alloc (.cells #[] 48)) w19.heap.size 48 cf (.slice (some ⟨w19.heap.size, 0, none⟩) 0 0) []) := Own.made (Nat.le_refl _)
          have M2 : Hid (Own (w19.alloc (.cells #[] 3)) w19.heap.size 3 ci (.slice (some ⟨w19.heap.size, 0, none⟩) 0 0) []) := Own.made (Nat.le_refl _)
          have M3 : Hid (Own ((w19.alloc (.cells #[] 48)).alloc (.cells #[] 3)) w19.heap.size 3 ci (.slice (some ⟨w19.heap.size + 1, 0, none⟩) 0 0) []) := by
            have h := Own.made (w := w19.alloc (.cells #[] 48)) (B := w19.heap.size) (T := 3) (f := ci) (by rw [World.size_alloc]; omega)
            rw [World.size_alloc] at h
            exact h
          have M4 : Hid (Own ((w19.alloc (.cells #[] 3)).alloc (.cells #[] 48)) w19.heap.size 48 cf (.slice (some ⟨w19.heap.size + 1, 0, none⟩) 0 0) []) := by
            have h := Own.made (w := w19.alloc (.cells #[] 3)) (B := w19.heap.size) (T := 48) (f := cf) (by rw [World.size_alloc]; omega)
            rw [World.size_alloc] at h
            exact h
          have NL := Lib.hid (And.intro P19.out.nl P19.out.no)
          have BL : Hid (LW.length * 8 ≤ 140737488355328 ∧ LW.length ≤ 9223372036854775807) := by have := P19.out.nl; exact ⟨by omega, by omega⟩
          have BO : Hid (OZ.length * 8 ≤ 140737488355328 ∧ OZ.length ≤ 9223372036854775807) := by have := P19.out.no; exact ⟨by omega, by omega⟩
          have RL := Lib.hid (P19.out.rdL c3)
          have RO := Lib.hid (P19.out.rdO c4)
          clear P19 PL AP T119 T219 T319 VX AF AM AI HL0 HO0 E3s HR0
          go_region_held3 (fun w' => w'.cell? ⟨bx, 2, none⟩ = some (ci s)) (first | exact K0 | exact KB.out _ (by repeat (first | exact Ext.refl _ | exact X8.out | exact X7.out | exact X6.out | refine Ext.alloc ?_ _ | refine Ext.drew ?_ | refine Ext.trans ?_ X8.out | refine Ext.trans ?_ X7.out | refine Ext.trans ?_ X6.out)))
            (first
              | (refine step_copy ci ci_one rfl (.tmp 201) (.tmp 202) 22 rfl w19.heap.size 3 i3 0 8 Try.u22 n1 hz3 n3 n4 rfl _ rfl (by first | exact Ext.own (by repeat (first | exact Ext.refl _ | exact X6.out | refine Ext.alloc ?_ _ | refine Ext.drew ?_ | refine Ext.trans ?_ X6.out)) M2.out | exact Ext.own (by repeat (first | exact Ext.refl _ | exact X6.out | refine Ext.alloc ?_ _ | refine Ext.drew ?_ | refine Ext.trans ?_ X6.out)) M3.out | exact Own.made (Ext.size (by repeat (first | exact Ext.refl _ | exact X6.out | refine Ext.alloc ?_ _ | refine Ext.drew ?_ | refine Ext.trans ?_ X6.out)))) (Ext.size (by repeat (first | exact Ext.refl _ | exact X6.out | refine Ext.alloc ?_ _ | refine Ext.drew ?_ | refine Ext.trans ?_ X6.out))) _ OZ rfl (Ext.rd (by repeat (first | exact Ext.refl _ | exact X6.out | refine Ext.alloc ?_ _ | refine Ext.drew ?_ | refine Ext.trans ?_ X6.out)) RO.out) BO.out.1 BO.out.2 ?_
                 intro v7 w7 h1 h2
                 have V7 := Lib.hid h1
                 have X7 := Lib.hid h2
                 clear h1 h2)
              | (refine step_copy cf cf_one rfl (.tmp 198) (.tmp 199) 36 rfl w19.heap.size 48 i48 0 8 Try.u36 j1 hz j3 j4 rfl _ rfl (by first | exact Ext.own (by repeat (first | exact Ext.refl _ | exact X7.out | refine Ext.alloc ?_ _ | refine Ext.drew ?_ | refine Ext.trans ?_ X7.out)) M1.out | exact Ext.own (by repeat (first | exact Ext.refl _ | exact X7.out | refine Ext.alloc ?_ _ | refine Ext.drew ?_ | refine Ext.trans ?_ X7.out)) M4.out | exact Own.made (Ext.size (by repeat (first | exact Ext.refl _ | exact X7.out | refine Ext.alloc ?_ _ | refine Ext.drew ?_ | refine Ext.trans ?_ X7.out)))) (Ext.size (by repeat (first | exact Ext.refl _ | exact X7.out | refine Ext.alloc ?_ _ | refine Ext.drew ?_ | refine Ext.trans ?_ X7.out))) _ LW rfl (Ext.rd (by repeat (first | exact Ext.refl _ | exact X7.out | refine Ext.alloc ?_ _ | refine Ext.drew ?_ | refine Ext.trans ?_ X7.out)) RL.out) BL.out.1 BL.out.2 ?_
                 intro v6 w6 h1 h2
                 have V6 := Lib.hid h1
                 have X6 := Lib.hid h2
                 clear h1 h2)
              | (go_at_call 19; refine (BS.out LW OZ _ v6 v7 (Ext.rd (by repeat (first | exact Ext.refl _ | exact X7.out | exact X6.out | refine Ext.alloc ?_ _ | refine Ext.drew ?_ | refine Ext.trans ?_ X7.out | refine Ext.trans ?_ X6.out)) V6.out.rd) (Ext.rd (by repeat (first | exact Ext.refl _ | exact X7.out | exact X6.out | refine Ext.alloc ?_ _ | refine Ext.drew ?_ | refine Ext.trans ?_ X7.out | refine Ext.trans ?_ X6.out)) V7.out.rd) NL.out.1 NL.out.2 NZ.out).mono ?_; rintro e wz ⟨hres, e8⟩
                 rw [HSX.out] at hres
                 obtain ⟨vy, rfl, hvb⟩ := sums_some hres
                 have X8 := Lib.hid e8
                 have VB : Hid (Own wz w19.heap.size 48 cf vy SX ∧ Ext w19 wz) := by
                   have e : Ext w19 wz := (by repeat (first | exact Ext.refl _ | exact X8.out | exact X7.out | exact X6.out | refine Ext.alloc ?_ _ | refine Ext.drew ?_ | refine Ext.trans ?_ X8.out | refine Ext.trans ?_ X7.out | refine Ext.trans ?_ X6.out))
                   exact ⟨hvb.mono (Ext.size (by repeat (first | exact Ext.refl _ | exact X7.out | exact X6.out | refine Ext.alloc ?_ _ | refine Ext.drew ?_ | refine Ext.trans ?_ X7.out | refine Ext.trans ?_ X6.out))), e⟩
                 clear hres e8 hvb))
          all_goals (try go_wp2_with fail)
          all_goals go_meet
          all_goals exact ⟨vy, rfl, rfl, VB.out⟩
      case rest =>
        obtain ⟨vy, rfl, rfl, hV⟩ := hcut
        generalize wc = w20 at *
        have E20 := Lib.hid (E19.out.trans hV.out.2)
        have P20 := Lib.hid (P19.out.ext hV.out.2)
        have T120 := Lib.hid (T119.out.ext hV.out.2)
        have T220 := Lib.hid (T219.out.ext hV.out.2)
        have T320 := Lib.hid (T319.out.ext hV.out.2)
        have VX20 := Lib.hid (hV.out.2.own VX.out)
        have VY20 := Lib.hid hV.out.1
        obtain ⟨-, -, z2⟩ := BX.out w20 E20.out
        clear hV E19 P19 T119 T219 T319 VX BS
        go_upto_region 27 with (first
          | (go_at_call 24; refine (PL.out LW OZ w20 _ _ (P20.out.rdL c3) (P20.out.rdO c4) P20.out.nl P20.out.no NZ.out).mono ?_; rintro e w21 ⟨hres, e21⟩
             rw [HPX.out] at hres
             obtain ⟨vr, rfl, hvx⟩ := plan_some hres
             have E21 := Lib.hid (E20.out.trans e21)
             have P21 := Lib.hid (P20.out.ext e21)
             have T121 := Lib.hid (T120.out.ext e21)
             have T221 := Lib.hid (T220.out.ext e21)
             have T321 := Lib.hid (T320.out.ext e21)
             have VX21 := Lib.hid (e21.own VX20.out)
             have VY21 := Lib.hid (e21.own VY20.out)
             have VR := Lib.hid hvx
             clear hres e21 hvx z2 P20 E20 T120 T220 T320 VX20 VY20)
          | fail)
        go_cut [29, 30] from 217 to 228 (fun va1 va2 wx => ∃ vs, vs = va1 ∧ va2 = ci 0 ∧ Hid (OwnM wx w21.heap.size vs PX ∧ Ext w21 wx))
        case first =>
          as_aux_lemma =>
            have K0 : w21.cell? ⟨bx, 2, none⟩ = some (ci s) := (BX.out _ E21.out).2.2
            have KB : Hid (∀ w', Ext w21 w' → w'.cell? ⟨bx, 2, none⟩ = some (ci s)) := fun w' e => (BX.out _ (E21.out.trans e)).2.2
            have M1 : Hid (Own (w21.alloc (.cells #[] 48)) w21.heap.size 48 cf (.slice (some ⟨w21.heap.size, 0, none⟩) 0 0) []) := Own.made (Nat.le_refl _)
            have M2 : Hid (Own (w21.alloc (.cells #[] 3)) w21.heap.size 3 ci (.slice (some ⟨w21.heap.size, 0, none⟩) 0 0) []) := Own.made (Nat.le_refl _)
            have M3 : Hid (Own ((w21.alloc (.cells #[] 48)).alloc (.cells #[] 3)) w21.heap.size 3 ci (.slice (some ⟨w21.heap.size + 1, 0, none⟩) 0 0) []) := by
              have h := Own.made (w := w21.alloc (.cells #[] 48)) (B := w21.heap.size) (T := 3) (f := ci) (by rw [World.size_alloc]; omega)
              rw [World.size_alloc] at h
              exact h
            have M4 : Hid (Own ((w21.alloc (.cells #[] 3)).alloc (.cells #[] 48)) w21.heap.size 48 cf (.slice (some ⟨w21.heap.size + 1, 0, none⟩) 0 0) []) := by
              have h := Own.made (w := w21.alloc (.cells #[] 3)) (B := w21.heap.size) (T := 48) (f := cf) (by rw [World.size_alloc]; omega)
              rw [World.size_alloc] at h
              exact h
            have NL := Lib.hid (And.intro P21.out.nl P21.out.no)
            have BL : Hid (LW.length * 8 ≤ 140737488355328 ∧ LW.length ≤ 9223372036854775807) := by have := P21.out.nl; exact ⟨by omega, by omega⟩
            have BO : Hid (OZ.length * 8 ≤ 140737488355328 ∧ OZ.length ≤ 9223372036854775807) := by have := P21.out.no; exact ⟨by omega, by omega⟩
            have RL := Lib.hid (P21.out.rdL c3)
            have RO := Lib.hid (P21.out.rdO c4)
            clear P21 AP T121 T221 T321 VX21 VY21 VR AF AM AI HL0 HO0 E3s HR0
            go_region_held3 (fun w' => w'.cell? ⟨bx, 2, none⟩ = some (ci s)) (first | exact K0 | exact KB.out _ (by repeat (first | exact Ext.refl _ | exact X8.out | exact X7.out | exact X6.out | refine Ext.alloc ?_ _ | refine Ext.drew ?_ | refine Ext.trans ?_ X8.out | refine Ext.trans ?_ X7.out | refine Ext.trans ?_ X6.out)))
              (first
                | (refine step_copy ci ci_one rfl (.tmp 221) (.tmp 222) 22 rfl w21.heap.size 3 i3 0 8 Try.u22 n1 hz3 n3 n4 rfl _ rfl (by first | exact Ext.own (by repeat (first | exact Ext.refl _ | exact X6.out | refine Ext.alloc ?_ _ | refine Ext.drew ?_ | refine Ext.trans ?_ X6.out)) M2.out | exact Ext.own (by repeat (first | exact Ext.refl _ | exact X6.out | refine Ext.alloc ?_ _ | refine Ext.drew ?_ | refine Ext.trans ?_ X6.out)) M3.out | exact Own.made (Ext.size (by repeat (first | exact Ext.refl _ | exact X6.out | refine Ext.alloc ?_ _ | refine Ext.drew ?_ | refine Ext.trans ?_ X6.out)))) (Ext.size (by repeat (first | exact Ext.refl _ | exact X6.out | refine Ext.alloc ?_ _ | refine Ext.drew ?_ | refine Ext.trans ?_ X6.out))) _ OZ rfl (Ext.rd (by repeat (first | exact Ext.refl _ | exact X6.out | refine Ext.alloc ?_ _ | refine Ext.drew ?_ | refine Ext.trans ?_ X6.out)) RO.out) BO.out.1 BO.out.2 ?_
                   intro v7 w7 h1 h2
                   have V7 := Lib.hid h1
                   have X7 := Lib.hid h2
                   clear h1 h2)
                | (refine step_copy cf cf_one rfl (.tmp 218) (.tmp 219) 36 rfl w21.heap.size 48 i48 0 8 Try.u36 j1 hz j3 j4 rfl _ rfl (by first | exact Ext.own (by repeat (first | exact Ext.refl _ | exact X7.out | refine Ext.alloc ?_ _ | refine Ext.drew ?_ | refine Ext.trans ?_ X7.out)) M1.out | exact Ext.own (by repeat (first | exact Ext.refl _ | exact X7.out | refine Ext.alloc ?_ _ | refine Ext.drew ?_ | refine Ext.trans ?_ X7.out)) M4.out | exact Own.made (Ext.size (by repeat (first | exact Ext.refl _ | exact X7.out | refine Ext.alloc ?_ _ | refine Ext.drew ?_ | refine Ext.trans ?_ X7.out)))) (Ext.size (by repeat (first | exact Ext.refl _ | exact X7.out | refine Ext.alloc ?_ _ | refine Ext.drew ?_ | refine Ext.trans ?_ X7.out))) _ LW rfl (Ext.rd (by repeat (first | exact Ext.refl _ | exact X7.out | refine Ext.alloc ?_ _ | refine Ext.drew ?_ | refine Ext.trans ?_ X7.out)) RL.out) BL.out.1 BL.out.2 ?_
                   intro v6 w6 h1 h2
                   have V6 := Lib.hid h1
                   have X6 := Lib.hid h2
                   clear h1 h2)
                | (go_at_call 24; refine (PL.out LW OZ _ v6 v7 (Ext.rd (by repeat (first | exact Ext.refl _ | exact X7.out | exact X6.out | refine Ext.alloc ?_ _ | refine Ext.drew ?_ | refine Ext.trans ?_ X7.out | refine Ext.trans ?_ X6.out)) V6.out.rd) (Ext.rd (by repeat (first | exact Ext.refl _ | exact X7.out | exact X6.out | refine Ext.alloc ?_ _ | refine Ext.drew ?_ | refine Ext.trans ?_ X7.out | refine Ext.trans ?_ X6.out)) V7.out.rd) NL.out.1 NL.out.2 NZ.out).mono ?_; rintro e wz ⟨hres, e8⟩
                   rw [HPX.out] at hres
                   obtain ⟨vs, rfl, hvb⟩ := plan_some hres
                   have X8 := Lib.hid e8
                   have VB : Hid (OwnM wz w21.heap.size vs PX ∧ Ext w21 wz) := by
                     have e : Ext w21 wz := (by repeat (first | exact Ext.refl _ | exact X8.out | exact X7.out | exact X6.out | refine Ext.alloc ?_ _ | refine Ext.drew ?_ | refine Ext.trans ?_ X8.out | refine Ext.trans ?_ X7.out | refine Ext.trans ?_ X6.out))
                     exact ⟨hvb.mono (Ext.size (by repeat (first | exact Ext.refl _ | exact X7.out | exact X6.out | refine Ext.alloc ?_ _ | refine Ext.drew ?_ | refine Ext.trans ?_ X7.out | refine Ext.trans ?_ X6.out))), e⟩
                   clear hres e8 hvb))
            all_goals (try go_wp2_with fail)
            all_goals go_meet
            all_goals exact ⟨vs, rfl, rfl, VB.out⟩
        case rest =>
          obtain ⟨vs, rfl, rfl, hV⟩ := hcut
          generalize wc = w22 at *
          have E22 := Lib.hid (E21.out.trans hV.out.2)
          have P22 := Lib.hid (P21.out.ext hV.out.2)
          have T122 := Lib.hid (T121.out.ext hV.out.2)
          have T222 := Lib.hid (T221.out.ext hV.out.2)
          have T322 := Lib.hid (T321.out.ext hV.out.2)
          have VX22 := Lib.hid (hV.out.2.own VX21.out)
          have VY22 := Lib.hid (hV.out.2.own VY21.out)
          have VR22 := Lib.hid (VR.out.ext hV.out.2)
          have VS22 := Lib.hid hV.out.1
          obtain ⟨-, -, z2⟩ := BX.out w22 E22.out
          clear hV E21 P21 T121 T221 T321 VX21 VY21 VR PL
          go_upto_region 29 with (first
            | (go_at_call 13; refine (AP.out OZ w22 _ _ PA (P22.out.rdO c4) P22.out.no T322.out.m.rd HPL.out).mono ?_; rintro e w23 ⟨hres, e23⟩
               rw [HRN.out] at hres
               obtain ⟨vn, rfl, hvx⟩ := hres.own
               rw [HCN.out]
               rw [HLN.out] at hvx
               have E23 := Lib.hid (E22.out.trans e23)
               have P23 := Lib.hid (P22.out.ext e23)
               have T123 := Lib.hid (T122.out.ext e23)
               have T223 := Lib.hid (T222.out.ext e23)
               have T323 := Lib.hid (T322.out.ext e23)
               have VX23 := Lib.hid (e23.own VX22.out)
               have VY23 := Lib.hid (e23.own VY22.out)
               have VR23 := Lib.hid (VR22.out.ext e23)
               have VS23 := Lib.hid (VS22.out.ext e23)
               have VN := Lib.hid hvx
               clear hres e23 hvx z2 P22 E22 T122 T222 T322 VX22 VY22 VR22 VS22)
            | fail)
          go_cut [33, 34] from 237 to 246 (fun va1 va2 wx => ∃ vt, vt = va1 ∧ va2 = ci CN ∧ Hid (Own wx w23.heap.size 3 ci vt LN ∧ Ext w23 wx))
          case first =>
            as_aux_lemma =>
              have K0 : w23.cell? ⟨bx, 2, none⟩ = some (ci s) := (BX.out _ E23.out).2.2
              have KB : Hid (∀ w', Ext w23 w' → w'.cell? ⟨bx, 2, none⟩ = some (ci s)) := fun w' e => (BX.out _ (E23.out.trans e)).2.2
              have M2 : Hid (Own (w23.alloc (.cells #[] 3)) w23.heap.size 3 ci (.slice (some ⟨w23.heap.size, 0, none⟩) 0 0) []) := Own.made (Nat.le_refl _)
              have BO : Hid (OZ.length * 8 ≤ 140737488355328 ∧ OZ.length ≤ 9223372036854775807) := by have := P23.out.no; exact ⟨by omega, by omega⟩
              have NO : Hid (OZ.length = n) := P23.out.no
              have RO := Lib.hid (P23.out.rdO c4)
              have HM17 := Lib.hid (fun w (e : Ext w23 w) => T323.out.m.rd.ext e)
              clear P23 T123 T223 T323 VX23 VY23 VR23 VS23 VN AF AM AI HL0 HO0 E3s HR0
              go_region_held3 (fun w' => w'.cell? ⟨bx, 2, none⟩ = some (ci s)) (first | exact K0 | exact KB.out _ (by repeat (first | exact Ext.refl _ | exact X8.out | exact X7.out | refine Ext.alloc ?_ _ | refine Ext.drew ?_ | refine Ext.trans ?_ X8.out | refine Ext.trans ?_ X7.out)))
                (first
                  | (refine step_copy ci ci_one rfl (.tmp 238) (.tmp 239) 22 rfl w23.heap.size 3 i3 0 8 Try.u22 n1 hz3 n3 n4 rfl _ rfl (by first | exact Ext.own (by repeat (first | exact Ext.refl _ | refine Ext.alloc ?_ _ | refine Ext.drew ?_)) M2.out) (Ext.size (by repeat (first | exact Ext.refl _ | refine Ext.alloc ?_ _ | refine Ext.drew ?_))) _ OZ rfl (Ext.rd (by repeat (first | exact Ext.refl _ | refine Ext.alloc ?_ _ | refine Ext.drew ?_)) RO.out) BO.out.1 BO.out.2 ?_
                     intro v7 w7 h1 h2
                     have V7 := Lib.hid h1
                     have X7 := Lib.hid h2
                     clear h1 h2)
                  | (go_at_call 13; refine (AP.out OZ _ v7 _ PA (Ext.rd (by repeat (first | exact Ext.refl _ | exact X7.out | refine Ext.alloc ?_ _ | refine Ext.drew ?_ | refine Ext.trans ?_ X7.out)) V7.out.rd) NO.out (HM17.out _ (by repeat (first | exact Ext.refl _ | exact X7.out | refine Ext.alloc ?_ _ | refine Ext.drew ?_ | refine Ext.trans ?_ X7.out))) HPL.out).mono ?_; rintro e wz ⟨hres, e8⟩
                     rw [HRN.out] at hres
                     obtain ⟨vt, rfl, hvb⟩ := hres.own
                     have X8 := Lib.hid e8
                     have VB : Hid (Own wz w23.heap.size 3 ci vt LN ∧ Ext w23 wz) := by
                       have e : Ext w23 wz := (by repeat (first | exact Ext.refl _ | exact X8.out | exact X7.out | refine Ext.alloc ?_ _ | refine Ext.drew ?_ | refine Ext.trans ?_ X8.out | refine Ext.trans ?_ X7.out))
                       rw [HLN.out] at hvb
                       exact ⟨hvb.mono (Ext.size (by repeat (first | exact Ext.refl _ | exact X7.out | refine Ext.alloc ?_ _ | refine Ext.drew ?_ | refine Ext.trans ?_ X7.out))), e⟩
                     rw [HCN.out]
                     clear hres e8 hvb))
              all_goals (try go_wp2_with fail)
              all_goals go_meet
              all_goals exact ⟨vt, rfl, rfl, VB.out⟩
          case rest =>
            obtain ⟨vt, rfl, rfl, hV⟩ := hcut
            generalize wc = w24 at *
            have E24 := Lib.hid (E23.out.trans hV.out.2)
            have P24 := Lib.hid (P23.out.ext hV.out.2)
            have T124 := Lib.hid (T123.out.ext hV.out.2)
            have T224 := Lib.hid (T223.out.ext hV.out.2)
            have T324 := Lib.hid (T323.out.ext hV.out.2)
            have VX24 := Lib.hid (hV.out.2.own VX23.out)
            have VY24 := Lib.hid (hV.out.2.own VY23.out)
            have VR24 := Lib.hid (VR23.out.ext hV.out.2)
            have VS24 := Lib.hid (VS23.out.ext hV.out.2)
            have VN24 := Lib.hid (hV.out.2.own VN.out)
            have VT24 := Lib.hid hV.out.1
            have NIL : Hid (∀ w : World, RdM w (.slice none 0 0) []) := fun w => Or.inl ⟨none, 0, rfl, rfl, fun _ => rfl⟩
            obtain ⟨-, -, z2⟩ := BX.out w24 E24.out
            clear hV E23 P23 T123 T223 T323 VX23 VY23 VR23 VS23 VN HRN HCN HLN HSX HPX NZ
            go_upto_region 35 with (first
              | (go_at_call 13; refine (AP.out OZ w24 _ _ [] (P24.out.rdO c4) P24.out.no (NIL.out w24) (by decide)).mono ?_; rintro e w25 ⟨hres, e25⟩
                 rw [AZ.out] at hres
                 obtain ⟨vz, rfl, hvx⟩ := apply_some hres
                 have E25 := Lib.hid (E24.out.trans e25)
                 have T1 := Lib.hid (T124.out.ext e25)
                 have T2 := Lib.hid (T224.out.ext e25)
                 have T3 := Lib.hid (T324.out.ext e25)
                 have OL : Hid (OZ.length = n) := P24.out.no
                 have SM := Lib.hid (fun n => sameFloats_calls vx vy SX (w25.drewN n) (e25.own VX24.out).rd.drewN (e25.own VY24.out).rd.drewN (by have := HSXL.out; omega))
                 have SN := Lib.hid (fun n => sameMoves_calls vr vs PX (w25.drewN n) ((VR24.out.ext e25).rd.drewN n) ((VS24.out.ext e25).rd.drewN n) (by have := HPXL.out; omega))
                 have SO := Lib.hid (fun n => same_true vn vt LN (w25.drewN n) (e25.own VN24.out).rd.drewN (e25.own VT24.out).rd.drewN (by have := HLNL.out; omega))
                 have SO2 := Lib.hid (fun m => same_true vz (.slice (some ⟨g2, 0, none⟩) n c4) OZ (w25.drewN m) hvx.rd.drewN ((P24.out.ext e25).rdO c4).drewN (by have := OL.out; omega))
                 have SO3 := Lib.hid (fun n => same_true vu vU OA (w25.drewN n) T1.out.i.rd.drewN T2.out.i.rd.drewN (by have := HOA.out; omega))
                 clear hres e25 hvx z2 E24 P24 T124 T224 T324 VX24 VY24 VR24 VS24 VN24 VT24 AP AZ NIL)
              | (go_at_call 16; refine (SO.out 0).mono ?_; rintro e w17 ⟨rfl, n1', h17⟩; clear SO
                 obtain ⟨y1, hy1⟩ : ∃ y, w17 = w25.drewN y := ⟨n1', by rw [← h17]; rfl⟩
                 clear h17
                 subst hy1)
              | (go_at_call 16; refine (SO2.out y1).mono ?_; rintro e w17 ⟨rfl, n2', h17⟩; clear SO2
                 obtain ⟨y2, hy2⟩ : ∃ y, w17 = w25.drewN y := ⟨y1 + n2', by rw [← h17, World.drewN_drewN]⟩
                 clear h17
                 subst hy2)
              | (go_at_call 21; refine (SM.out y2).mono ?_; rintro e w17 ⟨rfl, n3', h17⟩; clear SM
                 obtain ⟨y3, hy3⟩ : ∃ y, w17 = w25.drewN y := ⟨y2 + n3', by rw [← h17, World.drewN_drewN]⟩
                 clear h17
                 subst hy3)
              | (go_at_call 15; refine (SN.out y3).mono ?_; rintro e w17 ⟨rfl, n4', h17⟩; clear SN
                 obtain ⟨y4, hy4⟩ : ∃ y, w17 = w25.drewN y := ⟨y3 + n4', by rw [← h17, World.drewN_drewN]⟩
                 clear h17
                 subst hy4)
              | (go_at_call 16; refine (SO3.out y4).mono ?_; rintro e w17 ⟨rfl, n5', h17⟩; clear SO3
                 obtain ⟨y5, hy5⟩ : ∃ y, w17 = w25.drewN y := ⟨y4 + n5', by rw [← h17, World.drewN_drewN]⟩
                 clear h17
                 subst hy5)
              | fail)
            have T126 := Lib.hid (T1.out.ext ((Ext.refl w25).drewN y5))
            have T226 := Lib.hid (T2.out.ext ((Ext.refl w25).drewN y5))
            have T326 := Lib.hid (T3.out.ext ((Ext.refl w25).drewN y5))
            have E26 := Lib.hid (E25.out.drewN y5)
            clear T1 T2 T3 E25
            generalize w25.drewN y5 = w26 at *
            obtain ⟨z0, z1, z2⟩ := BX.out w26 E26.out
            have A26 := Lib.hid (anew_calls (.slice ad n c) (.slice ad2 n c2) l ow s vP PA w26 (HL0.out w26 E26.out) (HO0.out w26 E26.out) T226.out.m.rd HPL.out HR0.out)
            go_wp2_with (first
              | (go_at_call 29; refine A26.out.mono ?_; clear A26; rintro e w27 ⟨rfl, e27⟩
                 have E27 := Lib.hid (E26.out.trans e27)
                 have T127 := Lib.hid (T126.out.ext e27)
                 have T327 := Lib.hid (T326.out.ext e27)
                 have A27 := Lib.hid (floatsApart_calls va vb SA.length SA.length _ _ w27 (Rw.of T127.out.f) (Rw.of T327.out.f) AF.out HSL.out HSL.out)
                 clear e27 T126 T226 T326 E26 z0 z1 z2)
              | (go_at_call 30; refine A27.out.mono ?_; clear A27; rintro e w28 ⟨rfl, b28⟩
                 have E28 := Lib.hid (Ext.bar E27.out b28 T127.out.f T327.out.f E3s.out.size GB.out)
                 have I1 := Lib.hid (b28.other T127.out.i T127.out.f T327.out.f (by decide))
                 have I3 := Lib.hid (b28.other T327.out.i T127.out.f T327.out.f (by decide))
                 have M1 := Lib.hid (b28.other T127.out.m T127.out.f T327.out.f (by decide))
                 have M3 := Lib.hid (b28.other T327.out.m T127.out.f T327.out.f (by decide))
                 have A28 := Lib.hid (intsApart_calls vu vv OA.length OA.length _ _ w28 (Rw.of I1.out) (Rw.of I3.out) AI.out (by have := HOA.out; omega) (by have := HOA.out; omega))
                 clear b28 T127 T327 E27)
              | (go_at_call 31; refine A28.out.mono ?_; clear A28; rintro e w29 ⟨rfl, b29⟩
                 have E29 := Lib.hid (Ext.bar E28.out b29 I1.out I3.out E3s.out.size GB.out)
                 have N1 := Lib.hid (b29.other M1.out I1.out I3.out (by decide))
                 have N3 := Lib.hid (b29.other M3.out I1.out I3.out (by decide))
                 have A29 := Lib.hid (movesApart_calls vp vq PA.length PA.length _ _ w29 (Rw.of N1.out) (Rw.of N3.out) AM.out HPL.out HPL.out)
                 clear b29 I1 I3 M1 M3 E28)
              | (go_at_call 32; refine A29.out.mono ?_; clear A29; rintro e w30 ⟨rfl, b30⟩
                 have E30 := Lib.hid (Ext.bar E29.out b30 N1.out N3.out E3s.out.size GB.out)
                 clear b30 N1 N3 E29)
              | fail)
            go_ret
            exact ⟨rfl, X0.out.trans E30.out⟩
theorem own_walk' (lv ov lv2 ov2 : Value) (l l2 : List (BitVec 64)) (ow ow2 : List Int) (s s2 : Int) (W : World) (hl : Rd W cw lv l) (ho : Rd W ci ov ow) (hlm : l.length * 8 ≤ 140737488351232) (hom : ow.length * 8 ≤ 140737488351232) (hs : -9223372036854775808 ≤ s ∧ s ≤ 9223372036854775807)
    (hl2 : Rd W cw lv2 l2) (ho2 : Rd W ci ov2 ow2) (hlm2 : l2.length * 8 ≤ 140737488351232) (hom2 : ow2.length * 8 ≤ 140737488351232) (hs2 : -9223372036854775808 ≤ s2 ∧ s2 ≤ 9223372036854775807) :
    Calls Try.prog 10 #[.agg #[lv, ov, ci s], .agg #[lv2, ov2, ci s2]] W fun e w' => e = .returned (.bool true) ∧ Below W.heap.size W w' := by
  cases hr : rightB (bitsOf l) ow s with
  | false => exact (own_bad lv ov lv2 ov2 l ow s s2 W hl ho hlm hom hr).mono fun e w' h => ⟨h.1, h.2.to⟩
  | true => exact (own_right lv ov lv2 ov2 l l2 ow ow2 s s2 W hl ho hl2 ho2 hlm2 hom2 hr).mono fun e w' h => ⟨h.1, h.2.to⟩
end Go.Proofs.Ytkpjnikmcojdlaa
