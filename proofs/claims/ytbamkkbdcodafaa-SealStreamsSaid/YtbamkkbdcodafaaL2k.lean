/- SealStreams: the walk of the law. -/
import Derived.Test.YtbamkkbdcodafaaS2o
import Derived.Test.YtbamkkbdcodafaaL2j
import Derived.Deep.RegionHeldLaw
import Derived.Deep.RegionLaw
import Derived.Deep.CutRange
import Derived.Deep.DeepCutAuto
namespace Go.Proofs.Ytbamkkbdcodafaa
open Go.RowKit
set_option linter.unusedVariables false

def tot (dt : Nat → List (BitVec 8)) : Nat → Nat
  | 0 => 0
  | k + 1 => tot dt k + (dt k).length
theorem tot_zero (dt : Nat → List (BitVec 8)) : tot dt 0 = 0 := rfl
theorem tot_succ (dt : Nat → List (BitVec 8)) (k : Nat) : tot dt (k + 1) = tot dt k + (dt k).length := rfl
theorem tot_mono (dt : Nat → List (BitVec 8)) (n : Nat) : ∀ d, tot dt n ≤ tot dt (n + d)
  | 0 => Nat.le_refl _
  | d + 1 => Nat.le_trans (tot_mono dt n d) (by rw [← Nat.add_assoc, tot_succ]; omega)
attribute [irreducible] tot
theorem quiet_same {P : Program} {f : FuncId} {args : Array Value} {w : World} {v : Value} (h : ∀ m, Calls P f args (w.drewN m) fun e w' => e = .returned v ∧ w.drewN m = w') (x : Nat) :
    Calls P f args (w.drewN x) fun e w'' => e = .returned v ∧ ∃ m, w'' = w.drewN m :=
  (h x).mono fun e w' ⟨h1, h2⟩ => ⟨h1, x, h2.symm⟩
theorem Blk.drew {w : World} {g : Nat} {c : Array Value} {t : TypeId} (h : Blk w g c t) : Blk w.drew g c t := h
theorem sum3 (L : Nat → List (BitVec 8)) (j : Nat) (hj : j < 3) : (L j).length ≤ (L 0).length + (L 1).length + (L 2).length := by
  match j, hj with
  | 0, _ => omega
  | 1, _ => omega
  | 2, _ => omega
theorem sum3_upd (L : Nat → List (BitVec 8)) (j : Nat) (D : List (BitVec 8)) (hj : j < 3) : (upd L j (L j ++ D) 0).length + (upd L j (L j ++ D) 1).length + (upd L j (L j ++ D) 2).length = (L 0).length + (L 1).length + (L 2).length + D.length := by
  match j, hj with
  | 0, _ => rw [upd_at, upd_ne _ _ _ (by decide), upd_ne _ _ _ (by decide), List.length_append]; omega
  | 1, _ => rw [upd_at, upd_ne _ _ _ (by decide), upd_ne _ _ _ (by decide), List.length_append]; omega
  | 2, _ => rw [upd_at, upd_ne _ _ _ (by decide), upd_ne _ _ _ (by decide), List.length_append]; omega
theorem Sm.start {W w1 w2 w3 : World} (s0 : StrAt w1 W.heap.size 0xFFFFFFFF#32 0) (e1 : Ext W w1) (z1 : W.heap.size < w1.heap.size) (s1 : StrAt w2 w1.heap.size 0xFFFFFFFF#32 0) (e2 : Ext w1 w2)
    (h3 : w2.alloc (.cells #[.pointer (some ⟨W.heap.size, 0, none⟩), .pointer (some ⟨w1.heap.size, 0, none⟩), .pointer none] 39) = w3) :
    Sm W (w3.alloc (.cells #[.slice none 0 0, .slice none 0 0, .slice none 0 0] 44)) W.heap.size w1.heap.size w2.heap.size w3.heap.size (fun _ => []) (fun _ => []) (fun _ => .slice none 0 0) := by
  have e3 : Ext w2 (w3.alloc (.cells #[.slice none 0 0, .slice none 0 0, .slice none 0 0] 44)) := by rw [← h3]; exact Ext.of_alloc2 _ _
  have h0 : tkn F32 [] = 0xFFFFFFFF#32 := tkn_nil _
  rw [← h0] at s0 s1
  have r3 : Blk w3 w2.heap.size #[lpv W.heap.size w1.heap.size 0, lpv W.heap.size w1.heap.size 1, lpv W.heap.size w1.heap.size 2] 39 := by rw [← h3]; exact Blk.new _ _ _
  have z3 : w3.heap.size = w2.heap.size + 1 := by rw [← h3]; simp
  exact ⟨(e1.trans e2).trans e3, Blk.ext (Blk.ext s0 e2) e3, Blk.ext s1 e3, r3.alloc _, Blk.new _ _ _, fun j hj => Own.nil, fun i j hi hj hij => Or.inl rfl, ⟨Nat.le_refl _, e1.size, (e1.trans e2).size, by rw [z3]; exact Nat.le_succ_of_le (e1.trans e2).size⟩, by omega⟩
set_option maxHeartbeats 4000000 in
set_option maxRecDepth 100000 in
theorem streams_walk (ad : Option Addr) (n c : Nat) (wh : Nat → Int) (dv : Nat → Value) (dt : Nat → List (BitVec 8)) (ak : Nat → Bool) (W : World) (hn : n * 40 ≤ 140737488351232)
    (hat : ∀ i, i < n → (∃ b o, ad = some ⟨b, o, none⟩ ∧ W.cell? ⟨b, o + i * 3, none⟩ = some (.int .i64 (wh i)) ∧ W.cell? ⟨b, o + i * 3 + 1, none⟩ = some (dv i) ∧ W.cell? ⟨b, o + i * 3 + 2, none⟩ = some (.bool (ak i))) ∧
      Rd W cb (dv i) (dt i) ∧ (dt i).length ≤ 140737488351232 ∧ -9223372036854775808 ≤ wh i ∧ wh i ≤ 9223372036854775807) :
    Calls Try.prog 6 #[.slice ad n c] W fun e w' => e = .returned (.bool true) ∧ Ext W w' := by
  have hn' : (n : Int) ≤ 3518437208780 := by omega
  have HA := Lib.hid hat
  have HN := Lib.hid hn
  have H21a := Lib.hid (new_calls W)
  obtain ⟨i5, j1, j2, j3, j4⟩ := info_parts Try.info5
  have hz5 : i5.zero = some (cb 0#8) := j2
  clear hat hn
  go_enter Try.func6, Try.ntmps6
  go_wp2_with (first
    | (go_at_call 21; refine H21a.out.mono ?_; clear H21a; rintro e w1 ⟨rfl, s0, e1, z1⟩
       have S0 := Lib.hid s0
       have E1 := Lib.hid e1
       have Z1 := Lib.hid z1
       have H21b := Lib.hid (new_calls w1)
       clear s0 e1 z1)
    | (go_at_call 21; refine H21b.out.mono ?_; clear H21b; rintro e w2 ⟨rfl, s1, e2, z2⟩
       have S4 := Lib.hid (fun w3 h3 => Sm.start (w3 := w3) S0.out E1.out Z1.out s1 e2 h3)
       have E2 := Lib.hid (E1.out.trans e2)
       clear S0 E1 Z1 s1 e2 z2)
    | fail)
  have E3 := Lib.hid (E2.out.alloc (.cells #[.pointer (some ⟨W.heap.size, 0, none⟩), .pointer (some ⟨w1.heap.size, 0, none⟩), .pointer none] 39))
  generalize hw3 : w2.alloc (.cells #[.pointer (some ⟨W.heap.size, 0, none⟩), .pointer (some ⟨w1.heap.size, 0, none⟩), .pointer none] 39) = w3 at *
  have S5 := Lib.hid (S4.out w3 rfl)
  clear S4 hw3
  generalize hgl : w2.heap.size = gl at *
  generalize hg0 : W.heap.size = g0 at *
  generalize hg1 : w1.heap.size = g1 at *
  clear hgl hg1 E2
  go_loop [5, 6] (fun lv iv => ∃ (k : Nat), k ≤ n ∧ iv = .int .i64 k ∧ lv = .int .i64 (tot dt k) ∧ Hid (tot dt k ≤ 1099511627776)) (fun _ iv => (n - (intOf iv).toNat))
  case atStart => exact ⟨0, by omega, rfl, by rw [tot_zero]; rfl, by show _ ≤ _; rw [tot_zero]; exact Nat.zero_le _⟩
  case round =>
    obtain ⟨k, hk, rfl, rfl, ht⟩ := hrel
    by_cases hlt : k < n
    · obtain ⟨⟨b, o, rfl, c0, c1, c2⟩, hrd, hml, hw0, hw1⟩ := HA.out k hlt
      obtain ⟨ad', c', hv, hat'⟩ := hrd.at
      rw [hv] at c1
      have hc1 := E3.out.cell c1
      have hT := Lib.hid (tot_succ dt k)
      have HT := ht
      have hs1 : ((tot dt k : Nat) : Int) ≤ 1099511627776 := by have := ht.out; omega
      have hs2 : ((dt k).length : Int) ≤ 140737488351232 := by omega
      clear c0 c1 c2 hrd hml hw0 hw1 hv hat' ht
      by_cases hgt : (1099511627776 : Int) < (tot dt k : Int) + ((dt k).length : Int)
      · have hd : decide ((1099511627776 : Int) < (tot dt k : Int) + ((dt k).length : Int)) = true := decide_eq_true hgt
        clear hgt
        generalize (dt k).length = D at *
        generalize tot dt k = T at *
        go_wp2_with fail
        go_ret
        exact ⟨rfl, E3.out⟩
      · have hd : decide ((1099511627776 : Int) < (tot dt k : Int) + ((dt k).length : Int)) = false := decide_eq_false hgt
        have hle := Lib.hid (show tot dt (k + 1) ≤ 1099511627776 by rw [hT.out]; omega)
        rw [hT.out] at hle
        clear hgt HT
        have hTT := hT
        clear hT
        have hrel' : Hid (∃ T', T' = tot dt k + (dt k).length ∧ tot dt (k + 1) = T') := ⟨_, rfl, hTT.out⟩
        clear hTT
        generalize (dt k).length = D at *
        generalize tot dt k = T at *
        go_wp2_with fail
        go_round
        case measure => simp only [intOf]; omega
        case rel =>
          obtain ⟨T', h1, h2⟩ := hrel'.out
          exact ⟨k + 1, by omega, by go_num, by rw [h2, h1]; go_num, by show _ ≤ _; rw [h2, h1]; exact hle.out⟩
    · obtain rfl : n = k := by omega
      clear hk hlt
      go_wp2_with fail
      generalize w3.alloc (.cells #[.slice none 0 0, .slice none 0 0, .slice none 0 0] 44) = w4 at *
      generalize w3.heap.size = ga at *
      have HTn := ht
      clear ht
      have hz : Hid (Sm W w4 g0 g1 gl ga (fun x => []) (fun x => []) (fun x => Value.slice none 0 0) ∧ ((fun x : Nat => ([] : List (BitVec 8))) 0).length + ((fun x : Nat => ([] : List (BitVec 8))) 1).length + ((fun x : Nat => ([] : List (BitVec 8))) 2).length ≤ tot dt 0) := ⟨S5.out, by rw [tot_zero]; simp⟩
      clear S5
      go_loopw [8] (fun iv wx => ∃ (k : Nat) (L : Nat → List (BitVec 8)) (av : Nat → Value), k ≤ n ∧ iv = .int .i64 k ∧ Hid (Sm W wx g0 g1 gl ga L L av ∧ (L 0).length + (L 1).length + (L 2).length ≤ tot dt k)) (fun iv _ => (n - (intOf iv).toNat))
      case atStart => exact ⟨0, _, _, by omega, rfl, hz⟩
      case round =>
        clear hz
        obtain ⟨k, L, av, hk, rfl, hS⟩ := hrel
        by_cases hlt : k < n
        · obtain ⟨⟨b, o, rfl, c0', c1', c2'⟩, hrd, hml, hw0, hw1⟩ := HA.out k hlt
          have hsucc' := tot_succ dt k
          generalize dt k = D at *
          have hsucc := Lib.hid hsucc'
          clear hsucc'
          obtain ⟨ad', c', hv, hat'⟩ := hrd.at
          rw [hv] at c1' hrd
          clear hv hat'
          have hml' : (D.length : Int) ≤ 140737488351232 := by omega
          have c0 := hS.out.1.ext.cell c0'
          have c1 := hS.out.1.ext.cell c1'
          have c2 := hS.out.1.ext.cell c2'
          have RD := Lib.hid hrd
          have ML := Lib.hid hml
          clear c0' c1' c2' hrd hml
          have hin : (wh k < 0 ∨ 2 < wh k) ∨ ∃ j : Nat, j < 3 ∧ wh k = (j : Int) := by
            by_cases h1 : wh k < 0
            · exact Or.inl (Or.inl h1)
            · by_cases h2 : 2 < wh k
              · exact Or.inl (Or.inr h2)
              · exact Or.inr ⟨(wh k).toNat, by omega, by omega⟩
          generalize wh k = x at *
          rcases hin with hout | ⟨j, hj, rfl⟩
          · have hskip : Hid (∀ wx, Ext wr wx → Sm W wx g0 g1 gl ga L L av ∧ (L 0).length + (L 1).length + (L 2).length ≤ tot dt (k + 1)) := fun wx ex => ⟨hS.out.1.ext' ex, by have := hS.out.2; have := hsucc.out; omega⟩
            by_cases h0 : x < 0
            · have hd : decide (x < 0) = true := decide_eq_true h0
              clear hout h0
              go_wp2_with fail
              go_roundw
              case measure => simp only [intOf]; omega
              case rel => exact ⟨k + 1, L, av, by omega, by go_num, hskip.out _ (Ext.of_alloc _)⟩
            · have hd : decide (x < 0) = false := decide_eq_false h0
              have hd2 : decide (2 < x) = true := decide_eq_true (by omega)
              clear hout h0
              go_wp2_with fail
              go_roundw
              case measure => simp only [intOf]; omega
              case rel => exact ⟨k + 1, L, av, by omega, by go_num, hskip.out _ (Ext.of_alloc _)⟩
          · have hd1 : decide ((j : Int) < 0) = false := decide_eq_false (by omega)
            have hd2 : decide (2 < (j : Int)) = false := decide_eq_false (by omega)
            have hmono : tot dt (k + 1) ≤ tot dt n := by have := tot_mono dt (k + 1) (n - (k + 1)); rwa [show k + 1 + (n - (k + 1)) = n by omega] at this
            have hjl := sum3 L j hj
            have HB : Hid ((L j).length + D.length ≤ 1099511627776) := by show _ ≤ _; have := hS.out.2; have := hsucc.out; have := HTn.out; omega
            have HB2 : Hid ((upd L j (L j ++ D) 0).length + (upd L j (L j ++ D) 1).length + (upd L j (L j ++ D) 2).length ≤ tot dt (k + 1)) := by
              show _ ≤ _
              have h1 := hS.out.2
              rw [hsucc.out, sum3_upd L j D hj]; omega
            clear hmono hjl hw0 hw1
            obtain ⟨y, hy⟩ : ∃ y, ak k = y := ⟨_, rfl⟩
            rw [hy] at c2
            obtain ⟨bo, hbo⟩ : ∃ x, wr.heap.size = x := ⟨_, rfl⟩
            have e5 := Ext.of_alloc (w := wr) (.cells #[.int .i64 (j : Int), .slice ad' D.length c', .bool y] 43)
            have S5 := Lib.hid (hS.out.1.ext' e5)
            have E5 := Lib.hid (hS.out.1.ext.trans e5)
            have o5 : Blk (wr.alloc (.cells #[.int .i64 (j : Int), .slice ad' D.length c', .bool y] 43)) bo #[.int .i64 (j : Int), .slice ad' D.length c', .bool y] 43 := by rw [← hbo]; exact Blk.new _ _ _
            have O5 := Lib.hid o5
            have L12 := Lib.hid (lent_calls _ D _ (E5.out.rd RD.out) ML.out)
            have z5 : (wr.alloc (.cells #[.int .i64 (j : Int), .slice ad' D.length c', .bool y] 43)).heap.size = bo + 1 := by rw [World.size_alloc, hbo]
            rw [z5] at L12
            have AV := Lib.hid (fun g (hg : bo + 1 ≤ g) => S5.out.avlt (g := g) (by rw [z5]; exact hg))
            have G5 : Hid (W.heap.size ≤ bo + 1) := by show _ ≤ _; rw [← z5]; exact E5.out.size
            clear e5 o5 z5
            go_wp2_with (first
              | (go_at_call 12; refine L12.out.mono ?_; clear L12; rintro e w6 ⟨he, l6, e6, -⟩
                 unfold lentV at he
                 subst he
                 have S6 := Lib.hid (S5.out.ext' e6)
                 have O6 := Lib.hid (O5.out.ext e6)
                 have L6 := Lib.hid l6
                 have H22 := Lib.hid (S6.out.write j hj _ D l6.rd (by have := HB.out; omega))
                 have c6 := S6.out.cell j hj
                 have d6 : w6.cell? ⟨bo, 0, none⟩ = some (.int .i64 (j : Int)) := O6.out.cell 0
                 have d6' : w6.cell? ⟨bo, 1, none⟩ = some (.slice ad' D.length c') := O6.out.cell 1
                 clear l6 e6 c0 c1 c2)
              | (go_at_call 22; refine H22.out.mono ?_; clear H22; rintro e w7 ⟨rfl, s7, b7, z7⟩
                 have S7 := Lib.hid s7
                 have O7 := Lib.hid (b7 _ _ _ O6.out (by decide))
                 have L7 := Lib.hid (show LentAt w7 (bo + 1) D from b7 _ _ _ L6.out (by decide))
                 have d7 : w7.cell? ⟨bo, 1, none⟩ = some (.slice ad' D.length c') := O7.out.cell 1
                 have H16 := Lib.hid (kept_calls (bo + 1) D _ D w7 L7.out (S7.out.ext.rd RD.out) ML.out (by have := ML.out; omega))
                 rw [show decide (D = D) = true by simp] at H16
                 unfold lentV at H16
                 clear s7 b7 z7 c6 d6 d6')
              | (go_at_call 16; refine H16.out.mono ?_; clear H16; rintro e w8 ⟨rfl, m8, h8⟩
                 have S8 := Lib.hid (S7.out.drewN m8)
                 have O8 : Hid (Blk (w7.drewN m8) bo #[.int .i64 (j : Int), .slice ad' D.length c', .bool y] 43) := O7.out
                 have L8 : Hid (LentAt (w7.drewN m8) (bo + 1) D) := L7.out
                 rw [h8] at S8 O8 L8
                 clear h8 d7)
              | fail)
            generalize bo + 1 = gi at *
            go_loopw [11] (fun jv wx => ∃ (m : Nat) (M : List (BitVec 8)), m ≤ D.length ∧ jv = .int .i64 m ∧ Hid (w8.grownBy wx (some gi)) ∧ Hid (LentAt wx gi M ∧ M.length = D.length)) (fun jv _ => (D.length - (intOf jv).toNat))
            case atStart => exact ⟨0, D, by omega, rfl, World.grownBy.refl _ _, L8.out, rfl⟩
            case round =>
              obtain ⟨m, M, hm, rfl, hg, hM⟩ := hrel
              by_cases hlm : m < D.length
              · have hlM : m < M.length := by rw [hM.out.2]; exact hlm
                have k1 : wr.cell? ⟨gi, m, none⟩ = some (cb M[m]) := by
                  have := hM.out.1
                  unfold LentAt at this
                  rw [this.cell, V_get, List.getElem?_append_left hlM, List.getElem?_eq_getElem hlM]; rfl
                have k2 : wr.frozen? ⟨gi, m, none⟩ = false := Blk.free hM.out.1 m
                generalize hxx : M[m] = x at *
                clear hxx
                go_wp2_with fail
                go_roundw
                case measure => simp only [intOf]; omega
                case rel =>
                  have hG := grown_trans hg.out (grown_set wr gi m (cb (255#8 - x)))
                  exact ⟨m + 1, M.set m _, by omega, by go_num, hG, LentAt.put hM.out.1 hlM _, by rw [List.length_set]; exact hM.out.2⟩
              · obtain rfl : D.length = m := by omega
                clear hm hlm
                obtain ⟨LD, hLD⟩ : ∃ x, L j ++ D = x := ⟨_, rfl⟩
                have HLD := Lib.hid hLD
                rw [hLD] at S8 HB2
                clear hLD
                have hTy : bo ≠ gi := fun e => by subst e; exact absurd (Blk.type O8.out L8.out) (by decide)
                have S9 := Lib.hid (S8.out.grown L8.out G5.out (AV.out gi (Nat.le_refl _)) hg.out)
                have O9 := Lib.hid (O8.out.grown hg.out (fun e => hTy (Option.some.inj e)))
                clear hTy
                obtain ⟨w9, hw9⟩ : ∃ x, x = wr := ⟨_, rfl⟩
                subst hw9
                have p0 : w9.cell? ⟨bo, 0, none⟩ = some (.int .i64 (j : Int)) := O9.out.cell 0
                have p1 : w9.cell? ⟨bo, 1, none⟩ = some (.slice ad' D.length c') := O9.out.cell 1
                have pa := S9.out.allcell j hj
                have pf : w9.frozen? ⟨ga, j, none⟩ = false := S9.out.all.free j
                have OW : Hid (Own w9.drew W.heap.size 5 cb (av j) (L j)) := S9.out.own j hj
                have RW : Hid (Rd w9.drew cb (.slice ad' D.length c') D) := (S9.out.ext.rd RD.out).drew
                have SZ : Hid (W.heap.size ≤ w9.drew.heap.size) := S9.out.ext.size
                have B1 : Hid (((L j).length + D.length) * 1 ≤ 140737488355328) := by show _ ≤ _; have := HB.out; omega
                have hj3 : (j : Int) < 3 := by omega
                have B2 : Hid ((L j).length + D.length ≤ 9223372036854775807) := by show _ ≤ _; have := HB.out; omega
                go_wp2_with fail
                go_cut [] from 46 to 137 (fun wx => ∃ (qv : Option Addr) (cv : Nat), Hid (Sm W wx g0 g1 gl ga (upd L j LD) (upd L j LD) (upd av j (.slice qv LD.length cv))) ∧ Hid (Blk wx bo #[.int .i64 (j : Int), .slice ad' D.length c', .bool y] 43))
                case first =>
                  go_region_law (first
                    | (refine step_append_rd cb cb_one rfl (.tmp 98) (.tmp 100) 23 rfl W.heap.size 5 i5 0#8 1 Try.u23 j1 hz5 j3 j4 rfl (av j) (L j) (by simp [Act.eval]) OW.out _ D (by simp [Act.eval]) RW.out B1.out B2.out SZ.out ?_
                       intro v' w10 ho hg' hb
                       rw [HLD.out] at ho
                       obtain ⟨qv, cv, rfl, -⟩ := ho.form
                       have q0 : w10.cell? ⟨bo, 0, none⟩ = some (.int .i64 (j : Int)) := (O9.out.drew.grown hg' (OW.out.type O9.out.drew (by decide))).cell 0
                       have qb := S9.out.all.drew.grown hg' (OW.out.type S9.out.all.drew (by decide))
                       have qa : w10.cell? ⟨ga, j, none⟩ = some (av j) := by rw [qb.cell, ← S9.out.all.cell]; exact pa
                       have qf : w10.frozen? ⟨ga, j, none⟩ = false := qb.free j
                       have P10 := Lib.hid (And.intro ho (And.intro hg' hb))
                       clear ho hg' hb qb))
                  all_goals (try go_wp2_with fail)
                  all_goals go_meet
                  all_goals
                    obtain ⟨k1, k2, k3⟩ := P10.out
                    have hS10 := S9.out.put j hj (by rw [HLD.out]; exact k1) (show w9.grownBy _ _ from ⟨k2.os, k2.tape, k2.output, k2.size, k2.block⟩) k3 ⟨rfl, rfl, rfl, rfl⟩
                    rw [HLD.out] at hS10
                    refine ⟨qv, cv, hS10, ?_⟩
                    have o10 := O9.out.drew.grown k2 (OW.out.type O9.out.drew (by decide))
                    exact Blk.grown o10 (grown_set _ ga j _) (fun e => by
                      have e' := Option.some.inj e
                      subst e'
                      exact absurd (Blk.type S9.out.all O9.out) (by decide))
                case rest =>
                  obtain ⟨qv, cv, S11, O11⟩ := hcut
                  have r0 : wc.cell? ⟨bo, 0, none⟩ = some (.int .i64 (j : Int)) := O11.out.cell 0
                  have r2 : wc.cell? ⟨bo, 2, none⟩ = some (.bool y) := O11.out.cell 2
                  have ra : wc.cell? ⟨ga, j, none⟩ = some (.slice qv LD.length cv) := by rw [S11.out.allcell j hj, upd_at]
                  have rl := S11.out.cell j hj
                  have hLm : LD.length ≤ 1099511627776 := by rw [← HLD.out, List.length_append]; exact HB.out
                  have hLm' : (LD.length : Int) ≤ 1099511627776 := by omega
                  have H23 := Lib.hid (rcrc_calls _ LD wc (by have h := (S11.out.own j hj).rd; rw [upd_at, upd_at] at h; exact h) (by omega))
                  have HSum := S11.out.sum j hj
                  have HLen := S11.out.len j hj
                  have hcs := crc_same LD
                  obtain ⟨X, hX⟩ : ∃ x, rtk 0xFFFFFFFF#32 LD ^^^ 0xFFFFFFFF#32 = x := ⟨_, rfl⟩
                  rw [hX] at H23 hcs
                  unfold sumv at HSum
                  unfold lenv at HLen
                  rw [upd_at] at HSum HLen
                  rw [show F32 = 0xFFFFFFFF#32 from rfl, hcs] at HSum
                  clear hcs hX hLm
                  by_cases h2 : j = 2
                  · have hd3 : ((j : Int) == 2) = true := by rw [beq_iff_eq]; omega
                    rw [if_pos h2] at HSum HLen
                    have HS := Lib.hid HSum
                    have HL := Lib.hid HLen
                    clear HSum HLen h2
                    cases y
                    all_goals
                      go_wp2_with (first
                        | (go_at_call 23; refine H23.out.mono ?_; clear H23; rintro e w12 ⟨rfl, rfl⟩)
                        | (go_at_call 24; refine HS.out.mono ?_; clear HS; rintro e w12 ⟨rfl, rfl⟩)
                        | (go_at_call 25; refine HL.out.mono ?_; clear HL; rintro e w12 ⟨rfl, rfl⟩)
                        | fail)
                    all_goals (go_roundw; case measure => simp only [intOf]; omega)
                    all_goals (case rel => exact ⟨k + 1, upd L j LD, upd av j (.slice qv LD.length cv), by omega, by go_num, ⟨S11.out, HB2.out⟩⟩)
                  · have hd3 : ((j : Int) == 2) = false := by rw [beq_eq_false_iff_ne]; omega
                    rw [if_neg h2] at HSum HLen
                    have HS := Lib.hid HSum
                    have HL := Lib.hid HLen
                    clear HSum HLen h2
                    cases y
                    all_goals
                      go_wp2_with (first
                        | (go_at_call 23; refine H23.out.mono ?_; clear H23; rintro e w12 ⟨rfl, rfl⟩)
                        | (go_at_call 24; refine HS.out.mono ?_; clear HS; rintro e w12 ⟨rfl, rfl⟩)
                        | (go_at_call 25; refine HL.out.mono ?_; clear HL; rintro e w12 ⟨rfl, rfl⟩)
                        | fail)
                    all_goals (go_roundw; case measure => simp only [intOf]; omega)
                    all_goals (case rel => exact ⟨k + 1, upd L j LD, upd av j (.slice qv LD.length cv), by omega, by go_num, ⟨S11.out, HB2.out⟩⟩)
        · obtain rfl : n = k := by omega
          clear hk hlt
          obtain ⟨w5, hw5⟩ : ∃ x, x = wr := ⟨_, rfl⟩
          subst hw5
          have k0 : w5.cell? ⟨gl, 0, none⟩ = some (.pointer (some ⟨g0, 0, none⟩)) := hS.out.1.cell 0 (by omega)
          have k1 : w5.cell? ⟨gl, 1, none⟩ = some (.pointer (some ⟨g1, 0, none⟩)) := hS.out.1.cell 1 (by omega)
          have k2 : w5.cell? ⟨gl, 2, none⟩ = some (.pointer none) := hS.out.1.cell 2 (by omega)
          have a0 := hS.out.1.allcell 0 (by omega)
          have a1 := hS.out.1.allcell 1 (by omega)
          have o0 := hS.out.1.own 0 (by omega)
          have o1 := hS.out.1.own 1 (by omega)
          obtain ⟨q0, c0, hv0, -⟩ := o0.form
          obtain ⟨q1, c1, hv1, -⟩ := o1.form
          rw [hv0] at a0 o0
          rw [hv1] at a1 o1
          have hl0 : ((L 0).length : Int) ≤ 1099511627776 := by have := hS.out.2; have := HTn.out; omega
          have hl1 : ((L 1).length : Int) ≤ 1099511627776 := by have := hS.out.2; have := HTn.out; omega
          have H23a := rcrc_calls _ (L 0) w5 o0.rd (by omega)
          have H23b := rcrc_calls _ (L 1) w5 o1.rd (by omega)
          have hsum0 := fun m => sum_calls g0 _ _ (w5.drewN m) hS.out.1.s0
          have hsum1 := fun m => sum_calls g1 _ _ (w5.drewN m) hS.out.1.s1
          have hlen0 := fun m => len_calls g0 _ _ (w5.drewN m) hS.out.1.s0
          have hlen1 := fun m => len_calls g1 _ _ (w5.drewN m) hS.out.1.s1
          have hsum2 := fun m => sum_nil (w5.drewN m)
          have hlen2 := fun m => len_nil (w5.drewN m)
          have EW := Lib.hid hS.out.1.ext
          rw [show F32 = 0xFFFFFFFF#32 from rfl, crc_same] at hsum0 hsum1
          clear hS o0 o1 hv0 hv1
          generalize rtk 0xFFFFFFFF#32 (L 0) ^^^ 0xFFFFFFFF#32 = X0 at *
          generalize rtk 0xFFFFFFFF#32 (L 1) ^^^ 0xFFFFFFFF#32 = X1 at *
          generalize (L 0).length = N0 at *
          generalize (L 1).length = N1 at *
          have H1 := Lib.hid H23a
          have H2 := Lib.hid H23b
          have HS0 := Lib.hid hsum0
          have HS1 := Lib.hid hsum1
          have HS2 := Lib.hid hsum2
          have HL0 := Lib.hid hlen0
          have HL1 := Lib.hid hlen1
          have HL2 := Lib.hid hlen2
          clear H23a H23b hsum0 hsum1 hsum2 hlen0 hlen1 hlen2
          have x0 : (Bv X0 == Bv X0) = true := by simp
          have x1 : (Bv X1 == Bv X1) = true := by simp
          go_wp2_with (first
            | (go_at_call 23; refine H1.out.mono ?_; clear H1; rintro e w6 ⟨rfl, rfl⟩)
            | (go_at_call 23; refine H2.out.mono ?_; clear H2; rintro e w6 ⟨rfl, rfl⟩)
            | fail)
          go_quiet (first
            | (go_at_call_of 24 (Value.pointer (some ⟨g0, 0, none⟩)); exact quiet_same HS0.out _)
            | (go_at_call_of 24 (Value.pointer (some ⟨g1, 0, none⟩)); exact quiet_same HS1.out _)
            | (go_at_call_of 24 (Value.pointer none); exact quiet_same HS2.out _)
            | (go_at_call_of 25 (Value.pointer (some ⟨g0, 0, none⟩)); exact quiet_same HL0.out _)
            | (go_at_call_of 25 (Value.pointer (some ⟨g1, 0, none⟩)); exact quiet_same HL1.out _)
            | (go_at_call_of 25 (Value.pointer none); exact quiet_same HL2.out _))
          go_wp2_with fail
          go_ret
          exact ⟨rfl, EW.out.drewN _⟩
theorem streams_walk' (sv : Value) (ad : Option Addr) (n c : Nat) (hsv : sv = .slice ad n c) (W : World) (h : ∃ (wh : Nat → Int) (dv : Nat → Value) (dt : Nat → List (BitVec 8)) (ak : Nat → Bool), n * 40 ≤ 140737488351232 ∧ ∀ i, i < n → (∃ b o, ad = some ⟨b, o, none⟩ ∧ W.cell? ⟨b, o + i * 3, none⟩ = some (.int .i64 (wh i)) ∧ W.cell? ⟨b, o + i * 3 + 1, none⟩ = some (dv i) ∧ W.cell? ⟨b, o + i * 3 + 2, none⟩ = some (.bool (ak i))) ∧
      Rd W cb (dv i) (dt i) ∧ (dt i).length ≤ 140737488351232 ∧ -9223372036854775808 ≤ wh i ∧ wh i ≤ 9223372036854775807) :
    Calls Try.prog 6 #[sv] W fun e w' => e = .returned (.bool true) ∧ Below W.heap.size W w' := by
  obtain ⟨wh, dv, dt, ak, h1, h2⟩ := h
  subst hsv
  exact (streams_walk ad n c wh dv dt ak W h1 h2).mono fun e w' h => ⟨h.1, h.2.to⟩
end Go.Proofs.Ytbamkkbdcodafaa
