/- LoadOwn: the walk of the law. -/
import Derived.Test.YtjgdeijodjihlaaD9j
import Derived.Deep.QuietTactic
import Derived.BigQuiet
import Derived.IntWalk
namespace Go.Proofs.Ytjgdeijodjihlaa
open Go.RowKit
set_option linter.unusedVariables false

theorem Try.u35 : Try.prog.underlying 35 = some (.slice 28) := by kernel_rfl
theorem Try.info28 : (Try.prog.info? 28).map (fun i => (i.zero, i.size, i.bytes)) = some (some (.slice none 0 0), 1, 24) := by kernel_rfl
set_option maxRecDepth 100000 in
set_option maxHeartbeats 2000000 in
theorem own_bad (n h : Int) (sv : Value) (W : World) (hf : fitB n h = false) :
    Calls Try.prog 3 #[ci n, ci h, sv] W fun e w' => e = .returned (.bool true) ∧ Ext W w' := by
  have HK := Lib.hid (known_calls W)
  have HM := Lib.hid (fun w => made_bad n h sv w hf)
  have HF := Lib.hid (fun w => fit_calls n h w)
  rw [hf] at HF
  clear hf
  go_enter Try.func3, Try.ntmps3
  go_wp2_with (first
    | (go_at_call 9; refine HK.out.mono ?_; clear HK; rintro e w1 ⟨rfl, h1⟩; have E1 := Lib.hid h1; clear h1)
    | (go_at_call 10; refine (HM.out _).mono ?_; clear HM; rintro e w2 ⟨rfl, rfl⟩)
    | (go_at_call 11; refine (HF.out _).mono ?_; clear HF; rintro e w2 ⟨rfl, rfl⟩)
    | fail)
  go_ret
  exact ⟨rfl, E1.out⟩
set_option maxRecDepth 100000 in
set_option maxHeartbeats 8000000 in
theorem own_fit (n h : Int) (sv : Value) (l : List Sc) (W : World) (hf : fitB n h = true) (hs : RdS W sv l) (hl : l.length ≤ 9223372036854775807) :
    Calls Try.prog 3 #[ci n, ci h, sv] W fun e w' => e = .returned (.bool true) ∧ Ext W w' := by
  obtain ⟨i3, j1, j2, j3, j4⟩ := info_parts Try.info33
  have hz : i3.zero = some (cf 0) := j2
  have HK := Lib.hid (known_calls W)
  have HM := Lib.hid (fun w (e : Ext W w) => made_fit n h sv l w hf (hs.ext e) hl)
  have HN := Lib.hid num_calls
  obtain ⟨m1, hm1⟩ : ∃ M, (runM (newM n.toNat h.toNat) 0 l).1 = M := ⟨_, rfl⟩
  have hck : (runM (newM n.toNat h.toNat) 0 l).2 = (m1.now : Int) := by rw [← hm1]; exact (run_clock l _ 0 rfl).symm
  rw [hm1, hck] at HM
  have HH := Lib.hid (fun (w : World) (g lb : Nat) (k : MB w g lb m1) => hit_calls g lb m1 0 m1.now 4607182418800017408 w k (by decide))
  have H0 := Lib.hid (fun (h : m1.ok) => hit_now h)
  have HL := Lib.hid (hit_len m1 0 m1.now 4607182418800017408)
  obtain ⟨m2, hm2⟩ : ∃ M, (hitP m1 0 m1.now 4607182418800017408).2 = M := ⟨_, rfl⟩
  rw [hm2] at HH HL
  obtain ⟨N, hN⟩ : ∃ N, m1.L.length = N := ⟨_, rfl⟩
  have HN1 := Lib.hid hN
  have HN2 : Hid (m2.L.length = N) := HL.out.trans hN
  have hb : ∀ k : Nat, Hid (k = N → N ≤ 64 → (([] : List Nat).length + k) * 8 ≤ 140737488355328 ∧ (([] : List Nat).length + k) ≤ 9223372036854775807) := fun k => by
    show _ → _ → _
    rintro rfl h64
    simp
    omega
  clear hf hs hl hm1 hck hm2 hN HL
  go_enter Try.func3, Try.ntmps3
  go_wp2_with (first
    | (go_at_call 9; refine HK.out.mono ?_; clear HK; rintro e w1 ⟨rfl, h1⟩; have E1 := Lib.hid h1; clear h1)
    | (go_at_call 10; refine (HM.out _ E1.out).mono ?_; clear HM; rintro e w2 ⟨g, lb, rfl, h1, h2, h3, h4⟩
       have LO0 := Lib.hid (And.intro h1 h2)
       have M2 := Lib.hid h3
       have NN : Hid (0 < N ∧ N ≤ 64) := ⟨by have := h3.ok.l1; have := HN1.out; omega, by have := h3.ok.l2; have := HN1.out; omega⟩
       have E2 := Lib.hid (E1.out.trans h4)
       have R3 := Lib.hid (row_calls g lb m1 w2 h3)
       clear h1 h2 h3 h4)
    | (go_at_call 12; refine R3.out.mono ?_; clear R3; rintro e w3 ⟨v3, rfl, h1, h2⟩
       obtain ⟨ga, ca, rfl, sa, la1, la2, la3, la4⟩ := h1.spn HN1.out NN.out.1
       have RA := Lib.hid h1.rd
       have SA := Lib.hid sa
       have LA := Lib.hid (And.intro la1 la2)
       have E3 := Lib.hid h2
       have M3 := Lib.hid (M2.out.ext h2)
       have R4 := Lib.hid (row_calls g lb m1 w3 M3.out)
       clear h1 h2 sa la1 la2 la3 la4)
    | (go_at_call 12; refine R4.out.mono ?_; clear R4; rintro e w4 ⟨v4, rfl, h1, h2⟩
       obtain ⟨gb, cb, rfl, sb, la1, la2, la3, la4⟩ := h1.spn HN1.out NN.out.1
       have SB := Lib.hid sb
       have LB := Lib.hid (And.intro la1 la2)
       have E4 := Lib.hid h2
       have M4 := Lib.hid (M3.out.ext h2)
       have X5 := Ext.of_alloc (w := w4) (.cells #[] 33)
       have O5 : Hid (Own (w4.alloc (.cells #[] 33)) w4.heap.size 33 cf (.slice (some ⟨w4.heap.size, 0, none⟩) 0 0) []) := Own.made (Nat.le_refl _)
       have Q5 := Lib.hid (X5.rd (h2.rd RA.out))
       have S5 := Lib.hid (X5.size)
       have X5' := Lib.hid X5
       have B5 := Lib.hid (hb _ |>.out HN1.out NN.out.2)
       clear h1 h2 sb la1 la2 la3 la4 X5)
    | (at_builtin; refine wpList_append_rd cf cf_one rfl (.tmp 42) (.tmp 43) 28 rfl w4.heap.size 33 i3 0 8 Try.u28 j1 hz j3 j4 rfl (.slice (some ⟨w4.heap.size, 0, none⟩) 0 0) [] rfl O5.out _ m1.L rfl Q5.out B5.out.1 B5.out.2 S5.out ?_
       intro v6 w6 ho hg
       rw [List.nil_append] at ho
       have X6 := X5'.out.grown hg (fun k hk => by cases hk; exact Nat.le_refl _)
       have RW := Lib.hid ho
       have E6 := Lib.hid X6
       have M6 := Lib.hid (M4.out.ext X6)
       have H7 := Lib.hid (HH.out w6 g lb M6.out)
       rw [H0.out M6.out.ok] at H7
       clear ho hg X6 O5 Q5 S5 X5' B5)
    | (go_at_call 14; refine H7.out.mono ?_; clear H7; rintro e w7 ⟨rfl, h1, h2⟩
       have M7 := Lib.hid h1
       have G7 := Lib.hid h2
       have R8 := Lib.hid (row_calls g lb m2 w7 h1)
       clear h1 h2)
    | (go_at_call 13; refine (HN.out _ _).mono ?_; rintro e w8 ⟨rfl, rfl⟩)
    | (go_at_call 12; refine R8.out.mono ?_; clear R8; rintro e w8 ⟨v8, rfl, h1, h2⟩
       obtain ⟨gc, cc, rfl, sc, la1, la2, la3, la4⟩ := h1.spn HN2.out NN.out.1
       have RC := Lib.hid h1.rd
       have SC := Lib.hid sc
       have LC := Lib.hid (And.intro la1 la2)
       have E8 := Lib.hid h2
       have X9 := Ext.of_alloc (w := w8) (.cells #[] 33)
       have O9 : Hid (Own (w8.alloc (.cells #[] 33)) w8.heap.size 33 cf (.slice (some ⟨w8.heap.size, 0, none⟩) 0 0) []) := Own.made (Nat.le_refl _)
       have Q9 := Lib.hid (X9.rd RC.out)
       have S9 := Lib.hid (X9.size)
       have X9' := Lib.hid X9
       have B9 := Lib.hid (hb _ |>.out HN2.out NN.out.2)
       clear h1 h2 sc la1 la2 la3 la4 X9)
    | (at_builtin; refine wpList_append_rd cf cf_one rfl (.tmp 52) (.tmp 53) 28 rfl w8.heap.size 33 i3 0 8 Try.u28 j1 hz j3 j4 rfl (.slice (some ⟨w8.heap.size, 0, none⟩) 0 0) [] rfl O9.out _ m2.L rfl Q9.out B9.out.1 B9.out.2 S9.out ?_
       intro v10 w10 ho hg
       rw [List.nil_append] at ho
       have X10 := X9'.out.grown hg (fun k hk => by cases hk; exact Nat.le_refl _)
       obtain ⟨gd, cd, rfl, sd, la1, la2, la3, la4⟩ := ho.spn HN2.out NN.out.1
       obtain ⟨gw, cw', rfl, sw, lw1, lw2, lw3, lw4⟩ := RW.out.spn HN1.out NN.out.1
       have F10 : Hid (Ext W w10 ∧ MB w10 g lb m2 ∧ Spn w10 33 cf ga ca m1.L ∧ Spn w10 33 cf gb cb m1.L ∧ Spn w10 33 cf gw cw' m1.L ∧ Spn w10 33 cf gc cc m2.L ∧ Spn w10 33 cf gd cd m2.L) := by
         have e8 := E8.out.trans X10
         have q := LO0.out
         have z1 := M2.out.b.lt
         have z2 := M2.out.l.lt
         have z3 := E3.out.size
         have z4 := E4.out.size
         have z5 := LA.out.1
         have z6 := LB.out.1
         have z7 := E1.out.size
         refine ⟨((((E2.out.trans E3.out).trans E4.out).trans E6.out).grw2 G7.out (by omega) (by omega)).trans e8, M7.out.ext e8, ?_, ?_, ?_, SC.out.ext X10, sd⟩
         · exact (((SA.out.ext E4.out).ext E6.out).grw2 G7.out (by omega) (by omega)).ext e8
         · exact ((SB.out.ext E6.out).grw2 G7.out (by omega) (by omega)).ext e8
         · exact (sw.grw2 G7.out (by omega) (by omega)).ext e8
       have F11 : Hid ((ga ≠ gb ∧ ga ≠ gc ∧ ga ≠ gd ∧ gb ≠ gc ∧ gb ≠ gd ∧ gc ≠ gd) ∧ (lb ≠ ga ∧ lb ≠ gb ∧ lb ≠ gc ∧ lb ≠ gd) ∧ (W.heap.size ≤ ga ∧ W.heap.size ≤ gb ∧ W.heap.size ≤ gc ∧ W.heap.size ≤ gd)) := by
         have z2 := M2.out.l.lt
         have z3 := E3.out.size
         have z4 := E4.out.size
         have z5 := LA.out
         have z6 := LB.out
         have z7 := E2.out.size
         have z8 := LC.out
         have z9 := E8.out.size
         have z10 := G7.out.size
         have z11 := E6.out.size
         exact ⟨⟨by omega, by omega, by omega, by omega, by omega, by omega⟩, ⟨by omega, by omega, by omega, by omega⟩, ⟨by omega, by omega, by omega, by omega⟩⟩
       have T15 := Lib.hid (rows_calls (.slice (some ⟨ga, 0, none⟩) N ca) (.slice (some ⟨gw, 0, none⟩) N cw') m1.L w10 (F10.out.2.2.1.rd HN1.out.symm) (F10.out.2.2.2.2.1.rd HN1.out.symm) (by rw [HN1.out]; have := NN.out.2; omega))
       clear ho hg X10 O9 Q9 S9 X9' B9 RA RC RW sd la1 la2 la3 la4 lw1 lw2 lw3 lw4 SA SB SC LA LB LC E1 E2 E3 E4 E6 E8 M2 M3 M4 M6 M7 G7 LO0 sw)
    | (go_at_call 15; refine T15.out.mono ?_; clear T15; rintro e w11 ⟨rfl, n11, h11⟩
       have X11 : Hid (Ext w10 w11) := by rw [← h11]; exact (Ext.refl w10).drewN n11
       have U15 := Lib.hid (rows_calls (.slice (some ⟨gb, 0, none⟩) N cb) (.slice (some ⟨gw, 0, none⟩) N cw') m1.L w11 ((F10.out.2.2.2.1.ext X11.out).rd HN1.out.symm) ((F10.out.2.2.2.2.1.ext X11.out).rd HN1.out.symm) (by rw [HN1.out]; have := NN.out.2; omega))
       clear h11)
    | (go_at_call 15; refine U15.out.mono ?_; clear U15; rintro e w12 ⟨rfl, n12, h12⟩
       have X12 : Hid (Ext w10 w12) := by rw [← h12]; exact X11.out.drewN n12
       clear h12 X11)
    | fail)
  obtain ⟨ab, hab⟩ : ∃ x, w12.heap.size = x := ⟨_, rfl⟩
  have A12 := Blk.new w12 #[.slice (some ⟨ga, 0, none⟩) N ca, .slice (some ⟨gb, 0, none⟩) N cb, .slice (some ⟨gc, 0, none⟩) N cc] 28
  rw [hab] at A12
  rw [hab]
  obtain ⟨w13, hw13⟩ : ∃ z, w12.alloc (.cells #[.slice (some ⟨ga, 0, none⟩) N ca, .slice (some ⟨gb, 0, none⟩) N cb, .slice (some ⟨gc, 0, none⟩) N cc] 28) = z := ⟨_, rfl⟩
  have X13 := X12.out.trans (Ext.of_alloc (w := w12) (.cells #[.slice (some ⟨ga, 0, none⟩) N ca, .slice (some ⟨gb, 0, none⟩) N cb, .slice (some ⟨gc, 0, none⟩) N cc] 28))
  rw [hw13] at A12 X13
  rw [hw13]
  obtain ⟨vs, ls0, e0, e1, e2, e3, hLO⟩ := LO.made (F10.out.1.trans X13) (F10.out.2.1.ext X13) (F10.out.2.2.1.ext X13) (F10.out.2.2.2.1.ext X13) (F10.out.2.2.2.2.2.1.ext X13) (F10.out.2.2.2.2.2.2.ext X13) HN1.out HN1.out HN2.out NN.out F11.out.1 F11.out.2.1 F11.out.2.2 A12
  have V3 := Lib.hid e3
  have L0 := Lib.hid hLO
  have hN1 : (0 : Int) < N := by have := NN.out.1; omega
  have hN2 : (N : Int) ≤ 64 := by have := NN.out.2; omega
  clear e0 e1 e2 e3 hLO A12 X13 X12 hab hw13 F10 F11 HH H0 HN hb
  go_loopw [15] (fun iv wx => ∃ (i : Nat) (ls : Nat → List Nat), i ≤ 3 ∧ iv = .int .i64 i ∧ Hid (LO W wx g lb ab m2 N vs vs ls ls ∧ ∀ j q, j < i → q < N → (ls j)[q]? = some (F1 j q))) (fun iv _ => (3 - (intOf iv).toNat))
  case atStart => exact ⟨0, ls0, by omega, rfl, L0.out, fun j q hj => by omega⟩
  case round =>
    clear L0
    obtain ⟨i, ls, hi, rfl, hT⟩ := hrel
    by_cases hlt : i < 3
    · have hlt' : (i : Int) < 3 := by omega
      go_wp2_with fail
      go_loopw [16] (fun kv wx => ∃ (k : Nat) (ls' : Nat → List Nat), k ≤ N ∧ kv = .int .i64 k ∧ Hid (LO W wx g lb ab m2 N vs vs ls' ls' ∧ ∀ j q, (j < i ∨ (j = i ∧ q < k)) → q < N → (ls' j)[q]? = some (F1 j q))) (fun kv _ => (N - (intOf kv).toNat))
      case atStart => exact ⟨0, ls, by omega, rfl, hT.out.1, fun j q hj hq => hT.out.2 j q (by omega) hq⟩
      case round =>
        clear hT
        obtain ⟨k, ls', hk, rfl, hU⟩ := hrel
        obtain ⟨b, c, hv, hc1, hc2, hsp, hlo⟩ := hU.out.1.row i hlt
        have hc := hU.out.1.cell i hlt
        rw [hv] at hc
        have hcm : (c : Int) ≤ 9223372036854775807 := by simp only [maxLen] at hc2; omega
        by_cases hlk : k < N
        · have hlk' : (k : Int) < N := by omega
          obtain ⟨y, hck⟩ : ∃ y, wr.cell? ⟨b, k, none⟩ = some (cf y) := ⟨_, hsp.cell k (by rw [hU.out.1.len i hlt]; exact hlk)⟩
          have hfk := hsp.free k
          have hrun := F1_run i k
          have HS := Lib.hid (hU.out.1.set (F1 i k) hlt hlk (show (vs i).ownBlock = some b by rw [hv]; rfl))
          have HF : Hid (∀ j q, (j < i ∨ (j = i ∧ q < k + 1)) → q < N → (upd ls' i ((ls' i).set k (F1 i k)) j)[q]? = some (F1 j q)) := fun j q hj hq => by
            by_cases e : j = i
            · subst e
              rw [upd_self, List.getElem?_set]
              split
              · next e => rw [if_pos (by rw [hU.out.1.len j hlt]; exact hlk), e]
              · exact hU.out.2 j q (by omega) hq
            · rw [upd_ne _ _ e]; exact hU.out.2 j q (by omega) hq
          clear hU hv hc1 hc2 hsp hlo
          go_wp2_with fail
          go_roundw
          case measure => simp only [intOf]; omega
          case rel => exact ⟨k + 1, _, by omega, by go_num, HS.out, HF.out⟩
        · obtain rfl : N = k := by omega
          have HU := Lib.hid hU.out
          clear hU hv hc1 hc2 hsp hlo
          go_wp2_with fail
          go_roundw
          case measure => simp only [intOf]; omega
          case rel => exact ⟨i + 1, ls', by omega, by go_num, HU.out.1, fun j q hj hq => HU.out.2 j q (by omega) hq⟩
    · obtain rfl : i = 3 := by omega
      rw [show ((3 : Nat) : Int) = 3 from rfl]
      have HT := Lib.hid hT.out
      clear hT hi hlt
      go_wp2_with fail
      go_loopw [17, 18] (fun gslot iv wx => ∃ (i : Nat) (hs : Nat → Value) (ms : Nat → List Nat) (gv : Value) (GL : List Value), i ≤ 3 ∧ iv = .int .i64 i ∧ gv = gslot ∧ Hid (GR W wx g lb ab m2 N vs hs ls ms gv GL i)) (fun _ iv _ => (3 - (intOf iv).toNat))
      case atStart => exact ⟨0, vs, ls, _, [], by omega, rfl, rfl, ⟨HT.out.1, Own.nil, (fun h => by cases h), rfl, fun j hj => by omega, fun j hj => by omega, fun j hj => ⟨rfl, rfl⟩, HT.out.2⟩⟩
      case round =>
        obtain ⟨i, hs, ms, gv, GL, hi, rfl, rfl, hG⟩ := hrel
        by_cases hlt : i < 3
        · have hlt' : (i : Int) < 3 := by omega
          have hc := hG.out.lo.cell i hlt
          have hvi := Lib.hid (hG.out.todo i (Nat.le_refl _)).1
          go_wp2_with fail
          go_loopw [19, 20] (fun tv kv wx => ∃ (k : Nat) (hs' : Nat → Value) (ms' : Nat → List Nat), k ≤ 80 ∧ kv = .int .i64 k ∧ tv = hs' i ∧ Hid (GI W wx g lb ab m2 N vs hs' ls ms' gv GL i k)) (fun _ kv _ => (80 - (intOf kv).toNat))
          case atStart => exact ⟨0, hs, ms, by omega, rfl, hvi.out.symm, hG.out.start hlt⟩
          case round =>
            clear hG hvi hc
            obtain ⟨k, hs', ms', hk, rfl, rfl, hU⟩ := hrel
            by_cases hlk : k < 80
            · have hlk' : (k : Int) < 80 := by omega
              have hrun := F2_run i k
              have hU1 := hU.out.lo.ext' (Ext.of_alloc (w := wr) (.cells #[cf (F2 i k)] 33))
              have SP := Lib.hid (hU1.fam.h i (by omega))
              have X3 : Hid ((wr.alloc (.cells #[cf (F2 i k)] 33)).cell? ⟨wr.heap.size, 0, none⟩ = some (cf (F2 i k))) := (Blk.new wr #[cf (F2 i k)] 33).cell 0
              have BX : Hid (((ms' i).length + 1) * 8 ≤ 140737488355328) := by show _ ≤ _; rw [hU.out.cur.1]; have := NN.out.2; omega
              have MX : Hid ((ms' i).length + 1 ≤ 9223372036854775807) := by show _ ≤ _; rw [hU.out.cur.1]; have := NN.out.2; omega
              clear hU1
              go_wp2_with (first
                | (at_builtin; refine wpList_append_sp cf rfl (.tmp 117) (.tmp 124) 28 rfl 33 i3 (cf 0) 8 Try.u28 j1 hz j3 j4 rfl (hs' i) (ms' i) rfl SP.out wr.heap.size 1 (F2 i k) rfl X3.out rfl BX.out MX.out ?_
                   intro v' w' p1 p2 p3 p4 p5
                   have T := Lib.hid (hU.out.app (Ext.of_alloc (w := wr) (.cells #[cf (F2 i k)] 33)) hlt p1 p2 p3 p4 p5)
                   clear p1 p2 p3 p4 p5 SP X3 BX MX hU hrun)
                | fail)
              go_roundw
              case measure => simp only [intOf]; omega
              case rel => exact ⟨k + 1, upd hs' i v', _, by omega, by go_num, (upd_self _ _ _).symm, T.out⟩
            · obtain rfl : k = 80 := by omega
              obtain ⟨i28, q1, q2, q3, q4⟩ := info_parts Try.info28
              have qz : i28.zero = some (.slice none 0 0) := q2
              obtain ⟨b, c, hv, _⟩ := (hU.out.lo.fam.h i (by omega)).form (by rw [hU.out.cur.1]; omega)
              obtain ⟨sl, hsl⟩ : ∃ x, (ms' i).length = x := ⟨_, rfl⟩
              rw [hsl] at hv
              rw [hv]
              have HV := Lib.hid hv
              have OG : Hid (Own (wr.alloc (.cells #[.slice (some ⟨b, 0, none⟩) sl c] 28)) W.heap.size 28 idv gv GL) := (Ext.of_alloc (w := wr) (.cells #[.slice (some ⟨b, 0, none⟩) sl c] 28)).own hU.out.own
              have X4 : Hid ((wr.alloc (.cells #[.slice (some ⟨b, 0, none⟩) sl c] 28)).cell? ⟨wr.heap.size, 0, none⟩ = some (.slice (some ⟨b, 0, none⟩) sl c)) := (Blk.new wr #[.slice (some ⟨b, 0, none⟩) sl c] 28).cell 0
              have BG : Hid ((GL.length + 1) * 24 ≤ 140737488355328) := by show _ ≤ _; rw [hU.out.gl]; omega
              have MG : Hid (GL.length + 1 ≤ 9223372036854775807) := by show _ ≤ _; rw [hU.out.gl]; omega
              have SG : Hid (W.heap.size ≤ (wr.alloc (.cells #[.slice (some ⟨b, 0, none⟩) sl c] 28)).heap.size) := (hU.out.lo.ext.alloc _).size
              clear hv hsl
              go_wp2_with (first
                | (at_builtin; refine wpList_append_one idv rfl (.tmp 126) (.tmp 128) 35 rfl W.heap.size 28 i28 (.slice none 0 0) 24 Try.u35 q1 qz q3 q4 rfl gv GL rfl OG.out wr.heap.size 1 (.slice (some ⟨b, 0, none⟩) sl c) rfl X4.out rfl BG.out MG.out SG.out ?_
                   intro gv' w' p1 p2 p3
                   rw [← HV.out] at p1
                   have T := Lib.hid (hU.out.push (Ext.of_alloc (w := wr) (.cells #[.slice (some ⟨b, 0, none⟩) sl c] 28)) hlt p1 p2 p3)
                   clear p1 p2 p3 OG X4 BG MG SG hU HV)
                | fail)
              go_roundw
              case measure => simp only [intOf]; omega
              case rel => exact ⟨i + 1, hs', ms', gv', _, by omega, by go_num, rfl, T.out⟩
        · obtain rfl : i = 3 := by omega
          rw [show ((3 : Nat) : Int) = 3 from rfl]
          obtain ⟨gg, cg, rfl, hgc⟩ := hG.out.cells
          have HG := Lib.hid hG.out
          have HC := Lib.hid hgc
          clear hG hgc HT hi hlt
          go_wp2_with fail
          go_loopw [21] (fun iv wx => ∃ (i n : Nat), i ≤ 3 ∧ iv = .int .i64 i ∧ wx = wr.drewN n) (fun iv _ => (3 - (intOf iv).toNat))
          case atStart => exact ⟨0, 0, by omega, rfl, rfl⟩
          case round =>
            obtain ⟨i, n, hi, rfl, rfl⟩ := hrel
            by_cases hlt : i < 3
            · have hlt' : (i : Int) < 3 := by omega
              obtain ⟨b, c, hv, hc1, hc2, hf1⟩ := HG.out.cell1 i hlt
              obtain ⟨b2, c2, hv2, hc3, hc4, hf2⟩ := HG.out.grow i hlt
              have hca := HG.out.lo.cell i hlt
              have hcg := HC.out i hlt
              rw [hv] at hca
              rw [hv2] at hcg
              have HS1 := Lib.hid hf1
              have HS2 := Lib.hid hf2
              have hcm : (c : Int) ≤ 9223372036854775807 := by simp only [maxLen] at hc2; omega
              have hcm2 : (c2 : Int) ≤ 9223372036854775807 := by simp only [maxLen] at hc4; omega
              clear hv hv2 hf1 hf2 hc1 hc2 hc3 hc4
              have hN3 : (N : Int) + 80 ≤ 144 := by omega
              go_wp2_with fail
              go_loopw [22] (fun kv wx => ∃ (k n' : Nat), k ≤ N + 80 ∧ kv = .int .i64 k ∧ wx = wr.drewN n') (fun kv _ => (N + 80 - (intOf kv).toNat))
              case atStart => exact ⟨0, n, by omega, rfl, rfl⟩
              case round =>
                obtain ⟨k, n', hk, rfl, rfl⟩ := hrel
                by_cases hlk : k < N + 80
                · have hlk' : (k : Int) < N + 80 := by omega
                  have hw1 : IntKind.i64.wrap (-1000 * (i : Int)) = -1000 * (i : Int) := IntWalk.i64_in _ (by omega)
                  have hw2 : IntKind.i64.wrap (-1000 * (i : Int) - (k : Int)) = -1000 * (i : Int) - (k : Int) := IntWalk.i64_in _ (by omega)
                  have hw3 : IntKind.i64.wrap (-1000 * (i : Int) - (k : Int) - 1) = -1000 * (i : Int) - (k : Int) - 1 := IntWalk.i64_in _ (by omega)
                  have hw4 : IntKind.i64.wrap (1000 * (i : Int)) = 1000 * (i : Int) := IntWalk.i64_in _ (by omega)
                  have hw5 : IntKind.i64.wrap (1000 * (i : Int) + (k : Int)) = 1000 * (i : Int) + (k : Int) := IntWalk.i64_in _ (by omega)
                  have hw6 : IntKind.i64.wrap (1000 * (i : Int) + (k : Int) - (N : Int)) = 1000 * (i : Int) + (k : Int) - (N : Int) := IntWalk.i64_in _ (by omega)
                  have hw7 : IntKind.i64.wrap (1000 * (i : Int) + (k : Int) - (N : Int) + 7) = 1000 * (i : Int) + (k : Int) - (N : Int) + 7 := IntWalk.i64_in _ (by omega)
                  by_cases hkN : k < N
                  · have hck := HS1.out k hkN
                    have hrun := F1_run i k
                    have hself := F1_self i k
                    have hnk : ¬ N ≤ k := by omega
                    have hd1 : decide (k < N) = true := decide_eq_true hkN
                    have hd2 : decide (N ≤ k) = false := decide_eq_false hnk
                    clear hw4 hw5 hw6 hw7
                    go_wp2_with fail
                    go_quiet (fail)
                    go_wp2_with fail
                    go_roundw
                    case measure => simp only [intOf]; omega
                    case rel => exact ⟨k + 1, _, by omega, by go_num, rfl⟩
                  · obtain ⟨q, hq⟩ : ∃ q, k = N + q := ⟨k - N, by omega⟩
                    have hck : wr.cell? ⟨b2, k, none⟩ = some (cf (F2 i q)) := by rw [hq]; exact HS2.out q (by omega)
                    have hrun : ∀ w, (convert 3 33 (.int .i64 (1000 * (i : Int) + (k : Int) - (N : Int) + 7))).run Try.prog w = .ok (cf (F2 i q)) w := fun w => by
                      rw [show 1000 * (i : Int) + (k : Int) - (N : Int) + 7 = 1000 * (i : Int) + q + 7 by omega]
                      exact F2_run i q w
                    have hself := F2_self i q
                    have hnk : N ≤ k := by omega
                    have hd1 : decide (k < N) = false := decide_eq_false hkN
                    have hd2 : decide (N ≤ k) = true := decide_eq_true hnk
                    clear hw1 hw2 hw3 hq
                    go_wp2_with fail
                    go_quiet (fail)
                    go_wp2_with fail
                    go_roundw
                    case measure => simp only [intOf]; omega
                    case rel => exact ⟨k + 1, _, by omega, by go_num, rfl⟩
                · obtain rfl : k = N + 80 := by omega
                  go_wp2_with fail
                  go_roundw
                  case measure => simp only [intOf]; omega
                  case rel => exact ⟨i + 1, n', by omega, by go_num, rfl⟩
            · obtain rfl : i = 3 := by omega
              have RW := Lib.hid (row_calls g lb m2 (wr.drewN n) (HG.out.lo.drewN n).mb)
              have RL : Hid (Spn (wr.drewN n) 33 cf gd cd m2.L) := by
                have h3 := (HG.out.lo.drewN n).fam.v 3 (by omega)
                rw [V3.out, HG.out.lo.la.1] at h3
                obtain ⟨b, c, e, hs⟩ := h3.form (by rw [HN2.out]; exact NN.out.1)
                injection e with e1 e2 e3
                injection e1 with e1
                injection e1 with e1
                subst e1 e3
                exact hs
              have EW := Lib.hid (HG.out.lo.drewN n).ext
              clear HC
              go_wp2_with (first
                | (go_at_call 12; refine RW.out.mono ?_; clear RW; rintro e w20 ⟨v20, rfl, h1, h2⟩
                   have RR := Lib.hid (rows_calls v20 (.slice (some ⟨gd, 0, none⟩) N cd) m2.L w20 h1.rd ((RL.out.ext h2).rd HN2.out.symm) (by rw [HN2.out]; have := NN.out.2; omega))
                   have E20 := Lib.hid (EW.out.trans h2)
                   clear h1 h2)
                | (go_at_call 15; refine RR.out.mono ?_; clear RR; rintro e w21 ⟨rfl, n21, h21⟩
                   have E21 : Hid (Ext W w21) := by rw [← h21]; exact E20.out.drewN n21
                   clear h21)
                | fail)
              go_ret
              exact ⟨rfl, E21.out⟩
theorem own_walk (n h : Int) (sv : Value) (l : List Sc) (W : World) (hs : RdS W sv l) (hl : l.length ≤ 9223372036854775807) :
    Calls Try.prog 3 #[ci n, ci h, sv] W fun e w' => e = .returned (.bool true) ∧ Below W.heap.size W w' := by
  cases hf : fitB n h with
  | true => exact (own_fit n h sv l W hf hs hl).mono fun e w' ⟨h1, h2⟩ => ⟨h1, h2.to⟩
  | false => exact (own_bad n h sv W hf).mono fun e w' ⟨h1, h2⟩ => ⟨h1, h2.to⟩
end Go.Proofs.Ytjgdeijodjihlaa
