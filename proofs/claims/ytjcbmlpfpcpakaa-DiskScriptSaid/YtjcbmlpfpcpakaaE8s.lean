/- Layer 8 (disk): steps of a script, by both: reads, images, writes. -/
import Derived.Test.YtjcbmlpfpcpakaaE8r
namespace Go.Proofs.Ytjcbmlpfpcpakaa
open Go.RowKit
set_option linter.unusedVariables false
theorem nil_rd (w : World) : Rd w cb (.slice none 0 0) [] := Or.inl ⟨_, _, rfl, rfl, fun _ => rfl⟩
theorem blk_rd' {w : World} {b : Nat} {l : List (BitVec 8)} {t : TypeId} (h : Blk w b (V cb l) t) {n c : Nat} (hn : n = l.length) : Rd w cb (.slice (some ⟨b, 0, none⟩) n c) l := by
  have h' : Blk w b (V cb (l ++ [])) t := by rw [List.append_nil]; exact h
  exact Blk.rd h' hn
section
variable {w0 w : World} {g sb m rsb rsc j : Nat} {rv pv : Value} {E : List We} {left : Int} {d : Dk}
theorem step_read_no (h : PQ w0 w g sb rv m rsb rsc pv E left d) (hj : d.R.length ≤ j) (who n torn cut r : Int) (da ka : Option Addr) (dn dc kn kc : Nat)
    (hr : ∀ wx, PQ w0 wx g sb rv m rsb rsc pv E left d → Calls Try.prog 86 #[.pointer (some ⟨m, 0, none⟩), ci n] wx fun e w' => e = .returned (.tuple #[.slice none 0 0, ci r]) ∧ wx = w')
    (hp : ∀ wx, PQ w0 wx g sb rv m rsb rsc pv E left d → Calls Try.prog 33 #[.pointer (some ⟨g, 0, none⟩), ci n] wx fun e w' => e = .returned (.tuple #[.slice none 0 0, ci r]) ∧ wx = w') :
    Calls Try.prog 42 #[.pointer (some ⟨g, 0, none⟩), .pointer (some ⟨m, 0, none⟩), .agg #[ci who, ci 1, ci n, .slice da dn dc, .slice ka kn kc, ci torn, ci cut]] w fun e w' => e = .returned (.bool true) ∧ After w0 w w' (kk g sb rv m rsb pv E) g m (j + 1) := by
  have hx := Ext.of_alloc (w := w) (.cells #[ci who, ci 1, ci n, .slice da dn dc, .slice ka kn kc, ci torn, ci cut] 60)
  have H1 := Lib.hid (hr _ (h.ext hx))
  have H2 := Lib.hid (hp _ (h.ext hx))
  have HX := Lib.hid hx
  have HH := Lib.hid h
  have hb : (r != r) = false := by simp
  clear h hx hr hp
  go_enter Try.func42, Try.ntmps42
  go_wp2_with (first
    | (go_at_call 86; refine H1.out.mono ?_; rintro e w1 ⟨rfl, rfl⟩)
    | (go_at_call 33; refine H2.out.mono ?_; rintro e w1 ⟨rfl, rfl⟩)
    | (go_at_call 25; refine (num_calls _ _).mono ?_; rintro e w99 ⟨rfl, rfl⟩)
    | (go_at_call 34; refine (same_calls _ _ [] [] _ (nil_rd _) (nil_rd _) (by decide) (by decide)).mono ?_
       rw [decide_eq_true rfl]
       rintro e w2 ⟨rfl, n2, h2⟩
       have X2 : Hid (Ext w w2) := by rw [← h2]; exact HX.out.drewN n2
       clear h2)
    | (go_at_call 37; refine (over_nil _).mono ?_; rintro e w3 ⟨rfl, rfl⟩)
    | fail)
  go_ret
  exact ⟨rfl, HH.out.same (Nat.le_succ_of_le hj) X2.out⟩
theorem step_read (h : PQ w0 w g sb rv m rsb rsc pv E left d) (hj : d.R.length ≤ j) (who n torn cut : Int) (da ka : Option Addr) (dn dc kn kc : Nat) :
    Calls Try.prog 42 #[.pointer (some ⟨g, 0, none⟩), .pointer (some ⟨m, 0, none⟩), .agg #[ci who, ci 1, ci n, .slice da dn dc, .slice ka kn kc, ci torn, ci cut]] w fun e w' => e = .returned (.bool true) ∧ After w0 w w' (kk g sb rv m rsb pv E) g m (j + 1) := by
  rcases h.pow with ⟨hp, hl⟩ | ⟨hp, hl⟩
  · subst hl
    exact step_read_no h hj who n torn cut 80 da ka dn dc kn kc (fun wx hq => rread_power hq.r n) (fun wx hq => read_power hq.p n hp)
  · by_cases hb : n < 0 ∨ (d.n : Int) ≤ n
    · exact step_read_no h hj who n torn cut 81 da ka dn dc kn kc (fun wx hq => rread_sector hq.r n hl hb) (fun wx hq => read_sector hq.p n hp hb)
    · obtain ⟨a, rfl⟩ : ∃ a : Nat, n = a := ⟨n.toNat, by omega⟩
      have ha : a < d.n := by omega
      have hx := Ext.of_alloc (w := w) (.cells #[ci who, ci 1, ci a, .slice da dn dc, .slice ka kn kc, ci torn, ci cut] 60)
      have HP := Lib.hid (h.ext hx)
      have HX := Lib.hid hx
      have HH := Lib.hid h
      have HL := Lib.hid hl
      have HPW := Lib.hid hp
      have HA := Lib.hid ha
      have c9 : (w.alloc (.cells #[ci who, ci 1, ci a, .slice da dn dc, .slice ka kn kc, ci torn, ci cut] 60)).cell? ⟨w.heap.size, 2, none⟩ = some (ci a) := (Blk.new w #[ci who, ci 1, ci a, .slice da dn dc, .slice ka kn kc, ci torn, ci cut] 60).cell 2
      have HC := Lib.hid c9
      have hlen : (d.read a).length = 64 := readS_len a d.R _ (sec_len h.p.ok.s ha) (fun q hq => (h.p.ok.r q hq).2)
      have hrd : readS a (sec d.S a) (wR E) = d.read a := by rw [h.e]; rfl
      have HLen := Lib.hid hlen
      have HRD := Lib.hid hrd
      clear h hx hl hp hb ha c9 hlen hrd
      go_enter Try.func42, Try.ntmps42
      go_wp2_with (first
        | (go_at_call 86; refine (rread_ok HP.out.r a HL.out HA.out).mono ?_
           rw [HRD.out]
           rintro e w1 ⟨v, rfl, o, x⟩
           have O1 := Lib.hid o
           have X1 := Lib.hid x
           have c9 := x.cell HC.out
           clear o x)
        | (go_at_call 33; refine (read_ok (HP.out.ext X1.out).p a HPW.out HA.out).mono ?_
           rintro e w2 ⟨rfl, x, b⟩
           have X2 := Lib.hid x
           have B2 := Lib.hid b
           clear x b)
        | (go_at_call 25; refine (num_calls _ _).mono ?_; rintro e w99 ⟨rfl, rfl⟩)
        | (go_at_call 34; refine (same_calls _ _ (d.read a) (d.read a) _ (blk_rd' B2.out HLen.out.symm) (X2.out.own O1.out).rd (by rw [HLen.out]; decide) (by rw [HLen.out]; decide)).mono ?_
           rw [decide_eq_true rfl]
           rintro e w3 ⟨rfl, n3, h3⟩
           have X3 : Hid (Ext w2 w3) := by rw [← h3]; exact (Ext.refl w2).drewN n3
           clear h3)
        | (go_at_call 37; refine (over_spn w1.heap.size 64 64 (d.read a) 132 w3 ⟨by rw [HLen.out]; exact Nat.le_refl _, by decide, _, B2.out.ext X3.out, by rw [V_size, HLen.out]; exact Nat.le_refl _, fun i hi => by rw [V_get, List.getElem?_eq_getElem hi]; rfl⟩ HLen.out.symm (by rw [HLen.out]; decide)).mono ?_
           rintro e w4 ⟨rfl, k⟩
           have K4 := Lib.hid k
           clear k)
        | fail)
      go_ret
      have hq := ((HP.out.ext X1.out).ext X2.out).ext X3.out
      have hsz : w.heap.size ≤ w1.heap.size := Nat.le_trans HX.out.size X1.out.size
      have hb1 : w0.heap.size ≤ w1.heap.size := Nat.le_trans HH.out.x.size hsz
      have hq4 := hq.over K4.out hb1 (fun y hy e => by have := HH.out.lt y hy; omega)
      refine ⟨rfl, sb, rv, rsb, rsc, pv, E, left, d, hq4, Nat.le_succ_of_le hj, ?_, fun k hk => Or.inl hk⟩
      refine (((HX.out.trans X1.out).trans X2.out).trans X3.out).only.trans' (grown_only' K4.out) (fun i hi e => ?_)
      have e : i = w1.heap.size := e
      omega
theorem step_image (h : PQ w0 w g sb rv m rsb rsc pv E left d) (hj : d.R.length ≤ j) (who n torn cut : Int) (da ka : Option Addr) (dn dc kn kc : Nat) :
    Calls Try.prog 42 #[.pointer (some ⟨g, 0, none⟩), .pointer (some ⟨m, 0, none⟩), .agg #[ci who, ci 6, ci n, .slice da dn dc, .slice ka kn kc, ci torn, ci cut]] w fun e w' => e = .returned (.bool true) ∧ After w0 w w' (kk g sb rv m rsb pv E) g m (j + 1) := by
  have hx := Ext.of_alloc (w := w) (.cells #[ci who, ci 6, ci n, .slice da dn dc, .slice ka kn kc, ci torn, ci cut] 60)
  have HP := Lib.hid (h.ext hx)
  have HX := Lib.hid hx
  have HH := Lib.hid h
  have HLen : Hid (d.S.length ≤ 9223372036854775807 ∧ 0 < d.S.length) := by have h1 := h.p.ok.s; have h2 := h.p.ok.n2; have h3 := h.p.ok.n1; exact ⟨by omega, by omega⟩
  clear h hx
  go_enter Try.func42, Try.ntmps42
  go_wp2_with (first
    | (go_at_call 31; refine (image_ok HP.out.p).mono ?_
       rintro e w1 ⟨v, rfl, x, o⟩
       have O1 := Lib.hid o
       have X1 := Lib.hid x
       clear o x)
    | (go_at_call 91; refine (rimage_ok (HP.out.ext X1.out).r).mono ?_
       rintro e w2 ⟨v2, rfl, o, x⟩
       have O2 := Lib.hid o
       have X2 := Lib.hid x
       clear o x)
    | (go_at_call 34; refine (same_calls _ _ d.S d.S _ (X2.out.own O1.out).rd O2.out.rd HLen.out.1 HLen.out.1).mono ?_
       rw [decide_eq_true rfl]
       rintro e w3 ⟨rfl, n3, h3⟩
       have X3 : Hid (Ext w1 w3) := by rw [← h3]; exact X2.out.drewN n3
       have O3 := Lib.hid (X3.out.own O1.out)
       clear h3)
    | (go_at_call 38; refine (sectors_calls ((HP.out.ext X1.out).ext X3.out).p).mono ?_; rintro e w99 ⟨rfl, rfl⟩)
    | (go_at_call 92; refine (((HP.out.ext X1.out).ext X3.out).r.sectors).mono ?_; rintro e w99 ⟨rfl, rfl⟩)
    | (go_at_call 37
       obtain ⟨gv, cv, hv, hsp⟩ := O3.out.sp.form HLen.out.2
       subst hv
       have hgl := (O3.out.lt gv rfl).1
       refine (over_spn gv cv d.S.length d.S 5 w3 hsp rfl HLen.out.1).mono ?_
       rintro e w4 ⟨rfl, k⟩
       have K4 := Lib.hid k
       have G4 := Lib.hid hgl
       clear k hsp hgl)
    | fail)
  go_ret
  have hq := (HP.out.ext X1.out).ext X3.out
  have hsz : w.heap.size ≤ (w.alloc (.cells #[ci who, ci 6, ci n, .slice da dn dc, .slice ka kn kc, ci torn, ci cut] 60)).heap.size := HX.out.size
  have hg4 := G4.out
  have hw0 := HH.out.x.size
  have hq4 := hq.over K4.out (by omega) (fun y hy e => by have := HH.out.lt y hy; omega)
  refine ⟨rfl, sb, rv, rsb, rsc, pv, E, left, d, hq4, Nat.le_succ_of_le hj, ?_, fun k hk => Or.inl hk⟩
  refine ((HX.out.trans X1.out).trans X3.out).only.trans' (grown_only' K4.out) (fun i hi e => ?_)
  have e : i = gv := e
  omega
end
end Go.Proofs.Ytjcbmlpfpcpakaa
