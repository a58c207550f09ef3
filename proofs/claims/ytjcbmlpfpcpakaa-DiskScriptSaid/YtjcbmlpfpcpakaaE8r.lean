/- Layer 8 (disk): steps of a script, by both: those that ask. -/
import Derived.Test.YtjcbmlpfpcpakaaE8p
namespace Go.Proofs.Ytjcbmlpfpcpakaa
open Go.RowKit
set_option linter.unusedVariables false
theorem over_nil (w : World) : Calls Try.prog 37 #[.slice none 0 0] w fun e w' => e = .returned (.tuple #[]) ∧ w = w' := by
  go_enter Try.func37, Try.ntmps37
  go_wp2_with fail
  go_loopw [2] (fun iv wx => iv = ci 0 ∧ wx = w) (fun iv _ => 0)
  case atStart => exact ⟨rfl, rfl⟩
  case round =>
    obtain ⟨rfl, rfl⟩ := hrel
    go_wp2_with fail
    go_end0
    exact ⟨rfl, rfl⟩
theorem over_spn (g c n : Nat) (l : List (BitVec 8)) (T : TypeId) (w : World) (h : Spn w T cb g c l) (hn : n = l.length) (hl : l.length ≤ 9223372036854775807) :
    Calls Try.prog 37 #[.slice (some ⟨g, 0, none⟩) n c] w fun e w' => e = .returned (.tuple #[]) ∧ w.grownBy w' (some g) := by
  subst hn
  have hl' : (l.length : Int) ≤ 9223372036854775807 := by omega
  have hcm : (c : Int) ≤ 9223372036854775807 := by have := h.mx; unfold maxLen at this; omega
  have hlc : (l.length : Int) ≤ c := by have := h.le; omega
  have HB := Lib.hid h
  clear h hl
  go_enter Try.func37, Try.ntmps37
  go_wp2_with fail
  go_loopw [2] (fun iv wx => ∃ (k : Nat) (l' : List (BitVec 8)), k ≤ l.length ∧ iv = ci k ∧ Hid (w.grownBy wx (some g) ∧ l'.length = l.length ∧ Spn wx T cb g c l')) (fun iv _ => ((l.length : Int) - intOf iv).toNat)
  case atStart => exact ⟨0, l, Nat.zero_le _, rfl, ⟨rfl, rfl, rfl, Nat.le_refl _, fun _ _ _ => rfl⟩, rfl, HB.out⟩
  case round =>
    clear HB
    obtain ⟨k, l', hk, rfl, hU⟩ := hrel
    by_cases hlt : k < l.length
    · have hlt' : (k : Int) < l.length := by omega
      have hkl : k < l'.length := by rw [hU.out.2.1]; exact hlt
      have hc : wr.cell? ⟨g, k, none⟩ = some (cb (l'[k]'hkl)) := hU.out.2.2.cell k hkl
      have hf := hU.out.2.2.free k
      have HS := Lib.hid (hU.out.2.2.set k (flip (l'[k]'hkl)) hkl)
      unfold flip at HS
      generalize l'[k]'hkl = x at *
      clear hkl
      go_wp2_with fail
      exact ⟨⟨k + 1, _, hlt, by simp, Lib.hid ⟨grown_trans hU.out.1 (grown_set _ _ _ _), by rw [List.length_set]; exact hU.out.2.1, HS.out⟩⟩, by simp only [intOf]; omega⟩
    · have hek : k = l.length := by omega
      subst hek
      go_wp2_with fail
      go_end0
      exact ⟨rfl, hU.out.1⟩
section
variable {w0 w : World} {g sb m rsb rsc j : Nat} {rv pv : Value} {E : List We} {left : Int} {d : Dk}
theorem PQ.over {w' : World} {b : Nat} (h : PQ w0 w g sb rv m rsb rsc pv E left d) (k : w.grownBy w' (some b)) (h1 : w0.heap.size ≤ b) (h2 : ∀ y, kk g sb rv m rsb pv E y → y ≠ b) : PQ w0 w' g sb rv m rsb rsc pv E left d :=
  h.only (grown_only' k) (fun y hy => by subst hy; exact h1) (fun y hy e => h2 y hy e)
theorem step_other (h : PQ w0 w g sb rv m rsb rsc pv E left d) (hj : d.R.length ≤ j) (who kd n torn cut : Int) (da ka : Option Addr) (dn dc kn kc : Nat) (hk : kd ≠ 0 ∧ kd ≠ 1 ∧ kd ≠ 2 ∧ kd ≠ 3 ∧ kd ≠ 4 ∧ kd ≠ 5 ∧ kd ≠ 6 ∧ kd ≠ 7) :
    Calls Try.prog 42 #[.pointer (some ⟨g, 0, none⟩), .pointer (some ⟨m, 0, none⟩), .agg #[ci who, ci kd, ci n, .slice da dn dc, .slice ka kn kc, ci torn, ci cut]] w fun e w' => e = .returned (.bool true) ∧ After w0 w w' (kk g sb rv m rsb pv E) g m (j + 1) := by
  obtain ⟨k0, k1, k2, k3, k4, k5, k6, k7⟩ := hk
  have b0 : (kd == 0) = false := by simpa using k0
  have b1 : (kd == 1) = false := by simpa using k1
  have b2 : (kd == 2) = false := by simpa using k2
  have b3 : (kd == 3) = false := by simpa using k3
  have b4 : (kd == 4) = false := by simpa using k4
  have b5 : (kd == 5) = false := by simpa using k5
  have b6 : (kd == 6) = false := by simpa using k6
  have b7 : (kd == 7) = false := by simpa using k7
  have H := Lib.hid (h.same (Nat.le_succ_of_le hj) (Ext.of_alloc (.cells #[ci who, ci kd, ci n, .slice da dn dc, .slice ka kn kc, ci torn, ci cut] 60)))
  clear h
  go_enter Try.func42, Try.ntmps42
  go_wp2_with fail
  go_ret
  exact ⟨rfl, H.out⟩
theorem step_pending (h : PQ w0 w g sb rv m rsb rsc pv E left d) (hj : d.R.length ≤ j) (who n torn cut : Int) (da ka : Option Addr) (dn dc kn kc : Nat) :
    Calls Try.prog 42 #[.pointer (some ⟨g, 0, none⟩), .pointer (some ⟨m, 0, none⟩), .agg #[ci who, ci 3, ci n, .slice da dn dc, .slice ka kn kc, ci torn, ci cut]] w fun e w' => e = .returned (.bool true) ∧ After w0 w w' (kk g sb rv m rsb pv E) g m (j + 1) := by
  have hx := Ext.of_alloc (w := w) (.cells #[ci who, ci 3, ci n, .slice da dn dc, .slice ka kn kc, ci torn, ci cut] 60)
  have H := Lib.hid (h.same (Nat.le_succ_of_le hj) hx)
  have H1 := Lib.hid (pending_calls (h.ext hx).p)
  have hlen : d.R.length = E.length := by rw [← h.e, wR_length]
  rw [hlen] at H1
  have H2 : Hid (Calls Try.prog 88 #[.pointer (some ⟨m, 0, none⟩)] (w.alloc (.cells #[ci who, ci 3, ci n, .slice da dn dc, .slice ka kn kc, ci torn, ci cut] 60)) fun e w' => e = .returned (ci E.length) ∧ w.alloc (.cells #[ci who, ci 3, ci n, .slice da dn dc, .slice ka kn kc, ci torn, ci cut] 60) = w') := by
    obtain ⟨pa, pc, hpv, _⟩ := h.r.row
    have hb := (h.ext hx).r.b
    rw [hpv] at hb
    exact ref_pending hb
  clear h hx hlen
  go_enter Try.func42, Try.ntmps42
  go_wp2_with (first
    | (go_at_call 30; refine H1.out.mono ?_; rintro e w1 ⟨rfl, rfl⟩)
    | (go_at_call 88; refine H2.out.mono ?_; rintro e w1 ⟨rfl, rfl⟩)
    | fail)
  go_ret
  exact ⟨rfl, H.out⟩
theorem step_counts (h : PQ w0 w g sb rv m rsb rsc pv E left d) (hj : d.R.length ≤ j) (who n torn cut : Int) (da ka : Option Addr) (dn dc kn kc : Nat) :
    Calls Try.prog 42 #[.pointer (some ⟨g, 0, none⟩), .pointer (some ⟨m, 0, none⟩), .agg #[ci who, ci 7, ci n, .slice da dn dc, .slice ka kn kc, ci torn, ci cut]] w fun e w' => e = .returned (.bool true) ∧ After w0 w w' (kk g sb rv m rsb pv E) g m (j + 1) := by
  have hx := Ext.of_alloc (w := w) (.cells #[ci who, ci 7, ci n, .slice da dn dc, .slice ka kn kc, ci torn, ci cut] 60)
  have HP := Lib.hid (h.ext hx)
  have HX := Lib.hid hx
  have HH := Lib.hid h
  obtain ⟨pa, pc, hpv, _⟩ := h.r.row
  clear h hx
  subst hpv
  go_enter Try.func42, Try.ntmps42
  go_wp2_with (first
    | (go_at_call 44; refine (counts_calls HP.out.p).mono ?_
       rintro e w1 ⟨rfl, n1, h1⟩
       have X1 : Hid (Ext (w.alloc (.cells #[ci who, ci 7, ci n, .slice da dn dc, .slice ka (kn) kc, ci torn, ci cut] 60)) w1) := by rw [← h1]; exact (Ext.refl _).drewN n1
       clear h1)
    | (go_at_call 93; refine (ref_counts (HP.out.ext X1.out).r.b).mono ?_
       rintro e w2 ⟨rfl, n2, h2⟩
       have X2 : Hid (Ext w1 w2) := by rw [← h2]; exact (Ext.refl _).drewN n2
       clear h2)
    | fail)
  go_ret
  exact ⟨rfl, HH.out.same (Nat.le_succ_of_le hj) ((HX.out.trans X1.out).trans X2.out)⟩
theorem step_sync (h : PQ w0 w g sb rv m rsb rsc pv E left d) (hj : d.R.length ≤ j) (who n torn cut : Int) (da ka : Option Addr) (dn dc kn kc : Nat) :
    Calls Try.prog 42 #[.pointer (some ⟨g, 0, none⟩), .pointer (some ⟨m, 0, none⟩), .agg #[ci who, ci 2, ci n, .slice da dn dc, .slice ka kn kc, ci torn, ci cut]] w fun e w' => e = .returned (.bool true) ∧ After w0 w w' (kk g sb rv m rsb pv E) g m (j + 1) := by
  have hx := Ext.of_alloc (w := w) (.cells #[ci who, ci 2, ci n, .slice da dn dc, .slice ka kn kc, ci torn, ci cut] 60)
  have HP := Lib.hid (h.ext hx)
  have HX := Lib.hid hx
  have HH := Lib.hid h
  rcases h.pow with ⟨hp, hl⟩ | ⟨hp, hl⟩
  · have HS := Lib.hid (h.same (Nat.le_succ_of_le hj) hx)
    have H1 := Lib.hid (sync_power (h.ext hx).p hp)
    have H2 : Hid (Calls Try.prog 87 #[.pointer (some ⟨m, 0, none⟩)] (w.alloc (.cells #[ci who, ci 2, ci n, .slice da dn dc, .slice ka kn kc, ci torn, ci cut] 60)) fun e w' => e = .returned (ci 80) ∧ w.alloc (.cells #[ci who, ci 2, ci n, .slice da dn dc, .slice ka kn kc, ci torn, ci cut] 60) = w') := by
      have hr := (h.ext hx).r
      rw [hl] at hr
      exact rsync_power hr
    clear h hx hp hl HP HX HH
    go_enter Try.func42, Try.ntmps42
    go_wp2_with (first
      | (go_at_call 87; refine H2.out.mono ?_; rintro e w1 ⟨rfl, rfl⟩)
      | (go_at_call 29; refine H1.out.mono ?_; rintro e w1 ⟨rfl, rfl⟩)
      | (go_at_call 25; refine (num_calls _ _).mono ?_; rintro e w99 ⟨rfl, rfl⟩)
      | fail)
    go_ret
    exact ⟨rfl, HS.out⟩
  · have HL := Lib.hid hl
    have HPW := Lib.hid hp
    clear h hx hp hl
    go_enter Try.func42, Try.ntmps42
    go_wp2_with (first
      | (go_at_call 87; refine (rsync_ok HP.out.r HL.out).mono ?_
         rintro e w1 ⟨rfl, p1, p2⟩
         have R1 := Lib.hid p1
         have O1 := Lib.hid p2
         have D1 := Lib.hid (HP.out.p.after HP.out.r p2 (fun k hk => by rcases hk with rfl | rfl; exact Or.inl rfl; exact Or.inr (Or.inl rfl)))
         have Z1 : Hid (w0.heap.size ≤ w1.heap.size) := Nat.le_trans HP.out.x.size p2.size
         clear p1 p2)
      | (go_at_call 29; refine (sync_ok D1.out HPW.out Z1.out).mono ?_
         rintro e w2 ⟨rfl, p1, p2⟩
         have D2 := Lib.hid p1
         have O2 := Lib.hid p2
         have R2 := Lib.hid (R1.out.after D1.out p2)
         clear p1 p2)
      | (go_at_call 25; refine (num_calls _ _).mono ?_; rintro e w99 ⟨rfl, rfl⟩)
      | fail)
    go_ret
    have hls := HH.out.less HPW.out
    have hO : Only w w2 (kk g sb rv m rsb pv E) := (HX.out.only.trans (O1.out.mono (fun k hk => Or.inr (by rcases hk with rfl | rfl; exact Or.inl rfl; exact Or.inr (Or.inl rfl))))).trans (O2.out.mono (fun k hk => Or.inl hk))
    refine ⟨rfl, sb, .slice none 0 0, rsb, rsc, .slice none 0 0, [], lessL left, syncD d, ⟨HH.out.x.of_only hO HH.out.lo, D2.out, ?_, rfl, hls.1, hls.2, HH.out.b⟩, Nat.zero_le _, hO, fun k hk => Or.inl ?_⟩
    · have h1 := R2.out
      rw [HH.out.e] at h1
      exact h1
    · rcases hk with hk | hk
      · rcases hk with rfl | rfl | hk
        · exact Or.inl (Or.inl rfl)
        · exact Or.inl (Or.inr (Or.inl rfl))
        · cases hk
      · rcases hk with rfl | rfl | hk | ⟨x, hx, hk⟩
        · exact Or.inr (Or.inl rfl)
        · exact Or.inr (Or.inr (Or.inl rfl))
        · cases hk
        · cases hx
theorem rfuse_ok {n : Nat} {S : List (BitVec 8)} {made synced : Int} {B sc : Nat} (h : RB w B m rsb sc pv E n S left made synced) (f : Int) : Calls Try.prog 89 #[.pointer (some ⟨m, 0, none⟩), ci f] w fun e w' => e = .returned (.tuple #[]) ∧ RB w' B m rsb sc pv E n S (if f < 0 then -1 else f) made synced ∧ Only w w' (· = m) := by
  have c2 : w.cell? ⟨m, 2, none⟩ = some (ci left) := h.b.cell 2
  have f2 := h.b.free 2
  by_cases hm : f < 0
  · have hd : decide (f < 0) = true := decide_eq_true hm
    rw [if_pos hm]
    have Q1 := Lib.hid ((h.seth 2 (ci f) pv f made synced rfl).seth 2 (ci (-1)) pv (-1) made synced rfl)
    have Q2 := Lib.hid (h.seth 2 (ci (-1)) pv (-1) made synced rfl)
    clear h
    go_enter Try.func89, Try.ntmps89
    go_wp2_with fail
    go_end0
    first
      | exact ⟨rfl, Q2.out, only_set _ _ _ _ rfl⟩
      | exact ⟨rfl, Q1.out, (only_set _ _ _ _ rfl).trans (only_set _ _ _ _ rfl)⟩
  · have hd : decide (f < 0) = false := decide_eq_false hm
    rw [if_neg hm]
    have Q1 := Lib.hid (h.seth 2 (ci f) pv f made synced rfl)
    clear h
    go_enter Try.func89, Try.ntmps89
    go_wp2_with fail
    go_end0
    exact ⟨rfl, Q1.out, only_set _ _ _ _ rfl⟩
theorem step_fuse (h : PQ w0 w g sb rv m rsb rsc pv E left d) (hj : d.R.length ≤ j) (who n torn cut : Int) (hn : n ≤ 9223372036854775807) (da ka : Option Addr) (dn dc kn kc : Nat) :
    Calls Try.prog 42 #[.pointer (some ⟨g, 0, none⟩), .pointer (some ⟨m, 0, none⟩), .agg #[ci who, ci 4, ci n, .slice da dn dc, .slice ka kn kc, ci torn, ci cut]] w fun e w' => e = .returned (.bool true) ∧ After w0 w w' (kk g sb rv m rsb pv E) g m (j + 1) := by
  have hx := Ext.of_alloc (w := w) (.cells #[ci who, ci 4, ci n, .slice da dn dc, .slice ka kn kc, ci torn, ci cut] 60)
  have HP := Lib.hid (h.ext hx)
  have HX := Lib.hid hx
  have HH := Lib.hid h
  have HN := Lib.hid hn
  have HB : Hid (∀ w1, Only (w.alloc (.cells #[ci who, ci 4, ci n, .slice da dn dc, .slice ka kn kc, ci torn, ci cut] 60)) w1 (· = m) → w1.cell? ⟨w.heap.size, 2, none⟩ = some (ci n)) := fun w1 o => by
    have hb := Blk.new w #[ci who, ci 4, ci n, .slice da dn dc, .slice ka kn kc, ci torn, ci cut] 60
    have h1 := o.blk hb (fun e => by have e : w.heap.size = m := e; have := h.r.b.lt; omega)
    exact h1.cell 2
  clear h hx hn
  go_enter Try.func42, Try.ntmps42
  go_wp2_with (first
    | (go_at_call 89; refine (rfuse_ok HP.out.r n).mono ?_
       rintro e w1 ⟨rfl, p1, p2⟩
       have R1 := Lib.hid p1
       have O1 := Lib.hid p2
       have D1 := Lib.hid (HP.out.p.after HP.out.r p2 (fun k hk => by subst hk; exact Or.inl rfl))
       have c9 := HB.out w1 p2
       clear p1 p2)
    | (go_at_call 26; refine (fuse_calls D1.out n).mono ?_
       rintro e w2 ⟨rfl, p1, p2⟩
       have D2 := Lib.hid p1
       have O2 := Lib.hid p2
       have R2 := Lib.hid (R1.out.after D1.out (p2.mono (fun k hk => by subst hk; exact Or.inl rfl)))
       clear p1 p2)
    | fail)
  go_ret
  have hO : Only w w2 (kk g sb rv m rsb pv E) := (HX.out.only.trans (O1.out.mono (fun k hk => Or.inr (by subst hk; exact Or.inl rfl)))).trans (O2.out.mono (fun k hk => Or.inl (by subst hk; exact Or.inl rfl)))
  refine ⟨rfl, sb, rv, rsb, rsc, pv, E, _, fuseD d n, ⟨HH.out.x.of_only hO HH.out.lo, D2.out, R2.out, HH.out.e, ?_, fun hf => ?_, HH.out.b⟩, Nat.le_succ_of_le hj, hO, fun k hk => Or.inl hk⟩
  · show _ = if decide (0 ≤ n) = true then n else -1
    by_cases h0 : n < 0
    · rw [if_pos h0, if_neg (by simpa using h0)]
    · rw [if_neg h0, if_pos (by simpa using h0)]
  · have hf : decide (0 ≤ n) = true := hf
    exact ⟨of_decide_eq_true hf, HN.out⟩
end
end Go.Proofs.Ytjcbmlpfpcpakaa
