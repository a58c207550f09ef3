/- Layer 8 (disk): DiskSafe's walk. -/
import Derived.Test.YtjcbmlpfpcpakaaD8o
import Derived.Test.YtjcbmlpfpcpakaaD8r
namespace Go.Proofs.Ytjcbmlpfpcpakaa
open Go.RowKit
set_option linter.unusedVariables false
def loadedD (n : Nat) (img : List (BitVec 8)) : Dk := ⟨n, img, [], false, 0, 0, 0⟩
theorem DX.load {w : World} {b o c n : Nat} {img : List (BitVec 8)} (h1 : 1 ≤ n) (h2 : n ≤ 65536) (hl : img.length = 64 * n) (hr : w.rangeAt b o (img.map cb)) (hc : 64 * n ≤ c) (w0 : World) (e : Ext w0 w) :
    Calls Try.prog 36 #[.slice (some ⟨b, o, none⟩) (64 * n) c] w fun e w' => e = .returned (.tuple #[.pointer (some ⟨w.heap.size + 1, 0, none⟩), ci 0]) ∧ DX w0 w' (w.heap.size + 1) w.heap.size (loadedD n img) ∧ Ext w w' :=
  (load_ok b o c img n h1 h2 hl hr hc).mono fun _ w' ⟨a, b, c⟩ => ⟨a, ⟨e.trans b, by have := e.size; omega, e.size, _, by
    obtain ⟨q1, q2, ⟨q3, _⟩, q5⟩ := c
    exact ⟨q1, q2, ⟨q3, Or.inl ⟨rfl, rfl⟩⟩, q5⟩⟩, b⟩
/-- a row of the call's own stays across what only the disk's blocks see -/
theorem Own.kp {w w' : World} {g sb B : Nat} {v : Value} {l : List (BitVec 8)} (h : Own w B 5 cb v l) (k : Kp g sb w w') (hg : ∃ c, Blk w g c 130) (hs : ∃ c, Blk w sb c 132) : Own w' B 5 cb v l := by
  unfold Own at h ⊢
  refine row_far h fun x hx hlt => ?_
  obtain ⟨cg, hg⟩ := hg
  obtain ⟨cs, hs⟩ := hs
  obtain ⟨h1, ⟨rfl, _⟩ | ⟨x', cap, cur, rfl, h3, h4, h5⟩⟩ := h
  · cases hx
  · have e : x' = x := Option.some.inj hx
    subst e
    have hb : Blk w x' cur 5 := h4
    have h' := k.2 x' cur 5 hb (fun e => by subst e; exact absurd (Blk.type hb hg) (by decide)) (fun e => by subst e; exact absurd (Blk.type hb hs) (by decide)) (by decide)
    exact h'.trans h4.symm
theorem DX.gb {w0 w : World} {g sb : Nat} {d : Dk} (h : DX w0 w g sb d) : (∃ c, Blk w g c 130) ∧ ∃ c, Blk w sb c 132 := by
  obtain ⟨rv, k⟩ := h.d
  exact ⟨⟨_, k.b⟩, ⟨_, k.s⟩⟩
/-- what a script keeps true of its disk -/
structure SafeI (n k : Nat) (d : Dk) : Prop where
  n : d.n = n
  r : d.R.length ≤ k
  c0 : 0 ≤ d.c0
  c1 : 0 ≤ d.c1
  s : d.c0 + d.c1 ≤ k
def opL (p : Dop) : List Value := [ci p.who, ci p.kind, ci p.n, p.dv, p.kv, ci p.torn, ci p.cut]
theorem Try.info60 : (Try.prog.info? 60).map (fun i => (i.zero, i.size, i.bytes)) = some (some (.agg #[ci 0, ci 0, ci 0, .slice none 0 0, .slice none 0 0, ci 0, ci 0]), 7, 88) := by kernel_rfl
theorem Try.u60 : ∃ d, Try.prog.underlying 60 = some d ∧ d.isRow = true := by
  have h : (Try.prog.underlying 60).map TypeDesc.isRow = some true := by kernel_rfl
  cases hu : Try.prog.underlying 60 with
  | none => rw [hu] at h; cases h
  | some d => rw [hu] at h; exact ⟨d, rfl, by simpa using h⟩
theorem A60 : AggT 60 7 #[ci 0, ci 0, ci 0, .slice none 0 0, .slice none 0 0, ci 0, ci 0] := by
  refine ⟨Try.u60, by kernel_rfl, fun w => ?_, rfl⟩
  obtain ⟨i, j1, j2, j3, j4⟩ := info_parts Try.info60
  simp [zeroValue, typeInfo, j1, j2]
theorem OpAt.range {w : World} {b o : Nat} {p : Dop} (h : OpAt w b o p) : w.rangeAt b o (opL p) := fun j v hv => by
  unfold opL at hv
  match j with
  | 0 => exact h.c0.trans hv
  | 1 => exact h.c1.trans hv
  | 2 => exact h.c2.trans hv
  | 3 => exact h.c3.trans hv
  | 4 => exact h.c4.trans hv
  | 5 => exact h.c5.trans hv
  | 6 => exact h.c6.trans hv
  | n + 7 => simp at hv
theorem opL_one {w : World} {p : Dop} (h : p.ok w) : ∀ v ∈ opL p, v.oneCell' = true := fun v hv => by
  obtain ⟨a, c, hd⟩ := h.data.form
  obtain ⟨a', c', hk⟩ := h.keep.form
  unfold opL at hv
  simp only [List.mem_cons, List.not_mem_nil, or_false] at hv
  rcases hv with rfl | rfl | rfl | rfl | rfl | rfl | rfl
  · rfl
  · rfl
  · rfl
  · rw [hd]; rfl
  · rw [hk]; rfl
  · rfl
  · rfl
theorem safe_facts (dk : Dk) : (syncD (fuseD dk (-1))).R = [] ∧ (syncD (fuseD dk (-1))).n = dk.n ∧ powP (syncD (fuseD dk (-1))) = 0 ∧ powP (fuseD dk (-1)) = 0 := ⟨rfl, rfl, by simp [powP, syncD, fuseD], by simp [powP, fuseD]⟩
theorem read_nil_row {d : Dk} (h : d.R = []) (j : Nat) : d.read j = sec d.S j := by unfold Dk.read; rw [h]; rfl
theorem crash_nil_row {d : Dk} (h : d.R = []) (keep : List Bool) (torn cut : Int) : (crashD d keep torn cut).S = d.S := by unfold crashD; rw [h]; rfl
theorem Own.sub {w : World} {B gv cv n j : Nat} {S : List (BitVec 8)} (h : Own w B 5 cb (.slice (some ⟨gv, 0, none⟩) (64 * n) cv) S) (hS : S.length = 64 * n) (hj : j < n) (c : Nat) : Rd w cb (.slice (some ⟨gv, 64 * j, none⟩) 64 c) (sec S j) := by
  rcases h.rd with ⟨_, _, _, h0, _⟩ | ⟨b, o, c', m, e, hm, h0, hc⟩
  · subst h0
    simp at hS
    omega
  · injection e with e1 e2 e3
    injection e1 with e1
    injection e1 with e1 e4 _
    subst e1 e4
    refine Or.inr ⟨gv, 64 * j, c, 64, rfl, (sec_len hS hj).symm, by decide, fun i hi => ?_⟩
    have hi' : i < 64 := by rw [sec_len hS hj] at hi; exact hi
    have h1 := hc (64 * j + i) (by omega)
    rw [Nat.zero_add] at h1
    rw [h1]
    have h2 := sec_get hS hj hi'
    rw [List.getElem?_eq_getElem hi, List.getElem?_eq_getElem (by omega)] at h2
    rw [Option.some.inj h2]
theorem keep_apart {w0 w : World} {g sb : Nat} {d : Dk} {kv : Value} {keep : List Bool} (h : DX w0 w g sb d) (hk : Rd w0 Value.bool kv keep) : keep = [] ∨ kv.ownBlock ≠ some sb := by
  rcases hk with ⟨_, _, _, h0, _⟩ | ⟨b, o, c, m, rfl, hm, h0, hc⟩
  · exact Or.inl h0
  · refine Or.inr fun e => ?_
    have e' : b = sb := Option.some.inj e
    have := World.block_lt_of_cell? w0 _ (hc 0 (by omega))
    have h1 := h.s0
    simp only at this
    omega
/-- behind one step of a script: the disk, and whether it was refused -/
structure SafeC (w0 w w' : World) (g sb n k : Nat) (kind : Int) (dk d : Dk) (r : Bool) : Prop where
  x : DX w0 w' g sb d
  kp : Kp g sb w w'
  i : SafeI n (k + 1) d
  same : r = true → d = dk
  moved : r = false → d.c0 + d.c1 = dk.c0 + dk.c1 ∨ kind = 0 ∨ kind = 2
theorem SafeI.up {n k : Nat} {d : Dk} (h : SafeI n k d) : SafeI n (k + 1) d := ⟨h.n, by have := h.r; omega, h.c0, h.c1, by have := h.s; omega⟩
theorem SafeI.write {n k : Nat} {d : Dk} (h : SafeI n k d) (hk : k ≤ 140737488351232) (a : Nat) (l : List (BitVec 8)) : SafeI n (k + 1) (writeD d a l) := by
  have h1 := h.r
  have h2 := h.c0
  have h3 := h.c1
  have h4 := h.s
  have e : wrap64 (d.c0 + 1) = d.c0 + 1 := by unfold wrap64; omega
  refine ⟨h.n, ?_, ?_, h3, ?_⟩
  · show (d.R ++ [(a, l)]).length ≤ _
    rw [List.length_append, List.length_singleton]
    omega
  · show 0 ≤ wrap64 (d.c0 + 1)
    omega
  · show wrap64 (d.c0 + 1) + d.c1 ≤ _
    omega
theorem SafeI.sync {n k : Nat} {d : Dk} (h : SafeI n k d) (hk : k ≤ 140737488351232) : SafeI n (k + 1) (syncD d) := by
  have h2 := h.c0
  have h3 := h.c1
  have h4 := h.s
  have e : wrap64 (d.c1 + 1) = d.c1 + 1 := by unfold wrap64; omega
  refine ⟨h.n, Nat.zero_le _, h2, ?_, ?_⟩
  · show 0 ≤ wrap64 (d.c1 + 1)
    omega
  · show d.c0 + wrap64 (d.c1 + 1) ≤ _
    omega
theorem SafeI.fuse {n k : Nat} {d : Dk} (h : SafeI n k d) (m : Int) : SafeI n (k + 1) (fuseD d m) := ⟨h.n, by have := h.r; show d.R.length ≤ _; omega, h.c0, h.c1, by have := h.s; show d.c0 + d.c1 ≤ _; omega⟩
set_option maxRecDepth 100000 in
set_option maxHeartbeats 4000000 in
theorem diskSafe_calls {w : World} (ia : Option Addr) (ic : Nat) (sv kv : Value) (img : List (BitVec 8)) (l : List Dop) (keep : List Bool) (torn cut : Int)
    (hi : Rd w cb (.slice ia img.length ic) img) (hic : img.length ≤ ic) (him : ic ≤ maxLen) (hs : RdO w sv l) (hok : ∀ o ∈ l, o.ok w) (hk : Rd w Value.bool kv keep) (hl : l.length * 88 ≤ 140737488351232) (hkl : keep.length ≤ 9223372036854775807) :
    Calls Try.prog 8 #[.slice ia img.length ic, sv, kv, ci torn, ci cut] w fun e w' => e = .returned (.bool true) ∧ Ext w w' := by
  by_cases hbad : img.length / 64 < 1 ∨ 65536 < img.length / 64 ∨ img.length ≠ img.length / 64 * 64
  · have hm := Lib.hid (Nat.le_trans hic him)
    have HB := Lib.hid hbad
    clear hbad hi hs hok hk hl hkl him hic
    go_enter Try.func8, Try.ntmps8
    go_wp2_with (first
      | (go_at_call 23; refine (known_calls w).mono ?_
         rintro e w1 ⟨rfl, x⟩
         have X1 := Lib.hid x
         clear x)
      | (go_at_call 36; refine (load_refused _ _ _ _ hm.out HB.out).mono ?_; rintro e w98 ⟨rfl, rfl⟩)
      | (go_at_call 25; refine (num_calls _ _).mono ?_; rintro e w99 ⟨rfl, rfl⟩)
      | fail)
    go_ret
    exact ⟨rfl, X1.out⟩
  · obtain ⟨n, hn⟩ : ∃ n, img.length / 64 = n := ⟨_, rfl⟩
    have h1 : 1 ≤ n := by omega
    have h2 : n ≤ 65536 := by omega
    have h3 : img.length = 64 * n := by omega
    obtain ⟨b, o, c, hbo, hr⟩ := hi.range (by omega)
    injection hbo with hb1 hb2 hb3
    subst hb1 hb3
    obtain ⟨sa, sc, rfl, hsv⟩ := hs.form
    rw [h3] at hic ⊢
    have H1 := Lib.hid h1
    have H2 := Lib.hid h2
    have H3 := Lib.hid h3
    have HR := Lib.hid hr
    have HC := Lib.hid hic
    have HSV := Lib.hid hsv
    have HOK := Lib.hid hok
    have HK := Lib.hid hk
    have HL := Lib.hid hl
    have HKL := Lib.hid hkl
    have hll : (l.length : Int) ≤ 9223372036854775807 := by omega
    clear hbad hi hs hok hk hl hkl him hic hn h1 h2 h3 hr hsv hb2
    go_enter Try.func8, Try.ntmps8
    go_upto_region 6 with (first
      | (go_at_call 23; refine (known_calls w).mono ?_
         rintro e w1 ⟨rfl, x⟩
         have X1 := Lib.hid x
         clear x)
      | (go_at_call 36; refine (DX.load H1.out H2.out H3.out (range_ext HR.out X1.out) HC.out w X1.out).mono ?_
         rintro e w2 ⟨rfl, h, _⟩
         have P1 := Lib.hid h
         clear h)
      | (go_at_call 25; refine (num_calls _ _).mono ?_; rintro e w99 ⟨rfl, rfl⟩)
      | fail)
    generalize w1.heap.size + 1 = g at *
    generalize w1.heap.size = sb at *
    go_wp2_with fail
    go_loopw [13] (fun iv wx => ∃ (k : Nat) (dk : Dk), k ≤ l.length ∧ iv = ci k ∧ Hid (DX w wx g sb dk ∧ SafeI n k dk)) (fun iv _ => ((l.length : Int) - intOf iv).toNat)
    case atStart => exact ⟨0, _, Nat.zero_le _, rfl, P1.out, ⟨rfl, Nat.le_refl _, Int.le_refl _, Int.le_refl _, Int.le_refl _⟩⟩
    case round =>
      clear P1
      obtain ⟨k, dk, hk, rfl, hU⟩ := hrel
      by_cases hlt : k < l.length
      · have hlt' : (k : Int) < l.length := by omega
        obtain ⟨b1, o1, rfl, hop⟩ := HSV.out k hlt
        have HP := Lib.hid (HOK.out l[k] (List.getElem_mem hlt))
        generalize l[k] = p at *
        have hop' := Lib.hid (hop.ext hU.out.1.e).range
        clear hop
        go_upto_region 13 with (first
          | (guard_target =~ wpList _ _ _ (Oper.mk _ (.load 60 _) _ _ _ _ :: _) _ _; refine wpList_load_row A60 rfl _ rfl b1 (o1 + k * 7) rfl (opL p) rfl hop'.out ?_)
          | (guard_target =~ wpList _ _ _ (Oper.mk _ (.alloc 60) _ _ _ _ :: _) _ _; refine wpList_make_row A60 rfl rfl rfl _ _ rfl rfl (opL p) rfl (opL_one HP.out) rfl ?_
             intro w3 E3 B3
             have HB3 := Lib.hid B3
             have P3 := Lib.hid (hU.out.1.ext E3)
             have HX3 := Lib.hid (hU.out.1.e.trans E3)
             clear E3 B3)
          | (go_at_call 31; refine (P3.out.image).mono ?_
             rintro e w4 ⟨v4, rfl, h, x, ow⟩
             have P4 := Lib.hid h
             have O4 := Lib.hid ow
             have HB4 := Lib.hid (HB3.out.ext x)
             clear h x ow P3 HB3)
          | (go_at_call 30; refine (P4.out.pending).mono ?_; rintro e w98 ⟨rfl, rfl⟩)
          | (go_at_call 44; refine (P4.out.counts).mono ?_
             rintro e w5 ⟨rfl, n5, rfl⟩
             have P5 := Lib.hid (P4.out.drewN n5)
             have O5 := Lib.hid (O4.out.drewN (n := n5))
             have HB5 := Lib.hid (HB4.out.ext ((Ext.refl w4).drewN n5))
             clear P4 O4 HB4)
          | fail)
        generalize w4.drewN n5 = w6 at *
        have y1 : w6.cell? ⟨wr.heap.size, 1, none⟩ = some (ci p.kind) := HB5.out.cell 1
        have y2 : w6.cell? ⟨wr.heap.size, 2, none⟩ = some (ci p.n) := HB5.out.cell 2
        have y3 : w6.cell? ⟨wr.heap.size, 3, none⟩ = some p.dv := HB5.out.cell 3
        have HSI := Lib.hid hU.out.2
        have hkB : Hid (k ≤ 140737488351232) := by have := HL.out; show _ ≤ _; omega
        have hmB : Hid ((dk.R.length + 1) * 72 ≤ 140737488355328) := by have := HL.out; have := HSI.out.r; show _ ≤ _; omega
        have hnn : Hid ((dk.n : Int) = n) := by show _ = _; rw [HSI.out.n]
        obtain ⟨kd, hkd⟩ : ∃ kd, p.kind = kd := ⟨_, rfl⟩
        obtain ⟨m, hmm⟩ : ∃ m, p.n = m := ⟨_, rfl⟩
        obtain ⟨da, dcp, hdv⟩ := HP.out.data.form
        have HD := Lib.hid (P5.out.e.rd HP.out.data)
        have HDL := Lib.hid HP.out.dlen
        rw [hkd] at y1
        rw [hmm] at y2
        rw [hdv] at y3 HD
        generalize p.data = dat at *
        have hdl := HDL.out
        clear hU hop' hkd hmm hdv hdl
        iterate 19 (first | go_values | go_skip | go_guarded | go_step)
        go_cut [19] (fun rv wx => ∃ (r : Bool) (d : Dk), rv = .bool r ∧ Hid (SafeC w w6 wx g sb n k kd dk d r))
        case first =>
          have SAME : ∀ r, (r = false → kd ≠ 0 ∧ kd ≠ 2 ∨ kd = 0 ∨ kd = 2) → SafeC w w6 w6 g sb n k kd dk dk r := fun r hr => ⟨P5.out, Kp.refl _ _ _, HSI.out.up, fun _ => rfl, fun h => Or.inl rfl⟩
          have HSAME := Lib.hid SAME
          clear SAME
          by_cases k0 : kd = 0
          · subst k0
            rcases powP_cases dk with hp | hp
            · have HPW := Lib.hid hp
              clear hp
              by_cases hb : m < 0 ∨ (dk.n : Int) ≤ m
              · have HBB := Lib.hid hb
                clear hb
                go_wp2_with (first
                  | (go_at_call 27; refine (P5.out.write_sector _ _ HPW.out HBB.out).mono ?_; rintro e w98 ⟨rfl, rfl⟩)
                  | (go_at_call 25; refine (num_calls _ _).mono ?_; rintro e w99 ⟨rfl, rfl⟩)
                  | fail)
                go_meet
                exact ⟨true, dk, rfl, HSAME.out true (fun h => by cases h)⟩
              · obtain ⟨at', hat⟩ : ∃ at' : Nat, m = at' := ⟨m.toNat, by omega⟩
                subst hat
                have hat2 := Lib.hid (show at' < dk.n by omega)
                clear hb
                by_cases hl64 : dat.length = 64
                · have H64 := Lib.hid hl64
                  clear hl64
                  go_wp2_with (first
                    | (go_at_call 27; refine (P5.out.write at' _ dat HPW.out hat2.out H64.out HD.out hmB.out).mono ?_
                       rintro e w7 ⟨rfl, h, kp⟩
                       have P7 := Lib.hid h
                       have K7 := Lib.hid kp
                       clear h kp)
                    | (go_at_call 25; refine (num_calls _ _).mono ?_; rintro e w99 ⟨rfl, rfl⟩)
                    | fail)
                  go_meet
                  exact ⟨false, _, rfl, Lib.hid ⟨P7.out, K7.out, HSI.out.write hkB.out at' dat, (fun h => by cases h), fun _ => Or.inr (Or.inl rfl)⟩⟩
                · have H64 := Lib.hid hl64
                  clear hl64
                  go_wp2_with (first
                    | (go_at_call 27; refine (P5.out.write_size at' _ _ _ HPW.out hat2.out H64.out (by have := HDL.out; unfold maxLen; omega)).mono ?_; rintro e w98 ⟨rfl, rfl⟩)
                    | (go_at_call 25; refine (num_calls _ _).mono ?_; rintro e w99 ⟨rfl, rfl⟩)
                    | fail)
                  go_meet
                  exact ⟨true, dk, rfl, HSAME.out true (fun h => by cases h)⟩
            · have HPW := Lib.hid hp
              clear hp
              go_wp2_with (first
                | (go_at_call 27; refine (P5.out.write_power _ _ HPW.out).mono ?_; rintro e w98 ⟨rfl, rfl⟩)
                | (go_at_call 25; refine (num_calls _ _).mono ?_; rintro e w99 ⟨rfl, rfl⟩)
                | fail)
              go_meet
              exact ⟨true, dk, rfl, HSAME.out true (fun h => by cases h)⟩
          · have b0 : (kd == 0) = false := by simpa using k0
            have d0 : decide (kd = 0) = false := decide_eq_false k0
            by_cases k2 : kd = 2
            · subst k2
              rcases powP_cases dk with hp | hp
              · have HPW := Lib.hid hp
                clear hp
                go_wp2_with (first
                  | (go_at_call 29; refine (P5.out.sync HPW.out).mono ?_
                     rintro e w7 ⟨rfl, h, kp⟩
                     have P7 := Lib.hid h
                     have K7 := Lib.hid kp
                     clear h kp)
                  | (go_at_call 25; refine (num_calls _ _).mono ?_; rintro e w99 ⟨rfl, rfl⟩)
                  | fail)
                go_meet
                exact ⟨false, _, rfl, Lib.hid ⟨P7.out, K7.out, HSI.out.sync hkB.out, (fun h => by cases h), fun _ => Or.inr (Or.inr rfl)⟩⟩
              · have HPW := Lib.hid hp
                clear hp
                go_wp2_with (first
                  | (go_at_call 29; refine (P5.out.sync_power HPW.out).mono ?_; rintro e w98 ⟨rfl, rfl⟩)
                  | (go_at_call 25; refine (num_calls _ _).mono ?_; rintro e w99 ⟨rfl, rfl⟩)
                  | fail)
                go_meet
                exact ⟨true, dk, rfl, HSAME.out true (fun h => by cases h)⟩
            · have b2 : (kd == 2) = false := by simpa using k2
              have d2 : decide (kd = 2) = false := decide_eq_false k2
              by_cases k4 : kd = 4
              · subst k4
                go_wp2_with (first
                  | (go_at_call 26; refine (P5.out.fuse m).mono ?_
                     rintro e w7 ⟨rfl, h, kp⟩
                     have P7 := Lib.hid h
                     have K7 := Lib.hid kp
                     clear h kp)
                  | fail)
                go_meet
                exact ⟨false, _, rfl, Lib.hid ⟨P7.out, K7.out, HSI.out.fuse m, (fun h => by cases h), fun _ => Or.inl rfl⟩⟩
              · have b4 : (kd == 4) = false := by simpa using k4
                have d4 : decide (kd = 4) = false := decide_eq_false k4
                by_cases k1 : kd = 1
                · subst k1
                  rcases powP_cases dk with hp | hp
                  · have HPW := Lib.hid hp
                    clear hp
                    by_cases hb : m < 0 ∨ (dk.n : Int) ≤ m
                    · have HBB := Lib.hid hb
                      clear hb
                      go_wp2_with (first
                        | (go_at_call 33; refine (P5.out.read_sector _ HPW.out HBB.out).mono ?_; rintro e w98 ⟨rfl, rfl⟩)
                        | fail)
                      go_meet
                      exact ⟨true, dk, rfl, HSAME.out true (fun h => by cases h)⟩
                    · obtain ⟨at', hat⟩ : ∃ at' : Nat, m = at' := ⟨m.toNat, by omega⟩
                      subst hat
                      have hat2 := Lib.hid (show at' < dk.n by omega)
                      clear hb
                      go_wp2_with (first
                        | (go_at_call 33; refine (P5.out.read at' HPW.out hat2.out).mono ?_
                           rintro e w7 ⟨rfl, h, kp, _⟩
                           have P7 := Lib.hid h
                           have K7 := Lib.hid kp
                           clear h kp)
                        | fail)
                      go_meet
                      exact ⟨true, dk, rfl, Lib.hid ⟨P7.out, Kp.ext K7.out, HSI.out.up, (fun _ => rfl), fun _ => Or.inl rfl⟩⟩
                  · have HPW := Lib.hid hp
                    clear hp
                    go_wp2_with (first
                      | (go_at_call 33; refine (P5.out.read_power _ HPW.out).mono ?_; rintro e w98 ⟨rfl, rfl⟩)
                      | fail)
                    go_meet
                    exact ⟨true, dk, rfl, HSAME.out true (fun h => by cases h)⟩
                · have b1 : (kd == 1) = false := by simpa using k1
                  have d1 : decide (kd = 1) = false := decide_eq_false k1
                  go_wp2_with fail
                  go_meet
                  exact ⟨false, dk, rfl, HSAME.out false (fun _ => Or.inl ⟨k0, k2⟩)⟩
        case rest =>
          obtain ⟨r, d, rfl, hC⟩ := hcut
          have hg := P5.out.gb
          have OC := Lib.hid (O5.out.kp hC.out.kp hg.1 hg.2)
          have BC := Lib.hid (hC.out.kp.2 _ _ _ HB5.out (fun e => by obtain ⟨c, h⟩ := hg.1; rw [← e] at h; exact absurd (Blk.type HB5.out h) (by decide)) (fun e => by obtain ⟨c, h⟩ := hg.2; rw [← e] at h; exact absurd (Blk.type HB5.out h) (by decide)) (by decide))
          have Y1 : Hid (wc.cell? ⟨wr.heap.size, 1, none⟩ = some (ci kd)) := (BC.out.cell 1).trans ((HB5.out.cell 1).symm.trans y1)
          have hSL : Hid (dk.S.length ≤ 9223372036854775807) := by
            have h1 := P5.out.ok.s
            have h2 := P5.out.ok.n2
            show _ ≤ _
            omega
          clear y1 y2 y3 hg HB5 O5 P5
          cases r with
          | true =>
            have hsm := hC.out.same rfl
            subst hsm
            go_wp2_with (first
              | (go_at_call 44; refine (hC.out.x.counts).mono ?_
                 rintro e w8 ⟨rfl, n8, rfl⟩
                 have P8 := Lib.hid (hC.out.x.drewN n8)
                 have O8 := Lib.hid (OC.out.drewN (n := n8))
                 clear OC BC Y1)
              | (go_at_call 31; refine (P8.out.image).mono ?_
                 rintro e w9 ⟨v9, rfl, h, x, ow⟩
                 have P9 := Lib.hid h
                 have O9 := Lib.hid ow
                 have OB := Lib.hid (x.own O8.out)
                 clear h x ow P8 O8)
              | (go_at_call 34; refine (same_calls _ _ d.S d.S _ O9.out.rd OB.out.rd hSL.out hSL.out).mono ?_
                 rw [decide_eq_true rfl]
                 rintro e w10 ⟨rfl, n10, rfl⟩
                 have P10 := Lib.hid (P9.out.drewN n10)
                 clear P9 O9 OB)
              | (go_at_call 30; refine (P10.out.pending).mono ?_; rintro e w98 ⟨rfl, rfl⟩)
              | fail)
            go_roundw
            case measure => simp only [intOf]; omega
            exact ⟨k + 1, d, hlt, by simp, P10.out, hC.out.i⟩
          | false =>
            have hmv := hC.out.moved rfl
            have i1 := hC.out.i
            have i2 := HSI.out
            have hkb := hkB.out
            have a1 := i1.c0
            have a2 := i1.c1
            have a3 := i1.s
            have a4 := i2.c0
            have a5 := i2.c1
            have a6 := i2.s
            have hw1 : IntKind.i64.wrap (d.c0 + d.c1) = d.c0 + d.c1 := by rw [IntKind.wrap_i64]; omega
            have hw2 : IntKind.i64.wrap (dk.c0 + dk.c1) = dk.c0 + dk.c1 := by rw [IntKind.wrap_i64]; omega
            have hx1 : wrap64 (d.c0 + d.c1) = d.c0 + d.c1 := by unfold wrap64; omega
            have hx2 : wrap64 (dk.c0 + dk.c1) = dk.c0 + dk.c1 := by unfold wrap64; omega
            clear i1 i2 hkb a1 a2 a3 a4 a5 a6
            by_cases hsum : d.c0 + d.c1 = dk.c0 + dk.c1
            · have hsb : ((d.c0 + d.c1) != (dk.c0 + dk.c1)) = false := by simp [hsum]
              clear hmv
              have P8' := Lib.hid (fun n8 => hC.out.x.drewN n8)
              have Y8 := Lib.hid (fun n8 => ((Ext.refl wc).drewN n8).cell Y1.out)
              go_wp2_with (first
                | (go_at_call 44; refine (hC.out.x.counts).mono ?_
                   rintro e w8 ⟨rfl, n8, rfl⟩
                   have P8 := Lib.hid (P8'.out n8)
                   have Y9 := Y8.out n8
                   clear OC BC P8' Y8)
                | fail)
              go_roundw
              case measure => simp only [intOf]; omega
              exact ⟨k + 1, d, hlt, by simp, P8.out, hC.out.i⟩
            · have hsb : ((d.c0 + d.c1) != (dk.c0 + dk.c1)) = true := by simpa using hsum
              have hkk : kd = 0 ∨ kd = 2 := by rcases hmv with h | h; exact absurd h hsum; exact h
              clear hmv
              rcases hkk with rfl | rfl
              · have P8' := Lib.hid (fun n8 => hC.out.x.drewN n8)
                have Y8 := Lib.hid (fun n8 => ((Ext.refl wc).drewN n8).cell Y1.out)
                go_wp2_with (first
                  | (go_at_call 44; refine (hC.out.x.counts).mono ?_
                     rintro e w8 ⟨rfl, n8, rfl⟩
                     have P8 := Lib.hid (P8'.out n8)
                     have Y9 := Y8.out n8
                     clear OC BC P8' Y8)
                  | fail)
                go_roundw
                case measure => simp only [intOf]; omega
                exact ⟨k + 1, d, hlt, by simp, P8.out, hC.out.i⟩
              · have P8' := Lib.hid (fun n8 => hC.out.x.drewN n8)
                have Y8 := Lib.hid (fun n8 => ((Ext.refl wc).drewN n8).cell Y1.out)
                go_wp2_with (first
                  | (go_at_call 44; refine (hC.out.x.counts).mono ?_
                     rintro e w8 ⟨rfl, n8, rfl⟩
                     have P8 := Lib.hid (P8'.out n8)
                     have Y9 := Y8.out n8
                     clear OC BC P8' Y8)
                  | fail)
                go_roundw
                case measure => simp only [intOf]; omega
                exact ⟨k + 1, d, hlt, by simp, P8.out, hC.out.i⟩
      · obtain ⟨D, hD⟩ : ∃ D, syncD (fuseD dk (-1)) = D := ⟨_, rfl⟩
        obtain ⟨f1, f2, f3, f4⟩ := safe_facts dk
        rw [hD] at f1 f2 f3
        have HDD := Lib.hid hD
        have HDR := Lib.hid f1
        have HDN := Lib.hid (f2.trans hU.out.2.n)
        have HDP := Lib.hid f3
        have HFP := Lib.hid f4
        clear f1 f2 f3 f4 hD
        go_upto_region 36 with (first
          | (go_at_call 26; refine (hU.out.1.fuse (-1)).mono ?_
             rintro e w3 ⟨rfl, h, _⟩
             have P3 := Lib.hid h
             clear h)
          | (go_at_call 29; refine (P3.out.sync HFP.out).mono ?_
             rintro e w4 ⟨rfl, h, _⟩
             rw [HDD.out] at h
             have P4 := Lib.hid h
             clear h P3)
          | (go_at_call 25; refine (num_calls _ _).mono ?_; rintro e w99 ⟨rfl, rfl⟩)
          | (go_at_call 30; refine (P4.out.pending).mono ?_; rw [HDR.out]; rintro e w98 ⟨rfl, rfl⟩)
          | (go_at_call 31; refine (P4.out.image).mono ?_
             rintro e w5 ⟨v5, rfl, h, x, ow⟩
             have P5 := Lib.hid h
             have O5 := Lib.hid ow
             clear h x ow P4)
          | fail)
        have hSL : D.S.length = 64 * n := by rw [P5.out.ok.s, HDN.out]
        have HSL := Lib.hid hSL
        obtain ⟨gv, cv, rfl, _, _, hcv, hcm⟩ := O5.out.has (by have := H1.out; omega)
        rw [hSL] at O5 hcv ⊢
        have h2n := H2.out
        clear hSL
        generalize w4.heap.size = B4 at *
        go_wp2_with fail
        go_loopw [25] (fun jv wx => ∃ j : Nat, j ≤ n ∧ jv = ci j ∧ Hid (DX w wx g sb D ∧ Own wx B4 5 cb (.slice (some ⟨gv, 0, none⟩) (64 * n) cv) D.S)) (fun jv _ => ((n : Int) - intOf jv).toNat)
        case atStart => exact ⟨0, Nat.zero_le _, rfl, P5.out, O5.out⟩
        case round =>
          obtain ⟨j, hj, rfl, hV⟩ := hrel
          clear hU P5 O5 HDD HFP
          by_cases hjl : j < n
          · have hj' : (j : Int) < n := by omega
            have hlen := Lib.hid (sec_len HSL.out hjl)
            have g1 : ((64 : Int) * j).toNat = 64 * j := by omega
            have g2 : ((64 : Int) * j + 64).toNat = 64 * j + 64 := by omega
            have g3 : 64 * j + 64 ≤ cv := by omega
            have g4 : ¬ cv = 64 * j := by omega
            go_wp2_with (first
              | (go_at_call 38; refine (hV.out.1.sectors).mono ?_; rw [HDN.out]; rintro e w98 ⟨rfl, rfl⟩)
              | (go_at_call 33; refine (hV.out.1.read j HDP.out (by rw [HDN.out]; exact hjl)).mono ?_
                 rw [read_nil_row HDR.out]
                 rintro e w7 ⟨rfl, h, x, bk⟩
                 have P7 := Lib.hid h
                 have B7 := Lib.hid bk
                 have O7 := Lib.hid (x.own hV.out.2)
                 clear h x bk)
              | (go_at_call 25; refine (num_calls _ _).mono ?_; rintro e w99 ⟨rfl, rfl⟩)
              | (go_at_call 34; refine (same_calls _ _ (sec D.S j) (sec D.S j) _ (B7.out.rdv hlen.out.symm) (O7.out.sub HSL.out hjl _) (by rw [hlen.out]; decide) (by rw [hlen.out]; decide)).mono ?_
                 rw [decide_eq_true rfl]
                 rintro e w8 ⟨rfl, n8, rfl⟩
                 have P8 := Lib.hid (P7.out.drewN n8)
                 have O8 := Lib.hid (O7.out.drewN (n := n8))
                 clear P7 O7 B7)
              | fail)
            go_roundw
            case measure => simp only [intOf]; omega
            exact ⟨j + 1, hjl, by simp, P8.out, O8.out⟩
          · have hje : j = n := by omega
            subst hje
            have hl2 : Hid (D.S.length ≤ 9223372036854775807) := by have := HSL.out; show _ ≤ _; omega
            go_wp2_with (first
              | (go_at_call 38; refine (hV.out.1.sectors).mono ?_; rw [HDN.out]; rintro e w98 ⟨rfl, rfl⟩)
              | (go_at_call 32; refine (hV.out.1.crash kv keep torn cut (hV.out.1.e.rd HK.out) HKL.out (keep_apart hV.out.1 HK.out)).mono ?_
                 rintro e w8 ⟨rfl, h, kp⟩
                 have P8 := Lib.hid h
                 have O8 := Lib.hid (hV.out.2.kp kp hV.out.1.gb.1 hV.out.1.gb.2)
                 clear h kp hV)
              | (go_at_call 31; refine (P8.out.image).mono ?_
                 rw [crash_nil_row HDR.out]
                 rintro e w9 ⟨v9, rfl, h, x, ow⟩
                 have P9 := Lib.hid h
                 have O9 := Lib.hid ow
                 have OB := Lib.hid (x.own O8.out)
                 clear h x ow P8 O8)
              | (go_at_call 34; refine (same_calls _ _ D.S D.S _ O9.out.rd OB.out.rd hl2.out hl2.out).mono ?_
                 rw [decide_eq_true rfl]
                 rintro e w10 ⟨rfl, n10, rfl⟩
                 have X10 := Lib.hid (P9.out.e.drewN n10)
                 clear P9 O9 OB)
              | fail)
            go_ret
            exact ⟨rfl, X10.out⟩
theorem diskSafe_walk' {w : World} (ia : Option Addr) (il ic : Nat) (sv kv : Value) (img : List (BitVec 8)) (l : List Dop) (keep : List Bool) (torn cut : Int)
    (hi : Rd w cb (.slice ia il ic) img) (hil : img.length = il) (hic : il ≤ ic) (him : ic ≤ maxLen) (hs : RdO w sv l) (hok : ∀ o ∈ l, o.ok w) (hk : Rd w Value.bool kv keep) (hl : l.length * 88 ≤ 140737488351232) (hkl : keep.length ≤ maxLen) :
    Calls Try.prog 8 #[.slice ia il ic, sv, kv, ci torn, ci cut] w fun e w' => e = .returned (.bool true) ∧ Below w.heap.size w w' := by
  subst hil
  exact (diskSafe_calls ia ic sv kv img l keep torn cut hi hic him hs hok hk hl (by unfold maxLen at hkl; omega)).mono fun e w' ⟨a, b⟩ => ⟨a, b.to⟩
end Go.Proofs.Ytjcbmlpfpcpakaa
