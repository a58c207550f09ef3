/- Layer 8 (disk): scripts of steps with disks, as they lie in memory. -/
import Derived.Test.YtjcbmlpfpcpakaaD8a
namespace Go.Proofs.Ytjcbmlpfpcpakaa
open Go.RowKit
set_option linter.unusedVariables false
structure Dop where
  who : Int
  kind : Int
  n : Int
  dv : Value
  data : List (BitVec 8)
  kv : Value
  keep : List Bool
  torn : Int
  cut : Int
structure Dop.ok (w : World) (o : Dop) : Prop where
  kind : -9223372036854775808 ≤ o.kind ∧ o.kind ≤ 9223372036854775807
  n : -9223372036854775808 ≤ o.n ∧ o.n ≤ 9223372036854775807
  who : -9223372036854775808 ≤ o.who ∧ o.who ≤ 9223372036854775807
  torn : -9223372036854775808 ≤ o.torn ∧ o.torn ≤ 9223372036854775807
  cut : -9223372036854775808 ≤ o.cut ∧ o.cut ≤ 9223372036854775807
  data : Rd w cb o.dv o.data
  dlen : o.data.length ≤ 140737488351232
  keep : Rd w Value.bool o.kv o.keep
  klen : o.keep.length ≤ 9223372036854775807
theorem Dop.ok.ext {w w' : World} {o : Dop} (h : o.ok w) (e : Ext w w') : o.ok w' := ⟨h.kind, h.n, h.who, h.torn, h.cut, e.rd h.data, h.dlen, e.rd h.keep, h.klen⟩
/-- a step's seven cells -/
structure OpAt (w : World) (b o : Nat) (p : Dop) : Prop where
  c0 : w.cell? ⟨b, o, none⟩ = some (ci p.who)
  c1 : w.cell? ⟨b, o + 1, none⟩ = some (ci p.kind)
  c2 : w.cell? ⟨b, o + 2, none⟩ = some (ci p.n)
  c3 : w.cell? ⟨b, o + 3, none⟩ = some p.dv
  c4 : w.cell? ⟨b, o + 4, none⟩ = some p.kv
  c5 : w.cell? ⟨b, o + 5, none⟩ = some (ci p.torn)
  c6 : w.cell? ⟨b, o + 6, none⟩ = some (ci p.cut)
theorem OpAt.ext {w w' : World} {b o : Nat} {p : Dop} (h : OpAt w b o p) (e : Ext w w') : OpAt w' b o p := ⟨e.cell h.c0, e.cell h.c1, e.cell h.c2, e.cell h.c3, e.cell h.c4, e.cell h.c5, e.cell h.c6⟩
/-- a slice that reads as a script -/
def RdO (w : World) (v : Value) (l : List Dop) : Prop :=
  (∃ a c, v = .slice a 0 c ∧ l = []) ∨ ∃ b o c n, v = .slice (some ⟨b, o, none⟩) n c ∧ n = l.length ∧ 0 < n ∧ ∀ i, (hi : i < l.length) → OpAt w b (o + i * 7) l[i]
theorem RdO.form {w : World} {v : Value} {l : List Dop} (h : RdO w v l) : ∃ a c, v = .slice a l.length c ∧ ∀ i, (hi : i < l.length) → ∃ b o, a = some ⟨b, o, none⟩ ∧ OpAt w b (o + i * 7) l[i] := by
  rcases h with ⟨a, c, rfl, rfl⟩ | ⟨b, o, c, n, rfl, rfl, _, h⟩
  · exact ⟨a, c, rfl, fun i hi => absurd hi (by simp)⟩
  · exact ⟨_, c, rfl, fun i hi => ⟨b, o, rfl, h i hi⟩⟩
end Go.Proofs.Ytjcbmlpfpcpakaa
