/- How a lattice lies in memory. No condition. -/
import Derived.Test.YthfoaehjnoiniaaLatN
import Derived.Test.YthfoaehjnoiniaaLabK
import Derived.Test.YthfoaehjnoiniaaSets
namespace Go.Proofs.Ythfoaehjnoiniaa
open Go.RowKit
structure LatV (w : World) (S : Nat → Prop) (v : Value) (L : Lat) (A1 A2 A3 A4 : Option Addr) (c1 c2 c3 c4 : Nat) : Prop where
  eq : v = .agg #[.slice A1 L.names.length c1, .slice A2 L.le.length c2, .slice A3 L.join.length c3, .slice A4 L.meet.length c4, .int .i64 L.low, .int .i64 L.high]
  names : Sl rStr w S A1 L.names
  le : Sl (rSl rBool) w S A2 L.le
  join : Sl (rSl rI) w S A3 L.join
  meet : Sl (rSl rI) w S A4 L.meet
  lt : ∀ b, S b → b < w.heap.size
  small : L.names.length ≤ 12 ∧ L.le.length ≤ 12 ∧ L.join.length ≤ 12 ∧ L.meet.length ≤ 12
/-- Its blocks are base or later ones. -/
def LatR (base : Nat) (w : World) (v : Value) (L : Lat) : Prop := ∃ S A1 A2 A3 A4 c1 c2 c3 c4, LatV w S v L A1 A2 A3 A4 c1 c2 c3 c4 ∧ ∀ b, S b → base ≤ b
theorem LatV.below {w w' : World} {S : Nat → Prop} {v : Value} {L : Lat} {A1 A2 A3 A4 : Option Addr} {c1 c2 c3 c4 : Nat} (h : LatV w S v L A1 A2 A3 A4 c1 c2 c3 c4) (hb : Below w.heap.size w w') : LatV w' S v L A1 A2 A3 A4 c1 c2 c3 c4 :=
  ⟨h.eq, h.names.below hb h.lt, h.le.below hb h.lt, h.join.below hb h.lt, h.meet.below hb h.lt, fun b hs => Nat.lt_of_lt_of_le (h.lt b hs) hb.size, h.small⟩
theorem LatR.below {base : Nat} {w w' : World} {v : Value} {L : Lat} (h : LatR base w v L) (hb : Below w.heap.size w w') : LatR base w' v L := by
  obtain ⟨S, A1, A2, A3, A4, c1, c2, c3, c4, h, hB⟩ := h
  exact ⟨S, A1, A2, A3, A4, c1, c2, c3, c4, h.below hb, hB⟩
theorem LatR.lower {base base' : Nat} {w : World} {v : Value} {L : Lat} (h : LatR base w v L) (hb : base' ≤ base) : LatR base' w v L := by
  obtain ⟨S, A1, A2, A3, A4, c1, c2, c3, c4, h, hB⟩ := h
  exact ⟨S, A1, A2, A3, A4, c1, c2, c3, c4, h, fun b hs => Nat.le_trans hb (hB b hs)⟩
theorem LatV.keep {w w' : World} {S : Nat → Prop} {v : Value} {L : Lat} {A1 A2 A3 A4 : Option Addr} {c1 c2 c3 c4 : Nat} (h : LatV w S v L A1 A2 A3 A4 c1 c2 c3 c4) (hk : ∀ b, S b → w'.heap[b]? = w.heap[b]?) (hz : w.heap.size ≤ w'.heap.size) : LatV w' S v L A1 A2 A3 A4 c1 c2 c3 c4 :=
  ⟨h.eq, h.names.keep hk, h.le.keep hk, h.join.keep hk, h.meet.keep hk, fun b hs => Nat.lt_of_lt_of_le (h.lt b hs) hz, h.small⟩
def zeroV : Value := .agg #[.slice none 0 0, .slice none 0 0, .slice none 0 0, .slice none 0 0, .int .i64 0, .int .i64 0]
theorem LatR.zero (base : Nat) (w : World) : LatR base w zeroV Lat.zero :=
  ⟨fun _ => False, none, none, none, none, 0, 0, 0, 0, ⟨rfl, Sl.nil _, Sl.nil _, Sl.nil _, Sl.nil _, fun _ h => h.elim, by decide⟩, fun _ h => h.elim⟩
/-- What Make answers. -/
def MakePost (r : Lat × Int) (w : World) (e : Ending) (w' : World) : Prop := ∃ v, e = .returned (.tuple #[v, .int .i64 r.2]) ∧ LatR w.heap.size w' v r.1 ∧ Below w.heap.size w w'
end Go.Proofs.Ythfoaehjnoiniaa
