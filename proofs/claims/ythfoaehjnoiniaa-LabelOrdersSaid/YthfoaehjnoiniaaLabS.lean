/- What the two parsers of labels answer, in plain words. No condition. -/
import Derived.Test.YthfoaehjnoiniaaTok
namespace Go.Proofs.Ythfoaehjnoiniaa
open Go.RowKit
def isTk (t : Tk) (s : ByteArray) : Bool := decide (t.2.1 = s) && (decide (t.1 = 4) || decide (t.1 = 3))
def tk (L : List Tk) (i : Nat) : Tk := (L[i]?).getD (0, ⟨#[]⟩, 0)
def EndTk (L : List Tk) : Prop := ∃ x a, L[L.length - 1]? = some (0, x, a)
theorem isTk_kind {t : Tk} {s : ByteArray} (h : isTk t s = true) : t.1 ≠ 0 := by
  intro e
  simp [isTk, e] at h
theorem tk_at {L : List Tk} {i : Nat} (h : i < L.length) : L[i]? = some (tk L i) := by
  rw [tk, List.getElem?_eq_getElem h]; rfl
theorem tk_of {L : List Tk} {i : Nat} {t : Tk} (h : L[i]? = some t) : tk L i = t := by rw [tk, h]; rfl
theorem EndTk.pos {L : List Tk} (h : EndTk L) : 0 < L.length := by
  obtain ⟨x, a, h⟩ := h
  have := (List.getElem?_eq_some_iff.1 h).1
  omega
theorem EndTk.next {L : List Tk} (h : EndTk L) {i : Nat} (hi : i < L.length) (hk : (tk L i).1 ≠ 0) : i + 1 < L.length := by
  obtain ⟨x, a, h⟩ := h
  rcases Nat.lt_or_ge (i + 1) L.length with h1 | h1
  · exact h1
  · have : i = L.length - 1 := by omega
    subst this
    rw [tk_of h] at hk
    exact absurd rfl hk
abbrev Prm := ByteArray × ByteArray × Nat
def rPrm : Rep Prm := Rep.flat 3 (fun p => [.string p.1, .string p.2.1, .int .i64 p.2.2]) (fun _ => rfl)
inductive PR (α : Type)
  | ok (a : α)
  | bad (e : Int) (at_ : Nat)
def bLt : ByteArray := ⟨#[60]⟩
def bSemi : ByteArray := ⟨#[59]⟩
def bLabels : ByteArray := ⟨#[108, 97, 98, 101, 108, 115]⟩
/-- a < b < c: behind the first name. -/
def labIn (L : List Tk) : Nat → Nat → ByteArray → Bool → List Prm → PR (Nat × ByteArray × Bool × List Prm)
  | 0, i, last, alone, out => .ok (i, last, alone, out)
  | f + 1, i, last, alone, out =>
    if isTk (tk L i) bLt = true then
      if (tk L (i + 1)).1 = 1 then labIn L f (i + 2) (tk L (i + 1)).2.1 false (out ++ [(last, (tk L (i + 1)).2.1, (tk L (i + 1)).2.2)])
      else .bad 11 (tk L (i + 1)).2.2
    else .ok (i, last, alone, out)
def labOut (L : List Tk) : Nat → Nat → List Prm → PR (List Prm)
  | 0, _, out => .ok out
  | f + 1, i, out =>
    if (tk L i).1 = 0 then .ok out
    else if (tk L i).1 = 1 then
      match labIn L f (i + 1) (tk L i).2.1 true out with
      | .bad e a => .bad e a
      | .ok (j, last, alone, out1) =>
        if isTk (tk L j) bSemi = true then labOut L f (j + 1) (if alone = true then out1 ++ [(last, ⟨#[]⟩, (tk L i).2.2)] else out1)
        else .bad 11 (tk L j).2.2
    else .bad 11 (tk L i).2.2
def labelsS (L : List Tk) : PR (List Prm) := if isTk (tk L 0) bLabels = true then labOut L L.length 1 [] else .bad 11 (tk L 0).2.2
/-- What stands behind the names of a line. -/
def labK (L : List Tk) (f a0 : Nat) : PR (Nat × ByteArray × Bool × List Prm) → PR (List Prm)
  | .bad e a => .bad e a
  | .ok (j, last, alone, out1) => if isTk (tk L j) bSemi = true then labOut L f (j + 1) (if alone = true then out1 ++ [(last, ⟨#[]⟩, a0)] else out1) else .bad 11 (tk L j).2.2
section
variable {L : List Tk} {f i : Nat} {out : List Prm} {last : ByteArray} {alone : Bool}
theorem labOut_end (h : (tk L i).1 = 0) : labOut L f i out = .ok out := by
  cases f with
  | zero => rfl
  | succ f => rw [labOut, if_pos h]
theorem labOut_bad (h0 : (tk L i).1 ≠ 0) (h : (tk L i).1 ≠ 1) : labOut L (f + 1) i out = .bad 11 (tk L i).2.2 := by rw [labOut, if_neg h0, if_neg h]
theorem labOut_name (h : (tk L i).1 = 1) : labOut L (f + 1) i out = labK L f (tk L i).2.2 (labIn L f (i + 1) (tk L i).2.1 true out) := by
  rw [labOut, if_neg (by rw [h]; decide), if_pos h]
  rfl
theorem labIn_stop (h : isTk (tk L i) bLt = false) : labIn L f i last alone out = .ok (i, last, alone, out) := by
  cases f with
  | zero => rfl
  | succ f => rw [labIn, if_neg (by rw [h]; decide)]
theorem labIn_bad (h : isTk (tk L i) bLt = true) (h1 : (tk L (i + 1)).1 ≠ 1) : labIn L (f + 1) i last alone out = .bad 11 (tk L (i + 1)).2.2 := by
  rw [labIn, if_pos h, if_neg h1]
theorem labIn_more (h : isTk (tk L i) bLt = true) (h1 : (tk L (i + 1)).1 = 1) : labIn L (f + 1) i last alone out = labIn L f (i + 2) (tk L (i + 1)).2.1 false (out ++ [(last, (tk L (i + 1)).2.1, (tk L (i + 1)).2.2)]) := by
  rw [labIn, if_pos h, if_pos h1]
end
end Go.Proofs.Ythfoaehjnoiniaa
