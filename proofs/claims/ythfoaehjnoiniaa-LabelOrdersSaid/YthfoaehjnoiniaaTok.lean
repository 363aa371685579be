/- Tokens, and what a reader of them is in memory. No condition. -/
import Derived.Test.YthfoaehjnoiniaaBase
namespace Go.Proofs.Ythfoaehjnoiniaa
open Go.RowKit
abbrev Tk := Int × ByteArray × Nat
def rTok : Rep Tk := Rep.flat 3 (fun t => [.int .i64 t.1, .string t.2.1, .int .i64 t.2.2]) (fun _ => rfl)
def tkV (t : Tk) : Value := .agg #[.int .i64 t.1, .string t.2.1, .int .i64 t.2.2]
theorem two_new' (W : World) (o : Obj) (cs : Array Value) (e : TypeId) : ((W.alloc o).alloc (.cells cs e)).heap[W.heap.size + 1]? = some (.cells cs e (0, 0)) := by
  have h := heap_alloc_new (W.alloc o) (.cells cs e)
  simpa using h
theorem size_alloc (w : World) (o : Obj) : (w.alloc o).heap.size = w.heap.size + 1 := by simp
theorem Own.blk_ne {α : Type} {r : Rep α} {w : World} {S : Nat → Prop} {base n g : Nat} {e t : TypeId} {v : Value} {xs : List α} {cs : Array Value} (h : Own r w S base e v n xs) (hb : Blk w g t cs) (hne : e ≠ t) : some g ≠ v.ownBlock := by
  obtain ⟨css, _, h2⟩ := h.row
  exact own_blk_ne h2 hb hne
/-- One token's cells. -/
theorem Sl.tok {w : World} {S : Nat → Prop} {A : Option Addr} {L : List Tk} (h : Sl rTok w S A L) {i : Nat} {t : Tk} (ht : L[i]? = some t) :
    ∃ ad, A = some ad ∧ S ad.block ∧ w.cell? (ad.add (i * 3)) = some (.int .i64 t.1) ∧ w.cell? ⟨(ad.add (i * 3)).block, (ad.add (i * 3)).off + 1, none⟩ = some (.string t.2.1) ∧ w.cell? ⟨(ad.add (i * 3)).block, (ad.add (i * 3)).off + 2, none⟩ = some (.int .i64 t.2.2) := by
  obtain ⟨ad, cs, h1, h2, h3, h4, h5⟩ := h.atN ht
  have h3' : cs = [.int .i64 t.1, .string t.2.1, .int .i64 t.2.2] := h3
  subst h3'
  exact ⟨ad, h1, h2, h4 _ rfl, h5 1 _ (by decide) rfl, h5 2 _ (by decide) rfl⟩
/-- A reader: its block, its tokens, the blocks that they lie in. -/
structure Src where
  g : Nat
  A : Option Addr
  c : Nat
  L : List Tk
  S : Nat → Prop
end Go.Proofs.Ythfoaehjnoiniaa
