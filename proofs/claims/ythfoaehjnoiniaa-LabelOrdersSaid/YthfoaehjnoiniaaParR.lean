/- the closure that parse.read defers, by its contracts. -/
import Derived.Test.YthfoaehjnoiniaaParL
import Derived.Test.YthfoaehjnoiniaaLexAll
import Derived.Tactics2
import Derived.Defers
import Derived.Recover
namespace Go.Proofs.Ythfoaehjnoiniaa
open Go.RowKit
abbrev stopV (er : Int) (a : Nat) : Value := .iface 135 (.agg #[.int .i64 er, .int .i64 a])
set_option maxHeartbeats 2000000 in
set_option maxRecDepth 100000 in
theorem catch_idle (p q s : Addr) (w : World) :
    CallsD Try.prog 90 #[.pointer (some p), .pointer (some q), .pointer (some s)] .returning w fun e u' w' => e = .returned (.tuple #[]) ∧ u' = .returning ∧ w' = w := by
  refine callsD_of_wpS Try.func90 rfl fun c₀ cs hu => ?_
  apply wpS_seq
  apply wpS_region
  simp [wpOpsS, go_sem, recoverD, hu, Try.ntmps90, Exit.thenS]
  refine wpS_of_wp ?_
  refine (?_ : ∀ Q0 : Exit → Act → World → Prop, (∀ t, Q0 Exit.normal ⟨t, []⟩ w) → Code.wp Try.prog _ Q0 _ w) _ ?_
  · intro Q0 hq
    change Code.wp _ _ Q0 ⟨#[.pointer (some p), .pointer (some q), .pointer (some s), undef, undef, undef, undef, .nilIface, undef, undef, undef, undef, undef, undef, undef, undef, undef, undef], []⟩ w
    go_wp2
    exact hq _
  · intro a'
    cases c₀
    simp_all [bodyPostS, results, Try.results90]
set_option maxHeartbeats 2000000 in
set_option maxRecDepth 100000 in
theorem catch_stop (B b1 b2 b3 : Nat) (v1 v2 v3 : Value) (er : Int) (a : Nat) (w : World) (h1 : Blk w b1 37 #[v1]) (h2 : Blk w b2 28 #[v2]) (h3 : Blk w b3 3 #[v3]) (hB1 : B ≤ b1) (hB2 : B ≤ b2) (hB3 : B ≤ b3) :
    CallsD Try.prog 90 #[.pointer (some ⟨b1, 0, none⟩), .pointer (some ⟨b2, 0, none⟩), .pointer (some ⟨b3, 0, none⟩)] (.panicking ({ v := stopV er a, recovered := false } :: [])) w fun e u' w' =>
      e = .returned (.tuple #[]) ∧ u' = .panicking ({ v := stopV er a, recovered := true } :: []) ∧ Blk w' b1 37 #[.slice none 0 0] ∧ Blk w' b2 28 #[.int .i64 er] ∧ Blk w' b3 3 #[.int .i64 a] ∧ Below B w w' := by
  have n12 : b1 ≠ b2 := h1.ne_ h2 (by decide)
  have n13 : b1 ≠ b3 := h1.ne_ h3 (by decide)
  have n23 : b2 ≠ b3 := h2.ne_ h3 (by decide)
  have c1 := h1.cell 0
  have c2 := h2.cell 0
  have c3 := h3.cell 0
  have f1 := h1.free 0
  have f2 := h2.free 0
  have f3 := h3.free 0
  refine callsD_of_wpS Try.func90 rfl fun c₀ cs hu => ?_
  apply wpS_seq
  apply wpS_region
  simp [wpOpsS, go_sem, recoverD, hu, Try.ntmps90, Exit.thenS]
  refine wpS_of_wp ?_
  refine (?_ : ∀ Q0 : Exit → Act → World → Prop, (∀ t w', Blk w' b1 37 #[.slice none 0 0] ∧ Blk w' b2 28 #[.int .i64 er] ∧ Blk w' b3 3 #[.int .i64 a] ∧ Below B w w' → Q0 Exit.normal ⟨t, []⟩ w') → Code.wp Try.prog _ Q0 _ w) _ ?_
  · intro Q0 hq
    change Code.wp _ _ Q0 ⟨#[.pointer (some ⟨b1, 0, none⟩), .pointer (some ⟨b2, 0, none⟩), .pointer (some ⟨b3, 0, none⟩), undef, undef, undef, undef, stopV er a, undef, undef, undef, undef, undef, undef, undef, undef, undef, undef], []⟩ w
    have HQ := Asd.mk hq
    clear hq hu
    have hta : ∀ w, (Instr.typeAssert (stopV er a) 20 135 true).run Try.prog w = .ok (.tuple #[.agg #[.int .i64 er, .int .i64 a], .bool true]) w := fun _ => by kernel_rfl
    go_wp2
    clear hta
    have hz1 := h1.lt
    have hz2 := h2.lt
    have hz3 := h3.lt
    generalize hv : w.alloc (.cells #[.int .i64 er, .int .i64 a] 135) = v
    have hn : Below w.heap.size w v := by rw [← hv]; exact (Below.refl _ _).alloc (Nat.le_refl _) _
    have g1 := h1.call hn
    have g2 := h2.call hn
    have g3 := h3.call hn
    have gb : Blk v w.heap.size 135 #[.int .i64 er, .int .i64 a] := by rw [← hv]; exact Blk.new _ _ _
    have q0 := gb.cell 0
    have q1 := gb.cell 1
    have p1 := g1.cell 0
    have p2 := g2.cell 0
    have p3 := g3.cell 0
    have r1 := g1.free 0
    have r2 := g2.free 0
    have r3 := g3.free 0
    have m1 : ¬ w.heap.size = b1 := by omega
    have m2 : ¬ w.heap.size = b2 := by omega
    have m3 : ¬ w.heap.size = b3 := by omega
    have hB : B ≤ w.heap.size := by omega
    go_region
    go_wp2
    exact HQ.out _ _ ⟨((((g1.set_ 0 _).far n12 _).far n13 _).drewN 1), (((g2.far n12.symm _).set_ 0 _).far n23 _).drewN 1, (((g3.far n13.symm _).far n23.symm _).set_ 0 _).drewN 1, below_drew' ((((hn.mono hB).setCell hB1 _).setCell hB2 _).setCell hB3 _) 1⟩
  · intro a' w' h
    simp_all [bodyPostS, results, Try.results90]
end Go.Proofs.Ythfoaehjnoiniaa
