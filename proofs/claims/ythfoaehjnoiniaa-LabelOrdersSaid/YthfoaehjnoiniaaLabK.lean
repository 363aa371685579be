/- What label.complete holds in memory while it runs. No condition. -/
import Derived.Test.YthfoaehjnoiniaaLabM
import Derived.Test.YthfoaehjnoiniaaStrs
import Derived.Test.YthfoaehjnoiniaaTok
namespace Go.Proofs.Ythfoaehjnoiniaa
open Go.RowKit
abbrev rI : Rep Int := rInt .i64
theorem E_ints : ElemT Try.prog 59 3 1 8 := ElemT.mk' Try.underlying59 (z := .int .i64 0) (by kernel_rfl) rfl (by decide)
theorem E_rows : ElemT Try.prog 40 59 1 24 := ElemT.mk' Try.underlying40 (z := .slice none 0 0) (by kernel_rfl) rfl (by decide)
def Apart (u v : Value) : Prop := u.ownBlock = none ∨ u.ownBlock ≠ v.ownBlock
theorem Apart.symm {u v : Value} (h : Apart u v) : Apart v u := apart_symm h
theorem Own.apart {α β : Type} {r : Rep α} {r' : Rep β} {w : World} {S S' : Nat → Prop} {base base' n n' : Nat} {e e' : TypeId} {v v' : Value} {xs : List α} {ys : List β} (h : Own r w S base e v n xs) (h' : Own r' w S' base' e' v' n' ys) (hne : e ≠ e') : Apart v v' := by
  cases hv : v.ownBlock with
  | none => exact .inl hv
  | some k =>
    refine .inr fun hk => ?_
    obtain ⟨css, _, h2⟩ := h.row
    rcases h2.2 with ⟨rfl, _⟩ | ⟨g, cap, cur, rfl, _, hh, _⟩
    · cases hv
    · have hg : g = k := by simpa [Value.ownBlock] using hv
      subst hg
      refine h'.blk_ne (g := g) (t := e) (cs := cur) hh (fun e2 => hne e2.symm) ?_
      rw [← hk]; rfl
theorem Blk.six {w : World} {g : Nat} {t : TypeId} {x0 x1 x2 x3 x4 x5 : Value} (h : Blk w g t #[x0, x1, x2, x3, x4, x5]) :
    (w.cell? ⟨g, 0, none⟩ = some x0 ∧ w.cell? ⟨g, 1, none⟩ = some x1 ∧ w.cell? ⟨g, 2, none⟩ = some x2 ∧ w.cell? ⟨g, 3, none⟩ = some x3 ∧ w.cell? ⟨g, 4, none⟩ = some x4 ∧ w.cell? ⟨g, 5, none⟩ = some x5) ∧
    (w.frozen? ⟨g, 0, none⟩ = false ∧ w.frozen? ⟨g, 1, none⟩ = false ∧ w.frozen? ⟨g, 2, none⟩ = false ∧ w.frozen? ⟨g, 3, none⟩ = false ∧ w.frozen? ⟨g, 4, none⟩ = false ∧ w.frozen? ⟨g, 5, none⟩ = false) :=
  ⟨⟨h.cell 0, h.cell 1, h.cell 2, h.cell 3, h.cell 4, h.cell 5⟩, h.free 0, h.free 1, h.free 2, h.free 3, h.free 4, h.free 5⟩
/-- The state of label.complete: the box of t, the result's variable, the closure le; the tables so far, the rows so far. -/
structure CpI (w wr : World) (n : Nat) (M : Tab) (S : Nat → Prop) (vn vle lo hi : Value) (aJ aM a bj bm : Nat) (vJ vM vj vm : Value) : Prop where
  box : Blk wr w.heap.size 42 #[vn, vle, vJ, vM, lo, hi]
  res : Blk wr (w.heap.size + 1) 42 #[.slice none 0 0, .slice none 0 0, .slice none 0 0, .slice none 0 0, .int .i64 0, .int .i64 0]
  fn : Blk wr (w.heap.size + 1 + 1) 94 #[.func (.func 55) #[] #[.pointer (some ⟨w.heap.size, 0, none⟩)]]
  J : Own (rSl rI) wr S w.heap.size 59 vJ aJ (tabOf (jF n M) n aJ)
  Mt : Own (rSl rI) wr S w.heap.size 59 vM aM (tabOf (mF n M) n aM)
  j : Own rI wr NoB w.heap.size 3 vj bj (rowOf (jF n M) a bj)
  m : Own rI wr NoB w.heap.size 3 vm bm (rowOf (mF n M) a bm)
  apO : Apart vJ vM
  apR : Apart vj vm
  sT : ∀ k, S k → w.heap.size ≤ k ∧ ∃ cs, Blk wr k 3 cs
  sR : ∀ k, S k → some k ≠ vj.ownBlock ∧ some k ≠ vm.ownBlock
  nx : Below w.heap.size w wr
section
variable {w wr w1 : World} {n : Nat} {M : Tab} {S : Nat → Prop} {vn vle lo hi vJ vM vj vm : Value} {aJ aM a bj bm : Nat}
theorem none_ne {v : Value} : v.ownBlock = none ∨ v.ownBlock ≠ none := by cases v.ownBlock <;> simp
theorem CpI.call (h : CpI w wr n M S vn vle lo hi aJ aM a bj bm vJ vM vj vm) (hb : Below wr.heap.size wr w1) : CpI w w1 n M S vn vle lo hi aJ aM a bj bm vJ vM vj vm :=
  ⟨h.box.call hb, h.res.call hb, h.fn.call hb, h.J.call hb, h.Mt.call hb, h.j.call hb, h.m.call hb, h.apO, h.apR, fun k hk => ⟨(h.sT k hk).1, by obtain ⟨cs, hc⟩ := (h.sT k hk).2; exact ⟨cs, hc.call hb⟩⟩, h.sR, below_call h.nx hb⟩
theorem CpI.alloc (h : CpI w wr n M S vn vle lo hi aJ aM a bj bm vJ vM vj vm) (o : Obj) : CpI w (wr.alloc o) n M S vn vle lo hi aJ aM a bj bm vJ vM vj vm := h.call ((Below.refl _ _).alloc (Nat.le_refl _) o)
theorem CpI.drewN (h : CpI w wr n M S vn vle lo hi aJ aM a bj bm vJ vM vj vm) (q : Nat) : CpI w (wr.drewN q) n M S vn vle lo hi aJ aM a bj bm vJ vM vj vm := h.call (below_drew' (Below.refl _ _) q)
theorem CpI.introw (h : CpI w wr n M S vn vle lo hi aJ aM a bj bm vJ vM vj vm) {k : Nat} (hk : S k) : some k ≠ vJ.ownBlock ∧ some k ≠ vM.ownBlock := by
  obtain ⟨cs, hc⟩ := (h.sT k hk).2
  exact ⟨h.J.blk_ne hc (by decide), h.Mt.blk_ne hc (by decide)⟩
/-- joins = append(joins, j) -/
theorem CpI.appj (h : CpI w wr n M S vn vle lo hi aJ aM a bj bm vJ vM vj vm) {v' : Value} (ho : Own rI w1 NoB w.heap.size 3 v' (bj + 1) (rowOf (jF n M) a (bj + 1))) (hg : wr.grownBy w1 vj.ownBlock) {g : Nat} (hv : v'.ownBlock = some g) (hat : vj.ownBlock = some g ∨ wr.heap.size ≤ g) :
    CpI w w1 n M S vn vle lo hi aJ aM a (bj + 1) bm vJ vM v' vm :=
  ⟨h.box.grown hg (h.j.blk_ne h.box (by decide)), h.res.grown hg (h.j.blk_ne h.res (by decide)), h.fn.grown hg (h.j.blk_ne h.fn (by decide)), h.J.kept hg (h.J.apart h.j (by decide)) (fun b hb => (h.sR b hb).1), h.Mt.kept hg (h.Mt.apart h.j (by decide)) (fun b hb => (h.sR b hb).1),
    ho, h.m.kept hg h.apR.symm (fun _ hb => hb.elim), h.apO, by
      unfold Apart; rw [hv]
      exact apart_new h.apR hat (fun k hk => (h.m.lt k hk).2),
    fun k hk => ⟨(h.sT k hk).1, by obtain ⟨cs, hc⟩ := (h.sT k hk).2; exact ⟨cs, hc.grown hg (h.sR k hk).1⟩⟩, fun k hk => ⟨by
      rw [hv]; intro e
      injection e with e
      rcases hat with e1 | e1
      · rw [← e] at e1; exact (h.sR k hk).1 e1.symm
      · obtain ⟨cs, hc⟩ := (h.sT k hk).2
        have := hc.lt
        omega, (h.sR k hk).2⟩, h.nx.grown hg h.nx.size (fun k hk => (h.j.lt k hk).1)⟩
theorem CpI.appm (h : CpI w wr n M S vn vle lo hi aJ aM a bj bm vJ vM vj vm) {v' : Value} (ho : Own rI w1 NoB w.heap.size 3 v' (bm + 1) (rowOf (mF n M) a (bm + 1))) (hg : wr.grownBy w1 vm.ownBlock) {g : Nat} (hv : v'.ownBlock = some g) (hat : vm.ownBlock = some g ∨ wr.heap.size ≤ g) :
    CpI w w1 n M S vn vle lo hi aJ aM a bj (bm + 1) vJ vM vj v' :=
  ⟨h.box.grown hg (h.m.blk_ne h.box (by decide)), h.res.grown hg (h.m.blk_ne h.res (by decide)), h.fn.grown hg (h.m.blk_ne h.fn (by decide)), h.J.kept hg (h.J.apart h.m (by decide)) (fun b hb => (h.sR b hb).2), h.Mt.kept hg (h.Mt.apart h.m (by decide)) (fun b hb => (h.sR b hb).2),
    h.j.kept hg h.apR (fun _ hb => hb.elim), ho, h.apO, by
      have := apart_new h.apR.symm hat (fun k hk => (h.j.lt k hk).2)
      exact Apart.symm (by unfold Apart; rw [hv]; exact this),
    fun k hk => ⟨(h.sT k hk).1, by obtain ⟨cs, hc⟩ := (h.sT k hk).2; exact ⟨cs, hc.grown hg (h.sR k hk).2⟩⟩, fun k hk => ⟨(h.sR k hk).1, by
      rw [hv]; intro e
      injection e with e
      rcases hat with e1 | e1
      · rw [← e] at e1; exact (h.sR k hk).2 e1.symm
      · obtain ⟨cs, hc⟩ := (h.sT k hk).2
        have := hc.lt
        omega⟩, h.nx.grown hg h.nx.size (fun k hk => (h.m.lt k hk).1)⟩
/-- One block more that no row is. -/
theorem CpI.addS (h : CpI w wr n M S vn vle lo hi aJ aM a 0 0 vJ vM (.slice none 0 0) (.slice none 0 0)) {q : Nat} {cs : Array Value} (hq : Blk wr q 3 cs) (hb : w.heap.size ≤ q) (a' : Nat) :
    CpI w wr n M (fun k => S k ∨ k = q) vn vle lo hi aJ aM a' 0 0 vJ vM (.slice none 0 0) (.slice none 0 0) := by
  have hS : ∀ k, (S k ∨ k = q) → w.heap.size ≤ k ∧ ∃ cs, Blk wr k 3 cs := by
    rintro k (hk | rfl)
    · exact h.sT k hk
    · exact ⟨hb, cs, hq⟩
  have hL : ∀ {v : Value} {m : Nat} {xs : List (List Int)}, Own (rSl rI) wr S w.heap.size 59 v m xs → Own (rSl rI) wr (fun k => S k ∨ k = q) w.heap.size 59 v m xs := fun ho => ho.mono (fun b hb => .inl hb) (fun b hb => by
    obtain ⟨_, cs, hc⟩ := hS b hb
    exact ⟨hc.lt, ho.blk_ne hc (by decide)⟩)
  exact ⟨h.box, h.res, h.fn, hL h.J, hL h.Mt, Own.nil rI _ (fun _ h => h.elim) _ _, Own.nil rI _ (fun _ h => h.elim) _ _, h.apO, .inl rfl, hS, fun k _ => ⟨by simp [Value.ownBlock], by simp [Value.ownBlock]⟩, h.nx⟩
/-- The rows are done: they join those that the tables look into. -/
theorem CpI.rows (h : CpI w wr n M S vn vle lo hi aJ aM a bj bm vJ vM vj vm) : 
    CpI w wr n M (fun k => S k ∨ some k = vj.ownBlock ∨ some k = vm.ownBlock) vn vle lo hi aJ aM a 0 0 vJ vM (.slice none 0 0) (.slice none 0 0) := by
  have hb : ∀ {F : Nat → Nat → Option Nat} {v : Value} {b k : Nat}, Own rI wr NoB w.heap.size 3 v b (rowOf F a b) → some k = v.ownBlock → w.heap.size ≤ k ∧ ∃ cs, Blk wr k 3 cs := by
    intro F v b k ho hk
    obtain ⟨css, _, h2⟩ := ho.row
    rcases h2.2 with ⟨rfl, _⟩ | ⟨g, cap, cur, rfl, hb, hh, _⟩
    · cases hk
    · have hg : g = k := by simpa [Value.ownBlock] using hk.symm
      subst hg
      exact ⟨hb, cur, hh⟩
  have hS : ∀ k, (S k ∨ some k = vj.ownBlock ∨ some k = vm.ownBlock) → w.heap.size ≤ k ∧ ∃ cs, Blk wr k 3 cs := by
    rintro k (hk | hk | hk)
    · exact h.sT k hk
    · exact hb h.j hk
    · exact hb h.m hk
  have hL : ∀ {v : Value} {m : Nat} {xs : List (List Int)}, Own (rSl rI) wr S w.heap.size 59 v m xs → Own (rSl rI) wr (fun k => S k ∨ some k = vj.ownBlock ∨ some k = vm.ownBlock) w.heap.size 59 v m xs := fun ho => ho.mono (fun b hb => .inl hb) (fun b hb => by
    obtain ⟨_, cs, hc⟩ := hS b hb
    exact ⟨hc.lt, ho.blk_ne hc (by decide)⟩)
  exact ⟨h.box, h.res, h.fn, hL h.J, hL h.Mt, Own.nil rI _ (fun _ h => h.elim) _ _, Own.nil rI _ (fun _ h => h.elim) _ _, h.apO, .inl rfl, hS, fun k _ => ⟨by simp [Value.ownBlock], by simp [Value.ownBlock]⟩, h.nx⟩
end
end Go.Proofs.Ythfoaehjnoiniaa
