/- The end of a round of label.complete: the rows join the tables. No condition. -/
import Derived.Test.YthfoaehjnoiniaaLabK
namespace Go.Proofs.Ythfoaehjnoiniaa
open Go.RowKit
theorem Own.keepH {α : Type} {r : Rep α} {w w' : World} {S : Nat → Prop} {base n : Nat} {e : TypeId} {v : Value} {xs : List α} (h : Own r w S base e v n xs) (hk : ∀ b, (S b ∨ some b = v.ownBlock) → w'.heap[b]? = w.heap[b]?) (hz : w.heap.size ≤ w'.heap.size) : Own r w' S base e v n xs := by
  obtain ⟨css, h1, h2⟩ := h.row
  refine ⟨h.len, fun b hb => ⟨Nat.lt_of_lt_of_le (h.off b hb).1 hz, (h.off b hb).2⟩, css, h1.mono fun x cs hx => r.keep hx fun b hb => hk b (.inl hb), h2.1, ?_⟩
  rcases h2.2 with h3 | ⟨g, cap, cur, rfl, hb, hh, h4⟩
  · exact .inl h3
  · exact .inr ⟨g, cap, cur, rfl, hb, (hk g (.inr rfl)).trans hh, h4⟩
/-- What a cell holds. -/
def cellV (a : Addr) (w : World) : Value := (w.cell? a).getD undef
theorem cellV_of {a : Addr} {w : World} {v : Value} (h : w.cell? a = some v) : w.cell? a = some (cellV a w) := by unfold cellV; rw [h]; rfl
theorem cellV_eq {a : Addr} {w : World} {v : Value} (h : w.cell? a = some v) : cellV a w = v := by unfold cellV; rw [h]; rfl
theorem two_cells {w : World} {g : Nat} {t : TypeId} {x0 x1 x2 x3 x4 x5 : Value} (h : Blk w g t #[x0, x1, x2, x3, x4, x5]) : w.cell? ⟨g, 2, none⟩ = some (cellV ⟨g, 2, none⟩ w) ∧ w.cell? ⟨g, 3, none⟩ = some (cellV ⟨g, 3, none⟩ w) :=
  ⟨cellV_of (h.cell 2), cellV_of (h.cell 3)⟩
/-- While t.Join, t.Meet take the rows: what the box still holds, uJ and uM; the tables' values, vJ and vM. -/
structure CpE (w wr : World) (n : Nat) (M : Tab) (S : Nat → Prop) (vn vle lo hi uJ uM : Value) (aJ aM a : Nat) (vJ vM : Value) (Aj Am : Option Addr) : Prop where
  box : Blk wr w.heap.size 42 #[vn, vle, uJ, uM, lo, hi]
  res : Blk wr (w.heap.size + 1) 42 #[.slice none 0 0, .slice none 0 0, .slice none 0 0, .slice none 0 0, .int .i64 0, .int .i64 0]
  fn : Blk wr (w.heap.size + 1 + 1) 94 #[.func (.func 55) #[] #[.pointer (some ⟨w.heap.size, 0, none⟩)]]
  J : Own (rSl rI) wr S w.heap.size 59 vJ aJ (tabOf (jF n M) n aJ)
  Mt : Own (rSl rI) wr S w.heap.size 59 vM aM (tabOf (mF n M) n aM)
  apO : Apart vJ vM
  sT : ∀ k, S k → w.heap.size ≤ k ∧ ∃ cs, Blk wr k 3 cs
  rj : Sl rI wr S Aj (rowOf (jF n M) a n)
  rm : Sl rI wr S Am (rowOf (mF n M) a n)
  nx : Below w.heap.size w wr
section
variable {w wr w1 : World} {n : Nat} {M : Tab} {S : Nat → Prop} {vn vle lo hi uJ uM vJ vM vj vm : Value} {aJ aM a : Nat} {Aj Am : Option Addr}
theorem CpI.toE (h : CpI w wr n M S vn vle lo hi aJ aM a n n vJ vM vj vm) {cj cm : Nat} (hj : vj = .slice Aj n cj) (hm : vm = .slice Am n cm) :
    CpE w wr n M (fun k => S k ∨ some k = vj.ownBlock ∨ some k = vm.ownBlock) vn vle lo hi vJ vM aJ aM a vJ vM Aj Am := by
  have h2 := h.rows
  obtain ⟨A1, c1, e1, _, _, s1⟩ := h.j.sl
  obtain ⟨A2, c2, e2, _, _, s2⟩ := h.m.sl
  rw [hj] at e1
  injection e1 with e1 _ _
  rw [hm] at e2
  injection e2 with e2 _ _
  refine ⟨h2.box, h2.res, h2.fn, h2.J, h2.Mt, h2.apO, h2.sT, ?_, ?_, h2.nx⟩
  · rw [e1]; exact s1.mono (fun b hb => .inr (.inl (hb.resolve_left (fun x => x))))
  · rw [e2]; exact s2.mono (fun b hb => .inr (.inr (hb.resolve_left (fun x => x))))
theorem CpE.call (h : CpE w wr n M S vn vle lo hi uJ uM aJ aM a vJ vM Aj Am) (hb : Below wr.heap.size wr w1) : CpE w w1 n M S vn vle lo hi uJ uM aJ aM a vJ vM Aj Am :=
  ⟨h.box.call hb, h.res.call hb, h.fn.call hb, h.J.call hb, h.Mt.call hb, h.apO, fun k hk => ⟨(h.sT k hk).1, by obtain ⟨cs, hc⟩ := (h.sT k hk).2; exact ⟨cs, hc.call hb⟩⟩,
    h.rj.below hb (fun b hb => by obtain ⟨cs, hc⟩ := (h.sT b hb).2; exact hc.lt), h.rm.below hb (fun b hb => by obtain ⟨cs, hc⟩ := (h.sT b hb).2; exact hc.lt), below_call h.nx hb⟩
theorem CpE.alloc (h : CpE w wr n M S vn vle lo hi uJ uM aJ aM a vJ vM Aj Am) (o : Obj) : CpE w (wr.alloc o) n M S vn vle lo hi uJ uM aJ aM a vJ vM Aj Am := h.call ((Below.refl _ _).alloc (Nat.le_refl _) o)
theorem CpE.drewN (h : CpE w wr n M S vn vle lo hi uJ uM aJ aM a vJ vM Aj Am) (q : Nat) : CpE w (wr.drewN q) n M S vn vle lo hi uJ uM aJ aM a vJ vM Aj Am := h.call (below_drew' (Below.refl _ _) q)
theorem CpE.lt (h : CpE w wr n M S vn vle lo hi uJ uM aJ aM a vJ vM Aj Am) {k : Nat} (hk : S k) : k < wr.heap.size := by
  obtain ⟨cs, hc⟩ := (h.sT k hk).2
  exact hc.lt
theorem CpE.appJ (h : CpE w wr n M S vn vle lo hi uJ uM aJ aM a vJ vM Aj Am) {v' : Value} (ho : Own (rSl rI) w1 S w.heap.size 59 v' (aJ + 1) (tabOf (jF n M) n (aJ + 1))) (hg : wr.grownBy w1 vJ.ownBlock) {g : Nat} (hv : v'.ownBlock = some g) (hat : vJ.ownBlock = some g ∨ wr.heap.size ≤ g) :
    CpE w w1 n M S vn vle lo hi uJ uM (aJ + 1) aM a v' vM Aj Am := by
  have hne : ∀ k, S k → some k ≠ vJ.ownBlock := fun k hk => by
    obtain ⟨cs, hc⟩ := (h.sT k hk).2
    exact h.J.blk_ne hc (by decide)
  exact ⟨h.box.grown hg (h.J.blk_ne h.box (by decide)), h.res.grown hg (h.J.blk_ne h.res (by decide)), h.fn.grown hg (h.J.blk_ne h.fn (by decide)), ho, h.Mt.kept hg h.apO.symm hne, by
    unfold Apart; rw [hv]; exact apart_new h.apO hat (fun k hk => (h.Mt.lt k hk).2),
    fun k hk => ⟨(h.sT k hk).1, by obtain ⟨cs, hc⟩ := (h.sT k hk).2; exact ⟨cs, hc.grown hg (hne k hk)⟩⟩,
    h.rj.grown hg (fun b hb => ⟨h.lt hb, hne b hb⟩), h.rm.grown hg (fun b hb => ⟨h.lt hb, hne b hb⟩), h.nx.grown hg h.nx.size (fun k hk => (h.J.lt k hk).1)⟩
theorem CpE.appM (h : CpE w wr n M S vn vle lo hi uJ uM aJ aM a vJ vM Aj Am) {v' : Value} (ho : Own (rSl rI) w1 S w.heap.size 59 v' (aM + 1) (tabOf (mF n M) n (aM + 1))) (hg : wr.grownBy w1 vM.ownBlock) {g : Nat} (hv : v'.ownBlock = some g) (hat : vM.ownBlock = some g ∨ wr.heap.size ≤ g) :
    CpE w w1 n M S vn vle lo hi uJ uM aJ (aM + 1) a vJ v' Aj Am := by
  have hne : ∀ k, S k → some k ≠ vM.ownBlock := fun k hk => by
    obtain ⟨cs, hc⟩ := (h.sT k hk).2
    exact h.Mt.blk_ne hc (by decide)
  exact ⟨h.box.grown hg (h.Mt.blk_ne h.box (by decide)), h.res.grown hg (h.Mt.blk_ne h.res (by decide)), h.fn.grown hg (h.Mt.blk_ne h.fn (by decide)), h.J.kept hg h.apO hne, ho, by
    have := apart_new h.apO.symm hat (fun k hk => (h.J.lt k hk).2)
    exact Apart.symm (by unfold Apart; rw [hv]; exact this),
    fun k hk => ⟨(h.sT k hk).1, by obtain ⟨cs, hc⟩ := (h.sT k hk).2; exact ⟨cs, hc.grown hg (hne k hk)⟩⟩,
    h.rj.grown hg (fun b hb => ⟨h.lt hb, hne b hb⟩), h.rm.grown hg (fun b hb => ⟨h.lt hb, hne b hb⟩), h.nx.grown hg h.nx.size (fun k hk => (h.Mt.lt k hk).1)⟩
theorem CpE.repJ (h : CpE w wr n M S vn vle lo hi uJ uM aJ aM a vJ vM Aj Am) {c : Nat} (hc : n ≤ c) (hm : c ≤ maxLen) : (rSl rI).R wr S (rowOf (jF n M) a n) [.slice Aj n c] :=
  ⟨Aj, c, by rw [rowOf_len], by rw [rowOf_len]; exact hc, hm, h.rj⟩
theorem CpE.repM (h : CpE w wr n M S vn vle lo hi uJ uM aJ aM a vJ vM Aj Am) {c : Nat} (hc : n ≤ c) (hm : c ≤ maxLen) : (rSl rI).R wr S (rowOf (mF n M) a n) [.slice Am n c] :=
  ⟨Am, c, by rw [rowOf_len], by rw [rowOf_len]; exact hc, hm, h.rm⟩
/-- Both are stored. -/
theorem CpE.done (h : CpE w wr n M S vn vle lo hi uJ uM aJ aM a vJ vM Aj Am) (a' : Nat) :
    CpI w ((wr.setCell ⟨w.heap.size, 2, none⟩ vJ).setCell ⟨w.heap.size, 3, none⟩ vM) n M S vn vle lo hi aJ aM a' 0 0 vJ vM (.slice none 0 0) (.slice none 0 0) := by
  have nb : ∀ {k : Nat} {t : TypeId} {cs : Array Value}, Blk wr k t cs → t ≠ 42 → k ≠ w.heap.size := fun hb ht => hb.ne_ h.box ht
  have nr : (w.heap.size + 1) ≠ w.heap.size := by omega
  have nf : (w.heap.size + 1 + 1) ≠ w.heap.size := by omega
  have hs : ∀ b, S b → b ≠ w.heap.size := fun b hb => by obtain ⟨cs, hc⟩ := (h.sT b hb).2; exact nb hc (by decide)
  refine ⟨?_, (h.res.far nr _).far nr _, (h.fn.far nf _).far nf _, ?_, ?_, Own.nil rI _ (fun _ h => h.elim) _ _, Own.nil rI _ (fun _ h => h.elim) _ _, h.apO, .inl rfl, fun k hk => ⟨(h.sT k hk).1, by obtain ⟨cs, hc⟩ := (h.sT k hk).2; exact ⟨cs, (hc.far (hs k hk) _).far (hs k hk) _⟩⟩, fun k _ => ⟨by simp [Value.ownBlock], by simp [Value.ownBlock]⟩, (h.nx.setCell (Nat.le_refl _) _).setCell (Nat.le_refl _) _⟩
  · have := (h.box.set_ 2 vJ).set_ 3 vM
    simpa using this
  · exact (h.J.set_ (p := ⟨w.heap.size, 2, none⟩) (h.J.blk_ne h.box (by decide)) hs vJ).set_ (p := ⟨w.heap.size, 3, none⟩) (h.J.blk_ne h.box (by decide)) hs vM
  · exact (h.Mt.set_ (p := ⟨w.heap.size, 2, none⟩) (h.Mt.blk_ne h.box (by decide)) hs vJ).set_ (p := ⟨w.heap.size, 3, none⟩) (h.Mt.blk_ne h.box (by decide)) hs vM
end
end Go.Proofs.Ythfoaehjnoiniaa
