/- parse.read and parse.Labels by their contracts. -/
import Derived.Test.YthfoaehjnoiniaaParR
namespace Go.Proofs.Ythfoaehjnoiniaa
open Go.RowKit
def ReadPost (res : PR (List Prm)) (w : World) (e : Ending) (w' : World) : Prop := match res with
  | .ok out => ∃ v, e = .returned (.tuple #[v, .int .i64 0, .int .i64 0]) ∧ Own rPrm w' NoB w.heap.size 56 v out.length out ∧ Below w.heap.size w w'
  | .bad er a => e = .returned (.tuple #[.slice none 0 0, .int .i64 er, .int .i64 a]) ∧ Below w.heap.size w w'
set_option maxHeartbeats 4000000 in
set_option maxRecDepth 100000 in
theorem read_any (A : Option Addr) (c : Nat) (L : List Tk) (S : Nat → Prop) (w : World) (hT : Sl rTok w S A L) (hS : ∀ b, S b → b < w.heap.size) (hE : EndTk L) (hl : L.length ≤ 100000) :
    Calls Try.prog 65 #[.slice A L.length c, .func (.func 66) #[] #[]] w (ReadPost (labelsS L) w) := by
  have hmf : ∀ (fn : Fn) (first cap : Array Value) (w : World), (Instr.makeFunc fn first cap).run Try.prog w = .ok (.func fn first cap) w := fun _ _ _ _ => rfl
  have HT := Asd.mk hT; have HS := Asd.mk hS; have HE := Asd.mk hE
  clear hT hS hE
  obtain ⟨W, hW⟩ : ∃ W, W = (((w.alloc (.cells #[.slice none 0 0] 37)).alloc (.cells #[.int .i64 0] 28)).alloc (.cells #[.int .i64 0] 3)).alloc (.cells #[.slice A L.length c, .int .i64 0, .int .i64 0] 137) := ⟨_, rfl⟩
  have hz : W.heap.size = w.heap.size + 4 := by rw [hW]; simp
  have k1 : Blk W w.heap.size 37 #[.slice none 0 0] := by
    rw [hW]; exact (((Blk.new _ _ _).alloc _).alloc _).alloc _
  have k2 : Blk W (w.heap.size + 1) 28 #[.int .i64 0] := by
    rw [hW]
    have := Blk.new (w.alloc (.cells #[.slice none 0 0] 37)) 28 #[.int .i64 0]
    rw [size_alloc] at this
    exact (this.alloc _).alloc _
  have k3 : Blk W (w.heap.size + 1 + 1) 3 #[.int .i64 0] := by
    rw [hW]
    have := Blk.new ((w.alloc (.cells #[.slice none 0 0] 37)).alloc (.cells #[.int .i64 0] 28)) 3 #[.int .i64 0]
    rw [size_alloc, size_alloc] at this
    exact this.alloc _
  have k4 : Blk W (w.heap.size + 1 + 1 + 1) 137 #[.slice A L.length c, .int .i64 0, .int .i64 0] := by
    rw [hW]
    have := Blk.new (((w.alloc (.cells #[.slice none 0 0] 37)).alloc (.cells #[.int .i64 0] 28)).alloc (.cells #[.int .i64 0] 3)) 137 #[.slice A L.length c, .int .i64 0, .int .i64 0]
    rw [size_alloc, size_alloc, size_alloc] at this
    exact this
  have hbW : Below w.heap.size w W := by
    rw [hW]
    exact ((((Below.refl _ _).alloc (Nat.le_refl _) _).alloc (by simp) _).alloc (by simp; omega) _).alloc (by simp; omega) _
  have hR : Rdr ⟨w.heap.size + 1 + 1 + 1, A, c, L, S⟩ W 0 0 := ⟨k4, HT.out.below hbW HS.out, fun b hb => by
    have := HS.out b hb
    exact ⟨by show b < W.heap.size; omega, fun e => by
      injection e with e
      have e' : b = w.heap.size + 1 + 1 + 1 := e
      omega⟩, by show L.length ≤ 1000000; omega⟩
  have HC := Asd.mk (labels_any hR HE.out hl)
  have K1 := Asd.mk k1; have K2 := Asd.mk k2; have K3 := Asd.mk k3; have HB := Asd.mk hbW; have HZ := Asd.mk hz; have HW := Asd.mk hW
  clear k1 k2 k3 k4 hbW hR hz hW
  cases hres : labelsS L with
  | ok out =>
    have HC2 := HC
    simp only [hres] at HC2
    clear HC hres
    go_enter_defers Try.func65, Try.ntmps65
    go_wp2_with fail
    rw [← HW.out]
    refine HC2.out.mono ?_
    rintro e w5 ⟨v, rfl, hown, hg⟩
    obtain ⟨A', c', rfl, -⟩ := hown.sl
    have g1 := K1.out.grown hg (by simp; omega)
    have g2 := K2.out.grown hg (by simp)
    have g3 := K3.out.grown hg (by simp)
    have c1 := g1.cell 0
    have c2 := g2.cell 0
    have c3 := g3.cell 0
    have f1 := g1.free 0
    have f2 := g2.free 0
    have f3 := g3.free 0
    have G1 := Asd.mk g1; have G2 := Asd.mk g2; have G3 := Asd.mk g3; have HO := Asd.mk hown; have HG := Asd.mk hg
    clear g1 g2 g3 hown hg
    go_wp2_with fail
    refine leaves_cons (f := 90) (args := #[.pointer (some ⟨w.heap.size, 0, none⟩), .pointer (some ⟨w.heap.size + 1, 0, none⟩), .pointer (some ⟨w.heap.size + 1 + 1, 0, none⟩)]) (by simp) (by simp [go_sem]) ?_
    refine (catch_idle ⟨w.heap.size, 0, none⟩ ⟨w.heap.size + 1, 0, none⟩ ⟨w.heap.size + 1 + 1, 0, none⟩ _).mono ?_
    rintro e u' w'' ⟨rfl, rfl, hw⟩
    have hsz := HG.out.size
    have hz := HZ.out
    have q1 : Blk w'' w.heap.size 37 #[.slice A' out.length c'] := by
      rw [hw]; exact ((G1.out.set_ 0 _).far (by simp) _).far (by simp; omega) _
    have q2 : Blk w'' (w.heap.size + 1) 28 #[.int .i64 0] := by
      rw [hw]; exact (((G2.out.far (by simp) _).set_ 0 _).far (by simp) _)
    have q3 : Blk w'' (w.heap.size + 1 + 1) 3 #[.int .i64 0] := by
      rw [hw]; exact (((G3.out.far (by simp; omega) _).far (by simp) _).set_ 0 _)
    have hlt := HO.out.lt
    have ho : ∀ k, k < W.heap.size → some k ≠ (Value.slice A' out.length c').ownBlock := fun k hk e => by have := (hlt k e.symm).1; omega
    have hown : Own rPrm w'' NoB w.heap.size 56 (.slice A' out.length c') out.length out := by
      rw [hw]
      exact ((((HO.out.set_ (p := ⟨w.heap.size, 0, none⟩) (ho (w.heap.size) (by omega)) (fun _ h => h.elim) _).set_ (p := ⟨w.heap.size + 1, 0, none⟩) (ho (w.heap.size + 1) (by omega)) (fun _ h => h.elim) _).set_ (p := ⟨w.heap.size + 1 + 1, 0, none⟩) (ho (w.heap.size + 1 + 1) (by omega)) (fun _ h => h.elim) _).lower (by omega))
    have hbb : Below w.heap.size w w'' := by
      rw [hw]
      exact (((HB.out.grown HG.out HB.out.size (fun k hk => by injection hk with hk; have hk' : w.heap.size + 1 + 1 + 1 = k := hk; omega)).setCell (by simp) _).setCell (by simp) _).setCell (by simp; omega) _
    clear hw
    have c1 := q1.cell 0
    have c2 := q2.cell 0
    have c3 := q3.cell 0
    refine ⟨.tuple #[.slice A' out.length c', .int .i64 0, .int .i64 0], ?_, ⟨_, rfl, hown, hbb⟩⟩
    simp [results, Try.results65, go_sem, c1, c2, c3]
  | bad er a =>
    have HC2 := HC
    simp only [hres] at HC2
    clear HC hres
    go_enter_defers Try.func65, Try.ntmps65
    go_wp2_with fail
    rw [← HW.out]
    refine HC2.out.mono ?_
    rintro e w5 ⟨rfl, hg⟩
    have g1 := K1.out.grown hg (by simp; omega)
    have g2 := K2.out.grown hg (by simp)
    have g3 := K3.out.grown hg (by simp)
    have HG := Asd.mk hg
    have hsz := hg.size
    have hz := HZ.out
    refine leaves_cons (f := 90) (args := #[.pointer (some ⟨w.heap.size, 0, none⟩), .pointer (some ⟨w.heap.size + 1, 0, none⟩), .pointer (some ⟨w.heap.size + 1 + 1, 0, none⟩)]) (by simp) (by simp [go_sem]) ?_
    refine (catch_stop w.heap.size _ _ _ _ _ _ er a w5 g1 g2 g3 (Nat.le_refl _) (by omega) (by omega)).mono ?_
    rintro e u' w'' ⟨rfl, rfl, q1, q2, q3, hb⟩
    have c1 := q1.cell 0
    have c2 := q2.cell 0
    have c3 := q3.cell 0
    simp [Leaves, settle, results, Try.results65, go_sem, c1, c2, c3]
    exact ⟨rfl, (HB.out.grown HG.out HB.out.size (fun k hk => by injection hk with hk; have hk' : w.heap.size + 1 + 1 + 1 = k := hk; omega)).trans hb⟩
end Go.Proofs.Ythfoaehjnoiniaa
