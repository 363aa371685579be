/- aquiferlaw14.pairs by its contract. -/
import Derived.Test.YthfoaehjnoiniaaParL
import Derived.Deep.RegionLaw
import Derived.IntWalk
namespace Go.Proofs.Ythfoaehjnoiniaa
open Go.RowKit
def lt6 (x : Int) : ByteArray := strOfNums [97 + x % 6]
def prOf (x y : Int) : Prm := (lt6 x, lt6 y, 0)
def pairsK (ns : List Int) (j : Nat) : List Prm := (List.range j).map fun q => prOf (ns.getD (2 * q) 0) (ns.getD (2 * q + 1) 0)
def pairsS (ns : List Int) : List Prm := pairsK ns (ns.length / 2)
theorem pairsK_succ (ns : List Int) (j : Nat) : pairsK ns (j + 1) = pairsK ns j ++ [prOf (ns.getD (2 * j) 0) (ns.getD (2 * j + 1) 0)] := by
  unfold pairsK; rw [List.range_succ, List.map_append]; rfl
theorem pairsK_len (ns : List Int) (j : Nat) : (pairsK ns j).length = j := by simp [pairsK]
theorem convB (W : World) (g : Nat) (n : Int) (h : Blk W g 5 #[.int .u8 n]) : (convert 22 9 (.slice (some ⟨g, 0, none⟩) 1 1)).run Try.prog W = .ok (.string (strOfNums [n])) W :=
  run_convert_bytes_arg _ 22 5 Try.underlying22 Try.underlying5 g 0 1 1 [n] rfl (fun i hi => by
    obtain rfl : i = 0 := by omega
    rw [Nat.zero_add, h.cell]; rfl) 9 Try.underlying9
theorem three_new (W : World) (o o' : Obj) (cs : Array Value) (e : TypeId) : (((W.alloc o).alloc o').alloc (.cells cs e)).heap[W.heap.size + 1 + 1]? = some (.cells cs e (0, 0)) := by
  have h := heap_alloc_new ((W.alloc o).alloc o') (.cells cs e)
  simpa using h
set_option maxHeartbeats 2000000 in
set_option maxRecDepth 100000 in
theorem pairs_any (A : Option Addr) (m c : Nat) (ns : List Int) (S : Nat → Prop) (w : World) (hm : ns.length = m) (hmb : m ≤ 1000) (hS : ∀ b, S b → b < w.heap.size) (hr : Sl (rInt .u8) w S A ns) (hns : ∀ x, x ∈ ns → 0 ≤ x ∧ x ≤ 255) :
    Calls Try.prog 25 #[.slice A m c] w fun e w' => ∃ v, e = .returned v ∧ Own rPrm w' NoB w.heap.size 56 v (m / 2) (pairsS ns) ∧ Below w.heap.size w w' := by
  have HM := Asd.mk hm; have HR := Asd.mk hr; have HS := Asd.mk hS; have HNS := Asd.mk hns
  clear hm hr hS hns
  go_enter Try.func25, Try.ntmps25
  go_wp2
  go_loopg [3, 4] m (fun gk v iv wr => ∃ q : Nat, 2 * q ≤ m ∧ gk = m - 2 * q ∧ iv = .int .i64 (2 * q : Nat) ∧ Asd (Below w.heap.size w wr) ∧ Asd (Own rPrm wr NoB w.heap.size 56 v q (pairsK ns q)))
  case atStart => exact ⟨0, Nat.zero_le _, rfl, rfl, ⟨Below.refl _ _⟩, ⟨Own.nil rPrm _ (fun _ h => h.elim) _ _⟩⟩
  case round =>
    obtain ⟨q, hq, rfl, rfl, HB, HO⟩ := hrel
    obtain ⟨i, hi⟩ : ∃ i, i = 2 * q := ⟨_, rfl⟩
    rw [← hi]
    have HI := Asd.mk hi
    have hi0 : (0 : Int) ≤ (i : Int) := Int.natCast_nonneg _
    have hqi : q ≤ i := by omega
    have him : i ≤ m := by omega
    clear hi hq
    by_cases hlt : i + 1 < m
    · have hlt1 : (i : Int) + 1 < (m : Int) := by omega
      have hlt2 : (i : Int) < (m : Int) := by omega
      obtain ⟨ad, rfl, _, g0⟩ := (HR.out.below HB.out HS.out).int (i := i) (by have := HM.out; omega)
      obtain ⟨ad', e1, _, g1⟩ := (HR.out.below HB.out HS.out).int (i := i + 1) (by have := HM.out; omega)
      injection e1 with e1
      subst e1
      have hx : ns[i]'(by have := HM.out; omega) = ns.getD (2 * q) 0 := by rw [← HI.out, List.getD_eq_getElem?_getD, List.getElem?_eq_getElem (by have := HM.out; omega)]; rfl
      have hy : ns[i + 1]'(by have := HM.out; omega) = ns.getD (2 * q + 1) 0 := by rw [← HI.out, List.getD_eq_getElem?_getD, List.getElem?_eq_getElem (by have := HM.out; omega)]; rfl
      obtain ⟨x0, x1⟩ := HNS.out _ (List.getElem_mem (show i < ns.length by have := HM.out; omega))
      obtain ⟨y0, y1⟩ := HNS.out _ (List.getElem_mem (show i + 1 < ns.length by have := HM.out; omega))
      have hP := pairsK_succ ns q
      rw [← hx, ← hy] at hP
      have HP := Asd.mk hP
      clear hx hy hP
      generalize ns[i]'(by have := HM.out; omega) = x at *
      generalize ns[i + 1]'(by have := HM.out; omega) = y at *
      have hm1 : x.tmod 6 = x % 6 := Int.tmod_eq_emod_of_nonneg x0
      have hm2 : y.tmod 6 = y % 6 := Int.tmod_eq_emod_of_nonneg y0
      obtain ⟨a, ha⟩ : ∃ a, a = 97 + x % 6 := ⟨_, rfl⟩
      obtain ⟨b, hb⟩ : ∃ b, b = 97 + y % 6 := ⟨_, rfl⟩
      have hu1 : IntKind.u8.wrap (97 + x % 6) = a := by rw [IntKind.wrap_u8]; omega
      have hu2 : IntKind.u8.wrap (97 + y % 6) = b := by rw [IntKind.wrap_u8]; omega
      have hs1 : IntKind.i64.wrap ((i : Int) + 1) = (i : Int) + 1 := IntWalk.i64_in _ (by omega)
      have hs2 : (0 : Int) ≤ (i : Int) + 1 := by omega
      have hs4 : ((i : Int) + 1).toNat = i + 1 := by omega
      have HA := Asd.mk ha; have HBb := Asd.mk hb
      clear ha hb
      have v1 : ∀ z, (convert 22 9 (.slice (some ⟨wr.heap.size, 0, none⟩) 1 1)).run Try.prog (World.drew (wr.alloc (.cells #[.int .u8 z] 5))) = .ok (.string (strOfNums [z])) (World.drew (wr.alloc (.cells #[.int .u8 z] 5))) := fun z => convB _ _ z (Blk.new wr _ _)
      have v2 : ∀ z z', (convert 22 9 (.slice (some ⟨wr.heap.size, 0, none⟩) 1 1)).run Try.prog (World.drew ((wr.alloc (.cells #[.int .u8 z] 5)).alloc (.cells #[.int .u8 z'] 5))) = .ok (.string (strOfNums [z])) (World.drew ((wr.alloc (.cells #[.int .u8 z] 5)).alloc (.cells #[.int .u8 z'] 5))) := fun z z' => convB _ _ z ((Blk.new wr _ _).alloc _)
      have v3 : ∀ z z', (convert 22 9 (.slice (some ⟨wr.heap.size + 1, 0, none⟩) 1 1)).run Try.prog (World.drew ((wr.alloc (.cells #[.int .u8 z] 5)).alloc (.cells #[.int .u8 z'] 5))) = .ok (.string (strOfNums [z'])) (World.drew ((wr.alloc (.cells #[.int .u8 z] 5)).alloc (.cells #[.int .u8 z'] 5))) := fun z z' => convB _ _ z' (two_new' wr _ _ _)
      have g1' : wr.cell? ⟨ad.block, ad.off + (i + 1), none⟩ = some (.int .u8 y) := by simpa [Addr.add] using g1
      clear g1
      have hbl : ad.block < wr.heap.size := World.block_lt_of_cell? wr ⟨ad.block, ad.off + (i + 1), none⟩ g1'
      have hbl0 : (ad.add i).block < wr.heap.size := by rw [show (ad.add i).block = ad.block by unfold Addr.add; split <;> rfl]; exact hbl
      have c1 : ∀ o, (wr.alloc o).cell? (ad.add i) = some (.int .u8 x) := fun o => (World.cell?_alloc_lt wr o (ad.add i) hbl0).trans g0
      have c2 : ∀ o o', ((wr.alloc o).alloc o').cell? (ad.add i) = some (.int .u8 x) := fun o o' => (World.cell?_alloc_lt (wr.alloc o) o' (ad.add i) (by rw [World.size_alloc]; omega)).trans (c1 o)
      have hbn1 : ¬ wr.heap.size = ad.block := by omega
      have hbn2 : ¬ wr.heap.size + 1 = ad.block := by omega
      have hbn3 : ¬ ad.block = wr.heap.size := by omega
      have hbn4 : ¬ ad.block = wr.heap.size + 1 := by omega
      have hO := HO.out
      have hsz := HB.out.size
      go_wp2
      go_region_law
        ((refine step_app1 (by rfl) (.tmp 12) _ _ (by rfl) E_prm (by rfl) (((((hO.alloc _).alloc _).alloc _).drewN 1) : Own rPrm (World.drew _) NoB w.heap.size 56 u3 q (pairsK ns q)) ⟨wr.heap.size + 1 + 1, 0, none⟩ (strOfNums [a], strOfNums [b], 0) [.string (strOfNums [a]), .string (strOfNums [b]), .int .i64 0] (by rfl) (news_at (cs := #[.string (strOfNums [a]), .string (strOfNums [b]), .int .i64 0]) (three_new wr _ _ _ _)) (by simp [Value.oneCell']) 1 (by rfl) (by omega) (by simp only [maxLen]; omega) (by simp; omega) ?_; intro g1 cap1 w1 hown1 hg1 hat1))
      all_goals
        clear v1 v2 v3 hm1 hm2 hu1 hu2 hs1 hs2 hs4 g0 g1'
        have hgw := grown_alloc (grown_two_drew hg1)
        have HB2 := Asd.mk (HB.out.grown hgw hsz (fun k hk => (hO.lt k hk).1))
        have HO2 := Asd.mk hown1
        rw [HA.out, HBb.out, show ((strOfNums [97 + x % 6], strOfNums [97 + y % 6], 0) : Prm) = prOf x y from rfl, ← HP.out] at HO2
        clear hown1 hg1 hat1 hgw hO
        go_wp2
        go_roundg (m - 2 * (q + 1))
        case rel => exact ⟨q + 1, by have := HI.out; omega, rfl, by have := HI.out; subst this; go_num, HB2, HO2⟩
        case measure => have := HI.out; omega
    · have hqm : q = m / 2 := by have := HI.out; omega
      have HQM := Asd.mk hqm
      clear hqm
      have hlt1 : ¬ (i : Int) + 1 < (m : Int) := by omega
      go_wp2
      go_ret
      refine ⟨_, rfl, ?_, HB.out⟩
      have h := HO.out
      unfold pairsS
      rw [HM.out, ← HQM.out]
      exact h
end Go.Proofs.Ythfoaehjnoiniaa
