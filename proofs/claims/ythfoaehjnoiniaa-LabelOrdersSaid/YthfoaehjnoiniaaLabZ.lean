/- aquiferlaw14.awake by its contract: it is true. -/
import Derived.Test.YthfoaehjnoiniaaLabY
import Derived.Test.YthfoaehjnoiniaaTexts
namespace Go.Proofs.Ythfoaehjnoiniaa
open Go.RowKit
set_option maxHeartbeats 4000000 in
set_option maxRecDepth 100000 in
theorem awake14_any (w : World) : Calls Try.prog 17 #[] w fun e w' => e = .returned (.bool true) ∧ Below w.heap.size w w' := by
  obtain ⟨L, hr, hn, hj, hlo, hhi⟩ := ex_read
  have HR := Asd.mk (readL_any exS w)
  rw [hr] at HR
  unfold exS at HR
  clear hr
  have NU := Asd.mk (fun V => num_any 0 V)
  go_enter Try.func17, Try.ntmps17
  go_wp2_with fail
  refine HR.out.mono ?_
  rintro e w1 ⟨v, rfl, ⟨S, A1, A2, A3, A4, c1, c2, c3, c4, hv, -⟩, hb⟩
  obtain rfl := hv.eq
  have hnm := hv.names
  have hjn := hv.join
  have hlt := hv.lt
  rw [hn] at hnm
  rw [hj] at hjn
  simp only at *
  rw [hn, hj, hlo, hhi]
  clear hv HR
  generalize L.le.length = q2
  generalize L.meet.length = q4
  simp only [List.length_cons, List.length_nil, Nat.zero_add]
  have hbA : Below w1.heap.size w1 (w1.alloc (.cells #[.slice A1 2 c1, .slice A2 q2 c2, .slice A3 2 c3, .slice A4 q4 c4, .int .i64 1, .int .i64 0] 42)) := (Below.refl _ _).alloc (Nat.le_refl _) _
  have HP : Asd (∀ V, Below w1.heap.size w1 V → Calls Try.prog 23 #[.agg #[.slice A1 2 c1, .slice A2 q2 c2, .slice A3 2 c3, .slice A4 q4 c4, .int .i64 1, .int .i64 0], .string ⟨#[108, 111, 119]⟩] V fun e w' => e = .returned (.int .i64 1) ∧ Below V.heap.size V w') := ⟨fun V hV => by
    have := placeL_any A1 A2 A3 A4 2 c1 q2 c2 2 c3 q4 c4 1 0 [bHigh, bLow] bLow S V rfl (by omega) (fun b hb => Nat.lt_of_lt_of_le (hlt b hb) hV.size) (hnm.below hV hlt)
    rwa [ex_idx.1] at this⟩
  have HQ : Asd (∀ V, Below w1.heap.size w1 V → Calls Try.prog 23 #[.agg #[.slice A1 2 c1, .slice A2 q2 c2, .slice A3 2 c3, .slice A4 q4 c4, .int .i64 1, .int .i64 0], .string ⟨#[104, 105, 103, 104]⟩] V fun e w' => e = .returned (.int .i64 0) ∧ Below V.heap.size V w') := ⟨fun V hV => by
    have := placeL_any A1 A2 A3 A4 2 c1 q2 c2 2 c3 q4 c4 1 0 [bHigh, bLow] bHigh S V rfl (by omega) (fun b hb => Nat.lt_of_lt_of_le (hlt b hb) hV.size) (hnm.below hV hlt)
    rwa [ex_idx.2] at this⟩
  have HJ := Asd.mk hjn
  have HLT := Asd.mk hlt
  have HB := Asd.mk hb
  clear hnm hjn hlt hb hn hj hlo hhi
  have HX := Asd.mk (Blk.new w1 42 #[.slice A1 2 c1, .slice A2 q2 c2, .slice A3 2 c3, .slice A4 q4 c4, .int .i64 1, .int .i64 0])
  have HBA := Asd.mk hbA
  clear hbA
  go_wp2_with fail
  go_region_held3 (fun w' => w'.cell? ⟨w1.heap.size, 0, none⟩ = some (.slice A1 2 c1) ∧ w'.cell? ⟨w1.heap.size, 1, none⟩ = some (.slice A2 q2 c2) ∧ w'.cell? ⟨w1.heap.size, 2, none⟩ = some (.slice A3 2 c3) ∧ w'.cell? ⟨w1.heap.size, 3, none⟩ = some (.slice A4 q4 c4) ∧ w'.cell? ⟨w1.heap.size, 4, none⟩ = some (.int .i64 1) ∧ w'.cell? ⟨w1.heap.size, 5, none⟩ = some (.int .i64 0))
    (first
      | exact HX2.out.six.1
      | exact HX1.out.six.1
      | exact (HX.out.drewN 1).six.1
      | exact HX.out.six.1
      | fail)
    (first
      | ((go_at_call 23; refine (HP.out _ (below_drew' HBA.out 1)).mono ?_; rintro e w2 ⟨rfl, hb1⟩; have HX1 := Asd.mk ((HX.out.drewN 1).call hb1); have HB1 := Asd.mk (below_call (below_drew' HBA.out 1) hb1); clear hb1))
      | ((go_at_call 23; refine (HQ.out _ HB1.out).mono ?_; rintro e w3 ⟨rfl, hb2⟩; have HX2 := Asd.mk (HX1.out.call hb2); have HB2 := Asd.mk (below_call HB1.out hb2); clear hb2)))
  have hj3 := HJ.out.below HB2.out HLT.out
  obtain ⟨ad, u, rfl, -, ⟨A', c', hu, -, -, hs'⟩, hcu⟩ := hj3.at1 (i := 1) (x := [0, 1]) rfl rfl
  injection hu with hu _
  subst hu
  obtain ⟨ad', rfl, -, hci⟩ := hs'.int (i := 0) (by decide)
  have hci2 : w3.cell? ad' = some (.int .i64 0) := by have h := hci; rwa [add_zero'] at h
  obtain ⟨⟨r0, r1, r2, r3, r4, r5⟩, -⟩ := HX2.out.six
  clear hj3 hs'
  simp only [List.length_cons, List.length_nil, Nat.zero_add] at hcu
  have hcu2 : w3.cell? ⟨ad.block, ad.off + 1, none⟩ = some (.slice (some ad') 2 c') := by simpa [Addr.add] using hcu
  go_wp2_with (go_at_call 11; refine (NU.out _).mono ?_; rintro e w4 ⟨rfl, rfl⟩)
  go_ret
  exact ⟨rfl, below_call HB.out HB2.out⟩
end Go.Proofs.Ythfoaehjnoiniaa
