/- label.Read by its contract. -/
import Derived.Test.YthfoaehjnoiniaaParT
import Derived.Test.YthfoaehjnoiniaaLabV
import Derived.Test.YthfoaehjnoiniaaLabX
import Derived.Test.YthfoaehjnoiniaaLabQ
namespace Go.Proofs.Ythfoaehjnoiniaa
open Go.RowKit
def ReadLPost (r : Lat × Int × Nat) (w : World) (e : Ending) (w' : World) : Prop := ∃ v, e = .returned (.tuple #[v, .int .i64 r.2.1, .int .i64 r.2.2]) ∧ LatR w.heap.size w' v r.1 ∧ Below w.heap.size w w'
set_option maxHeartbeats 4000000 in
set_option maxRecDepth 100000 in
theorem readL_any (s : ByteArray) (w : World) : Calls Try.prog 21 #[.string s] w (ReadLPost (readS s) w) := by
  have hb0 : Below w.heap.size w (w.alloc (.cells #[.slice none 0 0, .slice none 0 0, .slice none 0 0, .slice none 0 0, .int .i64 0, .int .i64 0] 42)) := (Below.refl _ _).alloc (Nat.le_refl _) _
  have hR0 : Blk (w.alloc (.cells #[.slice none 0 0, .slice none 0 0, .slice none 0 0, .slice none 0 0, .int .i64 0, .int .i64 0] 42)) w.heap.size 42 #[.slice none 0 0, .slice none 0 0, .slice none 0 0, .slice none 0 0, .int .i64 0, .int .i64 0] := Blk.new _ _ _
  have HL := Asd.mk (parseLabels_any s (w.alloc (.cells #[.slice none 0 0, .slice none 0 0, .slice none 0 0, .slice none 0 0, .int .i64 0, .int .i64 0] 42)))
  obtain ⟨hbad, hok⟩ := labelsOf_len s
  have HB0 := Asd.mk hb0; have HR0 := Asd.mk hR0
  clear hb0 hR0
  cases hres : labelsOf s with
  | bad e a =>
    have hrs : readS s = (Lat.zero, e, a) := by unfold readS; rw [hres]
    have hne : (e != 0) = true := by simpa using hbad e a hres
    rw [hrs]
    rw [hres] at HL
    clear hres hbad hok hrs
    go_enter Try.func21, Try.ntmps21
    go_wp2_with fail
    refine HL.out.mono ?_
    rintro e' w1 ⟨rfl, hb⟩
    obtain ⟨⟨r0, r1, r2, r3, r4, r5⟩, z0, z1, z2, z3, z4, z5⟩ := (HR0.out.call hb).six
    have HBW := Asd.mk (below_call HB0.out hb)
    clear hb
    go_wp2_with fail
    refine bodyPost_ret (v := .tuple #[zeroV, .int .i64 e, .int .i64 a]) (by simp [zeroV, results, Try.results21, go_sem, r0, r1, r2, r3, r4, r5]) rfl ?_
    exact ⟨_, rfl, LatR.zero _ _, sets6_below HBW.out (Nat.le_refl _) _ _ _ _ _ _⟩
  | ok out =>
    have hlen := hok out hres
    have hrs : readS s = ((makeS out).1, (makeS out).2, 0) := by unfold readS; rw [hres]
    rw [hrs]
    rw [hres] at HL
    clear hres hbad hok hrs
    go_enter Try.func21, Try.ntmps21
    go_wp2_with fail
    refine HL.out.mono ?_
    rintro e' w1 ⟨v, rfl, hown, hb⟩
    obtain ⟨A, c, rfl, -, -, hsl⟩ := hown.sl
    have HM := Asd.mk (make_any A out.length c out _ w1 rfl (by omega) (fun b hb => by
      rcases hb with hb | hb
      · exact hb.elim
      · exact (hown.lt b hb.symm).2) hsl)
    have HR1 := Asd.mk (HR0.out.call hb)
    have HBW := Asd.mk (below_call HB0.out hb)
    clear hb hown hsl HL
    generalize makeS out = ms at *
    obtain ⟨L, er⟩ := ms
    go_wp2_with fail
    refine HM.out.mono ?_
    rintro e' w2 ⟨v, rfl, ⟨S, A1, A2, A3, A4, c1, c2, c3, c4, hv, hSb⟩, hb⟩
    obtain rfl := hv.eq
    have hR2 := HR1.out.call hb
    have HR2 := Asd.mk hR2
    have HBW2 := Asd.mk (below_call HBW.out hb)
    have HV := Asd.mk hv
    have hz2 := hR2.lt
    obtain ⟨⟨r0, r1, r2, r3, r4, r5⟩, z0, z1, z2, z3, z4, z5⟩ := hR2.six
    have hne : ¬ w.heap.size = w2.heap.size := by omega
    have hne' : ¬ w2.heap.size = w.heap.size := by omega
    have HSB := Asd.mk (fun b hb => Nat.lt_of_lt_of_le HR1.out.lt (hSb b hb))
    clear hb hv HM hR2 hSb
    go_wp2_with fail
    have hB6 : Blk ((sets6 w2 w.heap.size (.slice A1 L.names.length c1) (.slice A2 L.le.length c2) (.slice A3 L.join.length c3) (.slice A4 L.meet.length c4) (.int .i64 L.low) (.int .i64 L.high)).alloc (.cells #[.slice A1 L.names.length c1, .slice A2 L.le.length c2, .slice A3 L.join.length c3, .slice A4 L.meet.length c4, .int .i64 L.low, .int .i64 L.high] 42)) w.heap.size 42 #[.slice A1 L.names.length c1, .slice A2 L.le.length c2, .slice A3 L.join.length c3, .slice A4 L.meet.length c4, .int .i64 L.low, .int .i64 L.high] := (((((((HR2.out.set_ 0 _).set_ 1 _).set_ 2 _).set_ 3 _).set_ 4 _).set_ 5 _).alloc _)
    obtain ⟨⟨t0, t1, t2, t3, t4, t5⟩, -⟩ := hB6.six
    refine bodyPost_ret (v := .tuple #[.agg #[.slice A1 L.names.length c1, .slice A2 L.le.length c2, .slice A3 L.join.length c3, .slice A4 L.meet.length c4, .int .i64 L.low, .int .i64 L.high], .int .i64 er, .int .i64 0]) (by simp [results, Try.results21, go_sem, t0, t1, t2, t3, t4, t5]) rfl ?_
    refine ⟨_, rfl, ⟨_, _, _, _, _, _, _, _, _, HV.out.keep (fun b hb => (Below.heap_alloc _ _ b (by rw [sets6_size]; exact HV.out.lt b hb)).trans (sets6_keep _ _ _ _ _ _ _ _ (by have := HSB.out b hb; omega))) ?_, fun b hb => Nat.le_of_lt (HSB.out b hb)⟩, ?_⟩
    · simp [World.setCell]
    · exact (sets6_below HBW2.out (Nat.le_refl _) _ _ _ _ _ _).alloc (by rw [sets6_size]; omega) _
end Go.Proofs.Ythfoaehjnoiniaa
