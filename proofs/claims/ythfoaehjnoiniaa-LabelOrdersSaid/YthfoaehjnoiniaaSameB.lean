/- aquiferref14.SameLattice, where both are one: it is true. -/
import Derived.Test.YthfoaehjnoiniaaSameA
namespace Go.Proofs.Ythfoaehjnoiniaa
open Go.RowKit
set_option maxHeartbeats 4000000 in
set_option maxRecDepth 100000 in
theorem sameLat_same (v1 v2 : Value) (L : Lat) (w : World) (b1 b2 : Nat) (h1 : LatR b1 w v1 L) (h2 : LatR b2 w v2 L) :
    Calls Try.prog 20 #[v1, v2] w fun e w' => e = .returned (.bool true) ∧ Below w.heap.size w w' := by
  obtain ⟨S, A1, A2, A3, A4, c1, c2, c3, c4, hv, -⟩ := h1
  obtain ⟨S', B1, B2, B3, B4, d1, d2, d3, d4, hu, -⟩ := h2
  obtain rfl := hv.eq
  obtain rfl := hu.eq
  obtain ⟨m1, m2, m3, m4⟩ := hv.small
  obtain ⟨W, hW⟩ : ∃ W, W = (w.alloc (.cells #[.slice A1 L.names.length c1, .slice A2 L.le.length c2, .slice A3 L.join.length c3, .slice A4 L.meet.length c4, .int .i64 L.low, .int .i64 L.high] 42)).alloc (.cells #[.slice B1 L.names.length d1, .slice B2 L.le.length d2, .slice B3 L.join.length d3, .slice B4 L.meet.length d4, .int .i64 L.low, .int .i64 L.high] 42) := ⟨_, rfl⟩
  have hb : Below w.heap.size w W := by rw [hW]; exact ((Below.refl _ _).alloc (Nat.le_refl _) _).alloc (by simp) _
  have k1 : Blk W w.heap.size 42 #[.slice A1 L.names.length c1, .slice A2 L.le.length c2, .slice A3 L.join.length c3, .slice A4 L.meet.length c4, .int .i64 L.low, .int .i64 L.high] := by rw [hW]; exact (Blk.new _ _ _).alloc _
  have k2 : Blk W (w.heap.size + 1) 42 #[.slice B1 L.names.length d1, .slice B2 L.le.length d2, .slice B3 L.join.length d3, .slice B4 L.meet.length d4, .int .i64 L.low, .int .i64 L.high] := by rw [hW]; exact two_new' _ _ _ _
  have hvW := hv.below hb
  have huW := hu.below hb
  have HT := Asd.mk (texts_any A1 B1 L.names.length L.names.length c1 d1 L.names L.names S S' W rfl rfl (by omega) (by omega) hvW.lt huW.lt hvW.names huW.names)
  rw [show decide (L.names = L.names) = true from by simp] at HT
  have n1 : (L.low != L.low) = false := by simp
  have n2 : (L.high != L.high) = false := by simp
  have n3 : ((L.le.length : Int) != (L.le.length : Int)) = false := by simp
  have n4 : ((L.join.length : Int) != (L.join.length : Int)) = false := by simp
  have n5 : ((L.meet.length : Int) != (L.meet.length : Int)) = false := by simp
  have HV := Asd.mk hvW; have HU := Asd.mk huW; have HB := Asd.mk hb; have K1 := Asd.mk k1; have K2 := Asd.mk k2; have HWW := Asd.mk hW
  clear hv hu hvW huW hb k1 k2 hW
  generalize hl2 : L.le.length = q2 at *
  have HL2 := Asd.mk hl2
  clear hl2
  generalize hl3 : L.join.length = q3 at *
  have HL3 := Asd.mk hl3
  clear hl3
  generalize hl4 : L.meet.length = q4 at *
  have HL4 := Asd.mk hl4
  clear hl4
  go_enter Try.func20, Try.ntmps20
  go_wp2_with fail
  rw [← HWW.out]
  refine HT.out.mono ?_
  rintro e w1 ⟨rfl, hb1⟩
  have j1 := K1.out.call hb1
  have j2 := K2.out.call hb1
  obtain ⟨⟨r0, r1, r2, r3, r4, r5⟩, -⟩ := j1.six
  obtain ⟨⟨s0, s1, s2, s3, s4, s5⟩, -⟩ := j2.six
  have J1 := Asd.mk j1; have J2 := Asd.mk j2
  have HV1 := Asd.mk (HV.out.below hb1); have HU1 := Asd.mk (HU.out.below hb1)
  have HB1 := Asd.mk (below_call HB.out hb1)
  clear j1 j2 hb1 HT HV HU HB K1 K2 HWW
  go_wp2_with fail
  clear r0 r1 r2 r3 r4 r5 s0 s1 s2 s3 s4 s5
  obtain ⟨wo, hz⟩ : ∃ wo, wo = w1 := ⟨_, rfl⟩
  subst hz
  go_loopg [5] q2 (fun gk iv wr => ∃ i : Nat, i ≤ q2 ∧ gk = q2 - i ∧ iv = .int .i64 i ∧ Asd (Below wo.heap.size wo wr))
  case atStart => exact ⟨0, Nat.zero_le _, rfl, rfl, ⟨Below.refl _ _⟩⟩
  case round =>
    obtain ⟨i, hi, rfl, rfl, HBr⟩ := hrel
    have hi0 : (0 : Int) ≤ (i : Int) := Int.natCast_nonneg _
    obtain ⟨⟨r0, r1, r2, r3, r4, r5⟩, -⟩ := (J1.out.call HBr.out).six
    obtain ⟨⟨s0, s1, s2, s3, s4, s5⟩, -⟩ := (J2.out.call HBr.out).six
    by_cases hin : i < q2
    · have hin' : (i : Int) < (q2 : Int) := by omega
      obtain ⟨r, hr⟩ : ∃ r, L.le[i]? = some r := ⟨_, List.getElem?_eq_getElem (by have := HL2.out; omega)⟩
      have HX := Asd.mk HV1.out.le; have HY := Asd.mk HU1.out.le
      obtain ⟨ad, A', ca, e1, g0, hm, -⟩ := (HX.out.below HBr.out HV1.out.lt).rowB hr
      obtain ⟨bd, B', cb, e2, g1, -, -⟩ := (HY.out.below HBr.out HU1.out.lt).rowB hr
      subst e1 e2
      have HR := Asd.mk hr
      generalize hml : r.length = m at *
      have HML := Asd.mk hml
      clear hml hr
      unfold maxLen at hm
      have hmm : ((m : Int) != (m : Int)) = false := by simp
      go_wp2
      go_quiet (fail)
      go_wp2
      clear g0 g1 r0 r1 r2 r3 r4 r5 s0 s1 s2 s3 s4 s5
      go_loopg [6] m (fun gk kv wr => ∃ k : Nat, k ≤ m ∧ gk = m - k ∧ kv = .int .i64 k ∧ Asd (Below wo.heap.size wo wr))
      case atStart => exact ⟨0, Nat.zero_le _, rfl, rfl, ⟨below_drew' HBr.out _⟩⟩
      case round =>
        clear HBr
        obtain ⟨k, hk, rfl, rfl, HBr⟩ := hrel
        have hk0 : (0 : Int) ≤ (k : Int) := Int.natCast_nonneg _
        obtain ⟨⟨r0, r1, r2, r3, r4, r5⟩, -⟩ := (J1.out.call HBr.out).six
        obtain ⟨⟨s0, s1, s2, s3, s4, s5⟩, -⟩ := (J2.out.call HBr.out).six
        obtain ⟨ad2, A9, ca2, e1, g0, -, hs0⟩ := (HX.out.below HBr.out HV1.out.lt).rowB HR.out
        obtain ⟨bd2, B9, cb2, e2, g1, -, hs1⟩ := (HY.out.below HBr.out HU1.out.lt).rowB HR.out
        injection e1 with e1
        injection e2 with e2
        subst e1 e2
        rw [HML.out] at g0 g1
        by_cases hkm : k < m
        · have hkm' : (k : Int) < (m : Int) := by omega
          obtain ⟨ad3, rfl, -, h0⟩ := hs0.bool (i := k) (by have := HML.out; omega)
          obtain ⟨bd3, rfl, -, h1⟩ := hs1.bool (i := k) (by have := HML.out; omega)
          generalize r[k]'(by have := HML.out; omega) = z at h0 h1
          have hzz : (z != z) = false := by simp
          clear hs0 hs1
          go_wp2
          go_quiet (fail)
          go_wp2
          go_roundg (m - (k + 1))
          case rel => exact ⟨k + 1, by omega, rfl, by go_num, ⟨below_drew' HBr.out _⟩⟩
          case measure => omega
        · clear hs0 hs1
          go_wp2
          go_roundg (q2 - (i + 1))
          case rel => exact ⟨i + 1, by omega, rfl, by go_num, HBr⟩
          case measure => omega
    · have HI1 := Asd.mk (ints_same A3 B3 q3 c3 d3 L.join S S' wr HL3.out (by omega) (HV1.out.below HBr.out).lt (HU1.out.below HBr.out).lt (HV1.out.below HBr.out).join (HU1.out.below HBr.out).join)
      go_wp2_with fail
      refine HI1.out.mono ?_
      rintro e w2 ⟨rfl, hb2⟩
      have hbb := below_call HBr.out hb2
      have HI2 := Asd.mk (ints_same A4 B4 q4 c4 d4 L.meet S S' w2 HL4.out (by omega) (HV1.out.below hbb).lt (HU1.out.below hbb).lt (HV1.out.below hbb).meet (HU1.out.below hbb).meet)
      clear r0 r1 r2 r3 r4 r5 s0 s1 s2 s3 s4 s5
      obtain ⟨⟨r0, r1, r2, r3, r4, r5⟩, -⟩ := (J1.out.call hbb).six
      obtain ⟨⟨s0, s1, s2, s3, s4, s5⟩, -⟩ := (J2.out.call hbb).six
      have HBB := Asd.mk hbb
      clear hbb hb2
      go_wp2_with fail
      refine HI2.out.mono ?_
      rintro e w3 ⟨rfl, hb3⟩
      go_wp2_with fail
      go_ret
      exact ⟨rfl, below_call (below_call HB1.out HBB.out) hb3⟩
end Go.Proofs.Ythfoaehjnoiniaa
