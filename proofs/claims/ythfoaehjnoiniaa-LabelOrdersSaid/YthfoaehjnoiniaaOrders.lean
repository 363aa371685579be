/- aquiferlaw14.LabelOrders by its contract: it is true. -/
import Derived.Test.YthfoaehjnoiniaaOrdP
import Derived.Test.YthfoaehjnoiniaaPairs
import Derived.Test.YthfoaehjnoiniaaLabQ
import Derived.Test.YthfoaehjnoiniaaLabZ
import Derived.Test.YthfoaehjnoiniaaSameB
import Derived.BigQuiet
namespace Go.Proofs.Ythfoaehjnoiniaa
open Go.RowKit
theorem pairsK_ok (ns : List Int) (j : Nat) : ∀ p, p ∈ pairsK ns j → p.1.size ≠ 0 ∧ p.2.1.size ≠ 0 := by
  intro p hp
  unfold pairsK at hp
  obtain ⟨q, _, rfl⟩ := List.mem_map.1 hp
  exact ⟨by show (1 : Nat) ≠ 0; decide, by show (1 : Nat) ≠ 0; decide⟩
def prmCells (p : Prm) : List Value := [.string p.1, .string p.2.1, .int .i64 p.2.2]
theorem lit_prm2 {w : World} {e : TypeId} {g : Nat} {p : Prm} (hb : Blk w g e #[.string p.1, .string p.2.1, .int .i64 p.2.2, .string p.1, .string p.2.1, .int .i64 p.2.2]) (S : Nat → Prop) (hS : S g) : Sl rPrm w S (some ⟨g, 0, none⟩) [p, p] := fun i x hx => by
  have hc : ∀ j, w.cell? ((⟨g, 0, none⟩ : Addr).add j) = (#[.string p.1, .string p.2.1, .int .i64 p.2.2, .string p.1, .string p.2.1, .int .i64 p.2.2] : Array Value)[j]? := fun j => by rw [add_plain', Nat.zero_add, hb.cell]
  match i, hx with
  | 0, hx =>
    obtain rfl : p = x := by simpa using hx
    refine ⟨⟨g, 0, none⟩, prmCells p, rfl, hS, rfl, fun j u hu => ?_⟩
    rw [hc]
    match j, hu with
    | 0, hu => exact hu
    | 1, hu => exact hu
    | 2, hu => exact hu
  | 1, hx =>
    obtain rfl : p = x := by simpa using hx
    refine ⟨⟨g, 0, none⟩, prmCells p, rfl, hS, rfl, fun j u hu => ?_⟩
    rw [hc]
    match j, hu with
    | 0, hu => exact hu
    | 1, hu => exact hu
    | 2, hu => exact hu
set_option maxHeartbeats 4000000 in
set_option maxRecDepth 100000 in
theorem orders_any (A : Option Addr) (m c : Nat) (ns : List Int) (S : Nat → Prop) (w : World) (hm : ns.length = m) (_hmb : m ≤ maxLen) (hS : ∀ b, S b → b < w.heap.size) (hr : Sl (rInt .u8) w S A ns) (hns : ∀ x, x ∈ ns → 0 ≤ x ∧ x ≤ 255) :
    Calls Try.prog 7 #[.slice A m c] w fun e w' => e = .returned (.bool true) ∧ Below w.heap.size w w' := by
  by_cases h60 : 60 < m
  · have hd : (60 : Int) < (m : Int) := by omega
    have HA := Asd.mk (awake14_any w)
    clear hm hS hr hns
    go_enter Try.func7, Try.ntmps7
    go_wp2_with fail
    refine HA.out.mono ?_
    rintro e w1 ⟨rfl, hb⟩
    go_wp2_with fail
    go_ret
    exact ⟨rfl, hb⟩
  have hd : ¬ (60 : Int) < (m : Int) := by omega
  have HP := Asd.mk (pairs_any A m c ns S w hm (by omega) hS hr hns)
  have HOK := Asd.mk (pairsK_ok ns (ns.length / 2))
  have HLEN := Asd.mk (show (pairsS ns).length = m / 2 by unfold pairsS; rw [pairsK_len, hm])
  have HK := Asd.mk (show m / 2 ≤ 30 by omega)
  clear hm hS hr hns h60
  rw [show pairsK ns (ns.length / 2) = pairsS ns from rfl] at HOK
  generalize pairsS ns = l at *
  generalize m / 2 = k at *
  go_enter Try.func7, Try.ntmps7
  go_wp2_with fail
  refine HP.out.mono ?_
  rintro e w1 ⟨v, rfl, ho, hb1⟩
  obtain ⟨B, cv, rfl, hcv, hcm, hsl⟩ := ho.sl
  have hlt := ho.lt
  have HSL := Asd.mk (hsl.mono (S' := fun b => b < w1.heap.size) (fun b hb => (hlt b (hb.resolve_left (fun h => h)).symm).2))
  have HB1 := Asd.mk hb1
  clear hsl hlt ho hb1 HP
  have hk0 : (0 : Int) ≤ (k : Int) := Int.natCast_nonneg _
  have hk30 := HK.out
  have hw0 : wrap64 ((k : Int) - 1) = (k : Int) - 1 := IntWalk.wrap64_in _ (by omega)
  go_wp2
  go_loopg [4, 5] k (fun gk mv iv wr => ∃ s nn : Nat, s ≤ k ∧ gk = k - (k - s) ∧ iv = .int .i64 ((s : Int) - 1) ∧ nn + 2 * s = 2 * k ∧ Asd (Below w1.heap.size w1 wr) ∧ Asd (Own rPrm wr NoB w1.heap.size 56 mv nn (revDup (l.drop s))))
  case atStart => exact ⟨k, 0, Nat.le_refl _, by omega, by first | rfl | rw [hw0], by omega, ⟨Below.refl _ _⟩, ⟨by rw [List.drop_eq_nil_of_le (by have := HLEN.out; omega)]; exact Own.nil rPrm _ (fun _ h => h.elim) _ _⟩⟩
  case round =>
    obtain ⟨s, nn, hs, rfl, rfl, hnn, HB, HO⟩ := hrel
    by_cases h0 : 0 < s
    · obtain ⟨z, rfl⟩ : ∃ z, s = z + 1 := ⟨s - 1, by omega⟩
      have hz1 : (((z + 1 : Nat) : Int) - 1) = (z : Int) := by omega
      rw [hz1]
      have hz0 : (0 : Int) ≤ (z : Int) := Int.natCast_nonneg _
      have hzk : (z : Int) < (k : Int) := by omega
      have hw1 : wrap64 ((z : Int) - 1) = (z : Int) - 1 := IntWalk.wrap64_in _ (by omega)
      obtain ⟨p, hp⟩ : ∃ p, l[z]? = some p := ⟨_, List.getElem?_eq_getElem (by have := HLEN.out; omega)⟩
      obtain ⟨ad, rfl, hsb, p0, p1, p2⟩ := (HSL.out.below HB.out (fun b h => h)).prm hp
      have HSTEP := Asd.mk (revDup_step l hp)
      obtain ⟨x, y, t⟩ := p
      simp only at p0 p1 p2
      clear hp hz1 h0
      have hO := HO.out
      have hsz := HB.out.size
      go_wp2
      go_region_law
        ((refine step_appSl (m := 2) (by rfl) (.tmp 25) _ _ (by rfl) E_prm (by rfl) (((hO.alloc _).drewN 1) : Own rPrm (World.drew _) NoB w1.heap.size 56 u4 nn (revDup (l.drop (z + 1)))) (lit_prm2 (p := (x, y, t)) (((Blk.new wr 56 #[.string x, .string y, .int .i64 t, .string x, .string y, .int .i64 t])).drewN 1) (fun b => b = wr.heap.size) rfl) (by rfl) (fun q cs h => ⟨h, by rw [show cs = prmCells q from h]; simp [prmCells, Value.oneCell']⟩) (by rfl) (by omega) (by simp only [maxLen]; omega) (by simp; omega) ?_; intro v' w3 hv3 hg3 hat3 _))
      all_goals
        have hgw := grown_alloc_drew hg3
        have HB2 := Asd.mk (HB.out.grown hgw hsz (fun q hq => (hO.lt q hq).1))
        rw [← HSTEP.out] at hv3
        have HO2 := Asd.mk hv3
        clear hv3 hg3 hat3 hgw hO p0 p1 p2
        go_wp2
        go_roundg z
        case rel => exact ⟨z, nn + 2, by omega, by omega, by first | rfl | rw [hw1], by omega, HB2, HO2⟩
        case measure => omega
    · obtain rfl : s = 0 := by omega
      have hz0 : ¬ (0 : Int) ≤ (((0 : Nat) : Int) - 1) := by omega
      have hO1 := HO.out
      rw [List.drop_zero] at hO1
      have HO1 := Asd.mk hO1
      clear hO1 HO h0
      go_wp2
      obtain ⟨wz, hz⟩ : ∃ wz, wz = wr := ⟨_, rfl⟩
      subst hz
      go_loopg [4, 6] k (fun gk mv iv wr => ∃ i nx : Nat, i ≤ k ∧ gk = k - i ∧ iv = .int .i64 (i : Nat) ∧ nx ≤ 60 + i * 30 ∧ Asd (Below w1.heap.size w1 wr) ∧ Asd (Own rPrm wr NoB w1.heap.size 56 mv nx (revDup l ++ folA l i)))
      case atStart => exact ⟨0, nn, Nat.zero_le _, rfl, rfl, by omega, HB, ⟨by rw [folA_zero, List.append_nil]; exact HO1.out⟩⟩
      case round =>
        clear HB HO1
        obtain ⟨i, nx, hi, rfl, rfl, hnx, HB, HO⟩ := hrel
        have hi0 : (0 : Int) ≤ (i : Int) := Int.natCast_nonneg _
        by_cases hik : i < k
        · have hik' : (i : Int) < (k : Int) := by omega
          go_wp2
          have hO1 := HO.out
          rw [← List.append_nil (revDup l ++ folA l i), ← folI_zero l i] at hO1
          have HO1 := Asd.mk hO1
          clear hO1
          go_loopg [4, 7] k (fun gk mv kv wr => ∃ j ny : Nat, j ≤ k ∧ gk = k - j ∧ kv = .int .i64 (j : Nat) ∧ ny ≤ nx + j ∧ Asd (Below w1.heap.size w1 wr) ∧ Asd (Own rPrm wr NoB w1.heap.size 56 mv ny ((revDup l ++ folA l i) ++ folI l i j)))
          case atStart => exact ⟨0, nx, Nat.zero_le _, rfl, rfl, by omega, HB, HO1⟩
          case round =>
            clear HB HO1 HO
            obtain ⟨j, ny, hj, rfl, rfl, hny, HB, HO⟩ := hrel
            have hj0 : (0 : Int) ≤ (j : Int) := Int.natCast_nonneg _
            by_cases hjk : j < k
            · have hjk' : (j : Int) < (k : Int) := by omega
              obtain ⟨p, hp⟩ : ∃ p, l[i]? = some p := ⟨_, List.getElem?_eq_getElem (by have := HLEN.out; omega)⟩
              obtain ⟨q, hq⟩ : ∃ q, l[j]? = some q := ⟨_, List.getElem?_eq_getElem (by have := HLEN.out; omega)⟩
              obtain ⟨ad, rfl, hsb, p0, p1, -⟩ := (HSL.out.below HB.out (fun b h => h)).prm hp
              obtain ⟨ad', e1, -, q0, q1, -⟩ := (HSL.out.below HB.out (fun b h => h)).prm hq
              injection e1 with e1
              subst e1
              have HSTEP := Asd.mk (folI_succ l i j)
              have HONE := Asd.mk (show folOne l i j = if p.2.1 = q.1 then [(p.1, q.2.1, 0)] else [] by unfold folOne; rw [List.getD_eq_getElem?_getD, List.getD_eq_getElem?_getD, hp, hq]; rfl)
              obtain ⟨x, y, t⟩ := p
              obtain ⟨x', y', t'⟩ := q
              simp only at p0 p1 q0 q1 HONE
              clear hp hq
              have hO := HO.out
              have hsz := HB.out.size
              by_cases hxy : y = x'
              · subst hxy
                have hbl : (y.toList == y.toList) = true := by simp
                have h1 := HONE.out
                rw [if_pos rfl] at h1
                have h2 := HSTEP.out
                rw [h1] at h2
                have H2 := Asd.mk (congrArg (fun z => (revDup l ++ folA l i) ++ z) h2)
                have H3 := Asd.mk (H2.out.trans (List.append_assoc _ _ _).symm)
                clear h1 h2 H2 HSTEP HONE
                go_wp2
                go_quiet (fail)
                go_wp2
                generalize hW : World.drewN wr _ = wq
                have p0' : wq.cell? (ad.add (i * 3)) = some (.string x) := by rw [← hW]; exact p0
                have q1' : wq.cell? ⟨(ad.add (j * 3)).block, (ad.add (j * 3)).off + 1, none⟩ = some (.string y') := by rw [← hW]; exact q1
                have hO' : Own rPrm wq NoB w1.heap.size 56 u4 ny (revDup l ++ folA l i ++ folI l i j) := by rw [← hW]; exact hO.drewN _
                have HB' : Asd (Below w1.heap.size w1 wq) := ⟨by rw [← hW]; exact below_drew' HB.out _⟩
                have hsz' := HB'.out.size
                clear hW p0 p1 q0 q1 hO hsz hbl HO HB
                go_region_law
                  ((refine step_app1 (by rfl) (.tmp 59) _ _ (by rfl) E_prm (by rfl) (((hO'.alloc _).drewN 1) : Own rPrm (World.drew _) NoB w1.heap.size 56 u4 ny (revDup l ++ folA l i ++ folI l i j)) ⟨wq.heap.size, 0, none⟩ (x, y', 0) [.string x, .string y', .int .i64 0] (by rfl) (news_at (cs := #[.string x, .string y', .int .i64 0]) (heap_alloc_new wq _)) (by simp [Value.oneCell']) 1 (by rfl) (by omega) (by simp only [maxLen]; omega) (by simp; omega) ?_; intro g1 cap1 w3 hown1 hg1 hat1))
                all_goals
                  have hgw := grown_alloc_drew hg1
                  have HB2 := Asd.mk (HB'.out.grown hgw hsz' (fun q hq => (hO'.lt q hq).1))
                  rw [← H3.out] at hown1
                  have HO2 := Asd.mk hown1
                  clear hown1 hg1 hat1 hgw hO' p0' q1'
                  go_wp2
                  go_roundg (k - (j + 1))
                  case rel => exact ⟨j + 1, ny + 1, by omega, rfl, by go_num, by omega, HB2, HO2⟩
                  case measure => omega
              · have hxl : ¬ y.toList = x'.toList := fun e => hxy (toList_inj e)
                have hbl : (y.toList == x'.toList) = false := by simpa using hxl
                have h1 := HONE.out
                rw [if_neg hxy] at h1
                have h2 := HSTEP.out
                rw [h1, List.append_nil] at h2
                rw [← h2] at hO
                have HO2 := Asd.mk hO
                clear h1 h2 hO HSTEP HONE
                go_wp2
                go_quiet (fail)
                go_wp2
                go_roundg (k - (j + 1))
                case rel => exact ⟨j + 1, ny, by omega, rfl, by go_num, by omega, ⟨below_drew' HB.out _⟩, ⟨HO2.out.drewN _⟩⟩
                case measure => omega
            · obtain rfl : j = k := by omega
              have hO1 := HO.out
              rw [show folI l i j = folI l i l.length by rw [HLEN.out], List.append_assoc, ← folA_succ] at hO1
              have HO2 := Asd.mk hO1
              clear hO1
              go_wp2
              go_roundg (j - (i + 1))
              case rel => exact ⟨i + 1, ny, by omega, rfl, by go_num, by omega, HB, HO2⟩
              case measure => omega
        · obtain rfl : i = k := by omega
          have hO1 := HO.out
          rw [show revDup l ++ folA l i = ordM l by unfold ordM; rw [HLEN.out]] at hO1
          obtain ⟨D, cd, rfl, -, -, hsd⟩ := hO1.sl
          have hltd := hO1.lt
          have HD := Asd.mk (hsd.mono (S' := fun b => b < wr.heap.size) (fun b hb => (hltd b (hb.resolve_left (fun h => h)).symm).2))
          have HDL := Asd.mk hO1.len
          clear hsd hltd hO1 HO
          have HM1 := Asd.mk (make_any B i cv l _ wr HLEN.out (by omega) (fun b h => h) ((HSL.out.below HB.out (fun b h => h)).mono (S' := fun b => b < wr.heap.size) (fun b h => Nat.lt_of_lt_of_le h HB.out.size)))
          have HPURE := Asd.mk (makeS_ordM HOK.out)
          obtain ⟨L, ee, hLe⟩ : ∃ L ee, makeS l = (L, ee) := ⟨_, _, rfl⟩
          rw [hLe] at HM1 HPURE
          have HN1 : Asd (Calls Try.prog 18 #[.slice B i cv] wr (fun e w' => ∃ v, e = .returned (.tuple #[v, .int .i64 ee]) ∧ LatR wr.heap.size w' v L ∧ Below wr.heap.size wr w')) := HM1
          clear hLe HM1
          go_wp2_with fail
          refine HN1.out.mono ?_
          rintro e w2 ⟨v1, rfl, hr1, hb2⟩
          have HM2 : Asd (∀ V, Below w2.heap.size w2 V → Calls Try.prog 18 #[.slice D nx cd] V (fun e w' => ∃ v, e = .returned (.tuple #[v, .int .i64 ee]) ∧ LatR V.heap.size w' v L ∧ Below V.heap.size V w')) := ⟨fun V hV => by
            have h := make_any D nx cd (ordM l) _ V HDL.out (by omega) (fun b h => Nat.lt_of_lt_of_le h (Nat.le_trans hb2.size hV.size)) ((HD.out.below hb2 (fun b h => h)).below hV (fun b h => Nat.lt_of_lt_of_le h hb2.size))
            rw [HPURE.out] at h
            exact h⟩
          have HBB := Asd.mk (below_call HB1.out (below_call HB.out hb2))
          clear hb2 HB HN1 HD HDL
          have HR1 := Asd.mk hr1
          obtain ⟨S1, A1, A2, A3, A4, c1, c2, c3, c4, hv, -⟩ := hr1
          obtain rfl := hv.eq
          clear hv
          have hee : (ee == ee) = true := by simp
          generalize hq1 : L.names.length = q1 at *
          generalize hq2 : L.le.length = q2 at *
          generalize hq3 : L.join.length = q3 at *
          generalize hq4 : L.meet.length = q4 at *
          generalize hlo : L.low = lo at *
          generalize hhi : L.high = hi' at *
          have HQ := Asd.mk (And.intro hq1 (And.intro hq2 (And.intro hq3 (And.intro hq4 (And.intro hlo hhi)))))
          clear hq1 hq2 hq3 hq4 hlo hhi
          have HX := Asd.mk (Blk.new w2 42 #[.slice A1 q1 c1, .slice A2 q2 c2, .slice A3 q3 c3, .slice A4 q4 c4, .int .i64 lo, .int .i64 hi'])
          have HXB : Asd (Below w2.heap.size w2 (w2.alloc (.cells #[.slice A1 q1 c1, .slice A2 q2 c2, .slice A3 q3 c3, .slice A4 q4 c4, .int .i64 lo, .int .i64 hi'] 42))) := ⟨(Below.refl _ _).alloc (Nat.le_refl _) _⟩
          go_wp2_with fail
          refine (HM2.out _ HXB.out).mono ?_
          rintro e w4 ⟨v2, rfl, hr2, hb4⟩
          have HR2 := Asd.mk hr2
          obtain ⟨S2, B1, B2, B3, B4, d1, d2, d3, d4, hv, -⟩ := hr2
          obtain rfl := hv.eq
          clear hv
          obtain ⟨e1, e2, e3, e4, e5, e6⟩ := HQ.out
          simp only [e1, e2, e3, e4, e5, e6] at HR2 ⊢
          clear e1 e2 e3 e4 e5 e6
          have HY := Asd.mk (Blk.new w4 42 #[.slice B1 q1 d1, .slice B2 q2 d2, .slice B3 q3 d3, .slice B4 q4 d4, .int .i64 lo, .int .i64 hi'])
          have HX4 := Asd.mk ((HX.out.call hb4).alloc (.cells #[.slice B1 q1 d1, .slice B2 q2 d2, .slice B3 q3 d3, .slice B4 q4 d4, .int .i64 lo, .int .i64 hi'] 42))
          obtain ⟨⟨r0, r1, r2, r3, r4, r5⟩, -⟩ := HX4.out.six
          obtain ⟨⟨s0, s1, s2, s3, s4, s5⟩, -⟩ := HY.out.six
          have hb5 : Below w4.heap.size w4 (w4.alloc (.cells #[.slice B1 q1 d1, .slice B2 q2 d2, .slice B3 q3 d3, .slice B4 q4 d4, .int .i64 lo, .int .i64 hi'] 42)) := (Below.refl _ _).alloc (Nat.le_refl _) _
          have HSAME := Asd.mk (sameLat_same _ _ L _ _ _ (((HR1.out.below HXB.out).below hb4).below hb5) (HR2.out.below hb5))
          have HB5 := Asd.mk (below_call (below_call (below_call HBB.out HXB.out) hb4) hb5)
          clear hb4 hb5 HR1 HR2 HM2 HXB HX HX4 HY
          go_wp2_with fail
          refine HSAME.out.mono ?_
          rintro e w6 ⟨rfl, hb6⟩
          have HAW := Asd.mk (awake14_any w6)
          clear r0 r1 r2 r3 r4 r5 s0 s1 s2 s3 s4 s5
          go_wp2_with fail
          refine HAW.out.mono ?_
          rintro e w7 ⟨rfl, hb7⟩
          go_wp2_with fail
          go_ret
          exact ⟨rfl, below_call (below_call HB5.out hb6) hb7⟩
end Go.Proofs.Ythfoaehjnoiniaa
