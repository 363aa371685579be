/- label.Make by its contract. -/
import Derived.Test.YthfoaehjnoiniaaLatR
import Derived.Test.YthfoaehjnoiniaaLabU
import Derived.Test.YthfoaehjnoiniaaLabN
import Derived.Test.YthfoaehjnoiniaaLabC
namespace Go.Proofs.Ythfoaehjnoiniaa
open Go.RowKit
theorem E_string' : ElemT Try.prog 25 9 1 16 := ElemT.mk' Try.underlying25 (z := .string ⟨#[]⟩) (by kernel_rfl) rfl (by decide)
theorem Sl.prm {w : World} {S : Nat → Prop} {A : Option Addr} {l : List Prm} (h : Sl rPrm w S A l) {i : Nat} {p : Prm} (hp : l[i]? = some p) :
    ∃ ad, A = some ad ∧ S ad.block ∧ w.cell? (ad.add (i * 3)) = some (.string p.1) ∧ w.cell? ⟨(ad.add (i * 3)).block, (ad.add (i * 3)).off + 1, none⟩ = some (.string p.2.1) ∧ w.cell? ⟨(ad.add (i * 3)).block, (ad.add (i * 3)).off + 2, none⟩ = some (.int .i64 p.2.2) := by
  obtain ⟨ad, cs, h1, h2, h3, h4, h5⟩ := h.atN hp
  have h3' : cs = [.string p.1, .string p.2.1, .int .i64 p.2.2] := h3
  subst h3'
  exact ⟨ad, h1, h2, h4 _ rfl, h5 1 _ (by decide) rfl, h5 2 _ (by decide) rfl⟩
set_option maxHeartbeats 4000000 in
set_option maxRecDepth 100000 in
theorem make_any (A : Option Addr) (n c : Nat) (l : List Prm) (S : Nat → Prop) (w : World) (hl : l.length = n) (hn : n ≤ 10000) (hS : ∀ b, S b → b < w.heap.size) (hr : Sl rPrm w S A l) :
    Calls Try.prog 18 #[.slice A n c] w (MakePost (makeS l) w) := by
  have HL := Asd.mk hl; have HR := Asd.mk hr; have HS := Asd.mk hS
  clear hl hr hS
  go_enter Try.func18, Try.ntmps18
  go_wp2
  go_loopg [4, 14] n (fun gk v iv wr => ∃ (k m : Nat), k ≤ n ∧ m ≤ 2 * k ∧ gk = n - k ∧ iv = .int .i64 k ∧ Below w.heap.size w wr ∧ w.heap.size < wr.heap.size ∧ Asd (Blk wr w.heap.size 42 #[.slice none 0 0, .slice none 0 0, .slice none 0 0, .slice none 0 0, .int .i64 0, .int .i64 0]) ∧ Asd (Own rStr wr NoB w.heap.size 9 v m (nmAll (l.take k))))
  case atStart => exact ⟨0, 0, Nat.zero_le _, Nat.le_refl _, rfl, rfl, (Below.refl _ _).alloc (Nat.le_refl _) _, by simp, ⟨Blk.new _ _ _⟩, ⟨Own.nil rStr _ (fun _ h => h.elim) _ _⟩⟩
  case round =>
    obtain ⟨k, m, hk, hm, rfl, rfl, hnx, hz, HB, HO⟩ := hrel
    have hk0 : (0 : Int) ≤ (k : Int) := Int.natCast_nonneg _
    by_cases hkn : k < n
    · have hkn' : (k : Int) < (n : Int) := by omega
      obtain ⟨p, hp⟩ : ∃ p, l[k]? = some p := ⟨_, List.getElem?_eq_getElem (by have := HL.out; omega)⟩
      obtain ⟨ad, rfl, hs, p0, p1, p2⟩ := (HR.out.below hnx HS.out).prm hp
      have HP := Asd.mk hp
      obtain ⟨x, y, z⟩ := p
      simp only at p0 p1 p2
      clear hp
      have HE := Asd.mk (show nmAll (l.take (k + 1)) = nmAll (l.take k) ++ nmOf (x, y, z) by rw [take_snoc' l HP.out, nmAll_snoc])
      have HO1 := Asd.mk ((HO.out.alloc (.cells #[.string x, .string y, .int .i64 z] 56)).alloc (.cells #[.string x] 9))
      have HB1 := Asd.mk ((HB.out.alloc (.cells #[.string x, .string y, .int .i64 z] 56)).alloc (.cells #[.string x] 9))
      have hws := hnx.size
      by_cases hy : y.size = 0
      · have hyl := nil_yes hy
        have HE2 := Asd.mk (HE.out.trans (show nmAll (l.take k) ++ nmOf (x, y, z) = nmAll (l.take k) ++ [x] by unfold nmOf; rw [if_pos hy]))
        clear hy HE
        go_wp2_with (at_builtin; refine wpList_app1 rfl (.tmp 18) _ _ rfl E_string' rfl HO1.out ⟨wr.heap.size + 1, 0, none⟩ x [.string x] rfl (news_at (cs := #[.string x]) (two_new' wr _ _ _)) (by simp [Value.oneCell']) 1 rfl (by omega) (by simp only [maxLen]; omega) (by simp; omega) ?_; intro g1 cap1 w1 hown1 hg1 hat1; have q1 : w1.cell? ⟨wr.heap.size, 1, none⟩ = some (.string y) := (((Blk.new wr 56 #[.string x, .string y, .int .i64 z]).alloc _).grown hg1 (HO1.out.blk_ne ((Blk.new wr 56 #[.string x, .string y, .int .i64 z]).alloc _) (by decide))).cell 1)
        have HO2 := Asd.mk hown1
        rw [← HE2.out] at HO2
        have HB2 := Asd.mk (HB1.out.grown hg1 (HO1.out.blk_ne HB1.out (by decide)))
        have hnx2 : Below w.heap.size w w1 := ((hnx.alloc hws _).alloc (by simp; omega) _).grown hg1 (by simp; omega) (fun q hq => (HO1.out.lt q hq).1)
        have hz2 : w.heap.size < w1.heap.size := HB2.out.lt
        clear hown1 hg1 hat1 q1
        go_roundg (n - (k + 1))
        case rel => exact ⟨k + 1, m + 1, by omega, by omega, rfl, by go_num, hnx2, hz2, HB2, HO2⟩
        case measure => omega
      · have hyl := nil_no hy
        have HE2 := Asd.mk (HE.out.trans (show nmAll (l.take k) ++ nmOf (x, y, z) = (nmAll (l.take k) ++ [x]) ++ [y] by unfold nmOf; rw [if_neg hy]; simp))
        clear hy HE
        go_wp2_with (first
          | (at_builtin; refine wpList_app1 rfl (.tmp 18) _ _ rfl E_string' rfl HO1.out ⟨wr.heap.size + 1, 0, none⟩ x [.string x] rfl (news_at (cs := #[.string x]) (two_new' wr _ _ _)) (by simp [Value.oneCell']) 1 rfl (by omega) (by simp only [maxLen]; omega) (by simp; omega) ?_; intro g1 cap1 w1 hown1 hg1 hat1; have HP1 := Asd.mk (((Blk.new wr 56 #[.string x, .string y, .int .i64 z]).alloc (.cells #[.string x] 9)).grown hg1 (HO1.out.blk_ne ((Blk.new wr 56 #[.string x, .string y, .int .i64 z]).alloc _) (by decide))); have q1 := HP1.out.cell 1; have HO2 := Asd.mk hown1; have HB2 := Asd.mk (HB1.out.grown hg1 (HO1.out.blk_ne HB1.out (by decide))); have hnx2 : Below w.heap.size w w1 := ((hnx.alloc hws _).alloc (by simp; omega) _).grown hg1 (by simp; omega) (fun q hq => (HO1.out.lt q hq).1); have hz2 : w.heap.size < w1.heap.size := HB2.out.lt; clear hown1 hg1 hat1)
          | (at_builtin; refine wpList_app1 rfl (.tmp 26) _ _ rfl E_string' rfl (HO2.out.alloc _) ⟨w1.heap.size, 0, none⟩ y [.string y] rfl (news_at (cs := #[.string y]) (heap_alloc_new w1 _)) (by simp [Value.oneCell']) 1 rfl (by omega) (by simp only [maxLen]; omega) (by simp; omega) ?_; intro g2 cap2 w2 hown2 hg2 hat2))
        have HO3 := Asd.mk hown2
        rw [← HE2.out] at HO3
        have HB3 := Asd.mk ((HB2.out.alloc _).grown hg2 (HO2.out.blk_ne HB2.out (by decide)))
        have hnx3 : Below w.heap.size w w2 := (hnx2.alloc hnx2.size _).grown hg2 (by simp; omega) (fun q hq => (HO2.out.lt q hq).1)
        have hz3 : w.heap.size < w2.heap.size := HB3.out.lt
        clear hown2 hg2 hat2 q1
        go_roundg (n - (k + 1))
        case rel => exact ⟨k + 1, m + 1 + 1, by omega, by omega, rfl, by go_num, hnx3, hz3, HB3, HO3⟩
        case measure => omega
    · obtain rfl : k = n := by omega
      have HO1 := HO
      rw [List.take_of_length_le (by have := HL.out; omega)] at HO1
      clear HO hkn
      go_wp2_with fail
      refine (sort_any HO1.out (by omega)).mono ?_
      rintro e w1 ⟨rfl, ho1, hg1⟩
      have HB1 := Asd.mk (HB.out.grown hg1 (HO1.out.blk_ne HB.out (by decide)))
      have hnx1 : Below w.heap.size w w1 := hnx.grown hg1 hnx.size (fun q hq => (HO1.out.lt q hq).1)
      have HO2 := Asd.mk ho1
      clear hg1 ho1 hnx HB HO1 hz
      go_wp2_with fail
      refine (compact_any HO2.out (by omega)).mono ?_
      rintro e w2 ⟨v2, rfl, ho2, hg2, -⟩
      have HB2 := Asd.mk (HB1.out.grown hg2 (HO2.out.blk_ne HB1.out (by decide)))
      have hnx2 : Below w.heap.size w w2 := hnx1.grown hg2 hnx1.size (fun q hq => (HO2.out.lt q hq).1)
      have hz2 : w.heap.size < w2.heap.size := HB2.out.lt
      have ho2' : Own rStr w2 NoB w.heap.size 9 v2 (nmS l).length (nmS l) := ho2
      obtain ⟨An, cn, rfl, hcn, hcm, hsn⟩ := ho2'.sl
      have hlt2 := ho2'.lt
      have HN := Asd.mk (hsn.mono (S' := fun b => w.heap.size ≤ b ∧ b < w2.heap.size ∧ ∃ cs, Blk w2 b 9 cs) (fun b hb => by
        rcases hb with hb | hb
        · exact hb.elim
        · refine ⟨(hlt2 b hb.symm).1, (hlt2 b hb.symm).2, ?_⟩
          obtain ⟨css, _, h2⟩ := ho2'.row
          rcases h2.2 with ⟨e1, _⟩ | ⟨g, cap, cur, e1, _, hh, _⟩
          · rw [e1] at hb; cases hb
          · rw [e1] at hb
            have hg : b = g := by simpa [Value.ownBlock] using hb
            subst hg
            exact ⟨cur, hh⟩))
      clear HO2 HB1 hnx1 hg2 ho2 ho2' hsn hlt2
      generalize hnm : nmS l = names at *
      have HNM := Asd.mk hnm
      clear hnm
      generalize hm' : names.length = q at *
      have HM := Asd.mk hm'
      clear hm'
      have hq0 : (0 : Int) ≤ (q : Int) := Int.natCast_nonneg _
      have r6 := HB2.out.six
      by_cases h0 : q = 0
      · have h0' : ((q : Int) == 0) = true := by rw [h0]; rfl
        have H0 := Asd.mk h0
        clear h0
        obtain ⟨⟨r0, r1, r2, r3, r4, r5⟩, z0, z1, z2, z3, z4, z5⟩ := r6
        go_wp2
        refine bodyPost_ret (v := .tuple #[zeroV, .int .i64 13]) (by simp [zeroV, results, Try.results18, go_sem, r0, r1, r2, r3, r4, r5]) rfl ?_
        have hms : makeS l = (Lat.zero, 13) := by unfold makeS; rw [HNM.out, HM.out, if_pos H0.out]
        rw [hms]
        have hb' := (((((hnx2.setCell (Nat.le_refl _) (p := ⟨w.heap.size, 0, none⟩) (.slice none 0 0)).setCell (Nat.le_refl _) (p := ⟨w.heap.size, 1, none⟩) (.slice none 0 0)).setCell (Nat.le_refl _) (p := ⟨w.heap.size, 2, none⟩) (.slice none 0 0)).setCell (Nat.le_refl _) (p := ⟨w.heap.size, 3, none⟩) (.slice none 0 0)).setCell (Nat.le_refl _) (p := ⟨w.heap.size, 4, none⟩) (.int .i64 0)).setCell (Nat.le_refl _) (p := ⟨w.heap.size, 5, none⟩) (.int .i64 0)
        exact ⟨_, rfl, LatR.zero _ _, hb'⟩
      · have h0' : ((q : Int) == 0) = false := by simp; omega
        have H0 := Asd.mk h0
        by_cases h12 : 12 < q
        · have h12' : (12 : Int) < (q : Int) := by omega
          have H12 := Asd.mk h12
          clear h0 h12
          obtain ⟨⟨r0, r1, r2, r3, r4, r5⟩, z0, z1, z2, z3, z4, z5⟩ := r6
          go_wp2
          refine bodyPost_ret (v := .tuple #[zeroV, .int .i64 14]) (by simp [zeroV, results, Try.results18, go_sem, r0, r1, r2, r3, r4, r5]) rfl ?_
          have hms : makeS l = (Lat.zero, 14) := by unfold makeS; rw [HNM.out, HM.out, if_neg H0.out, if_pos H12.out]
          rw [hms]
          have hb' := (((((hnx2.setCell (Nat.le_refl _) (p := ⟨w.heap.size, 0, none⟩) (.slice none 0 0)).setCell (Nat.le_refl _) (p := ⟨w.heap.size, 1, none⟩) (.slice none 0 0)).setCell (Nat.le_refl _) (p := ⟨w.heap.size, 2, none⟩) (.slice none 0 0)).setCell (Nat.le_refl _) (p := ⟨w.heap.size, 3, none⟩) (.slice none 0 0)).setCell (Nat.le_refl _) (p := ⟨w.heap.size, 4, none⟩) (.int .i64 0)).setCell (Nat.le_refl _) (p := ⟨w.heap.size, 5, none⟩) (.int .i64 0)
          exact ⟨_, rfl, LatR.zero _ _, hb'⟩
        · have h12' : ¬ (12 : Int) < (q : Int) := by omega
          have hqn : (q : Int) ≤ (cn : Int) := by omega
          have HMK := Asd.mk (show makeS l = latE (latS names (warsh q (M0 names l))) by unfold makeS; rw [HNM.out, HM.out, if_neg h0, if_neg h12])
          clear r6
          have h12b : decide ((12 : Int) < (q : Int)) = false := by simpa using h12'
          go_wp2
          have HNW := Asd.mk (fun wr (hb : Below w2.heap.size w2 wr) => HN.out.below hb (fun b h => h.2.1))
          obtain ⟨wo, hz⟩ : ∃ wo, wo = w2 := ⟨_, rfl⟩
          subst hz
          have hnx3 : Below w.heap.size w (wo.alloc (.cells #[.slice An q q, .slice none 0 0, .slice none 0 0, .slice none 0 0, .int .i64 0, .int .i64 0] 42)) := hnx2.alloc hnx2.size _
          go_loopg [55] q (fun gk iv wr => ∃ (a : Nat) (v : Value) (gs : List Nat), a ≤ q ∧ gk = q - a ∧ iv = .int .i64 a ∧ Asd (MkI wo wr An q a v gs))
          case atStart => exact ⟨0, .slice none 0 0, [], Nat.zero_le _, rfl, rfl, ⟨MkI.start _ _ _⟩⟩
          case round =>
            obtain ⟨a, v, gs, ha, rfl, rfl, HI⟩ := hrel
            have ha0 : (0 : Int) ≤ (a : Int) := Int.natCast_nonneg _
            by_cases haq : a < q
            · have haq' : (a : Int) < (q : Int) := by omega
              have hmk := run_mkRow q (by omega)
              have cb1 := HI.out.box.cell 1
              have fb1 := HI.out.box.free 1
              have hzz := HI.out.box.lt
              have hne1 : ¬ wr.heap.size = wo.heap.size := by omega
              have HO := Asd.mk (show Own (rRow q) (World.drew ((wr.alloc (.cells (zRow q) 4)).alloc (.cells #[.slice (some ⟨wr.heap.size, 0, none⟩) q q] 60))) NoB wo.heap.size 60 v a gs from ((HI.out.own.alloc _).alloc _).drewN 1)
              go_wp2
              go_region_law ((refine step_app1 (r := rRow q) (by rfl) (.tmp 59) _ _ (by rfl) E_rowsB (by rfl) HO.out ⟨wr.heap.size + 1, 0, none⟩ wr.heap.size [.slice (some ⟨wr.heap.size, 0, none⟩) q q] (by rfl) (news_at (cs := #[.slice (some ⟨wr.heap.size, 0, none⟩) q q]) (two_new' wr _ _ _)) (by simp [Value.oneCell']) 1 (by rfl) (by omega) (by simp only [maxLen]; omega) (by simp; omega) ?_; intro g1 cap1 w1 hown1 hg1 hat1; have HJ := Asd.mk (HI.out.toJ _ hg1 hown1); have cw1 : w1.cell? ⟨wo.heap.size, 1, none⟩ = some v := (Blk.grown (show Blk (World.drew ((wr.alloc (.cells (zRow q) 4)).alloc (.cells #[.slice (some ⟨wr.heap.size, 0, none⟩) q q] 60))) wo.heap.size _ _ from ((HI.out.box.alloc _).alloc _).drewN 1) hg1 (HI.out.own.blk_ne HI.out.box (by decide))).cell 1; have fw1 := (Blk.grown (show Blk (World.drew ((wr.alloc (.cells (zRow q) 4)).alloc (.cells #[.slice (some ⟨wr.heap.size, 0, none⟩) q q] 60))) wo.heap.size _ _ from ((HI.out.box.alloc _).alloc _).drewN 1) hg1 (HI.out.own.blk_ne HI.out.box (by decide))).free 1; clear hown1 hg1 hat1))
              all_goals
                obtain ⟨g2, cap2, e1, k1, k2, k3, k4⟩ := HJ.out.cells haq
                injection e1 with e1 _ e2
                injection e1 with e1
                injection e1 with e1 _
                subst e1 e2
                clear hmk cb1 fb1 HO cw1 fw1
                have ha1 : (a : Int) < (a : Int) + 1 := by omega
                generalize hW : w1.setCell ⟨wo.heap.size, 1, none⟩ (.slice (some ⟨g1, 0, none⟩) (a + 1) cap1) = W1 at *
                clear hW
                go_wp2
                go_roundg (q - (a + 1))
                case rel => exact ⟨a + 1, _, _, by omega, rfl, by go_num, ⟨HJ.out.done⟩⟩
                case measure => omega
            · obtain rfl : a = q := by omega
              obtain ⟨ob, cL, gf, rfl, hob, hmat, hgb⟩ := HI.out.mat' (by omega)
              have HML0 := Asd.mk (MkL.mk HI.out.box hmat HI.out.nx hgb)
              have hbw : Below w.heap.size w wr := hnx2.trans (HI.out.nx.mono hnx2.size)
              clear hmat hgb HI haq
              go_wp2
              obtain ⟨wq, hz⟩ : ∃ wq, wq = wr := ⟨_, rfl⟩
              subst hz
              go_loopg [76] k (fun gk iv wr => ∃ i : Nat, i ≤ k ∧ gk = k - i ∧ iv = .int .i64 i ∧ Asd (MkL wo wr An a ob cL gf (M0 names (l.take i))))
              case atStart => exact ⟨0, Nat.zero_le _, rfl, rfl, ⟨by rw [List.take_zero, M0_nil]; exact HML0.out⟩⟩
              case round =>
                obtain ⟨i, hi, rfl, rfl, HML⟩ := hrel
                have hi0 : (0 : Int) ≤ (i : Int) := Int.natCast_nonneg _
                by_cases hik : i < k
                · have hik' : (i : Int) < (k : Int) := by omega
                  obtain ⟨p, hp⟩ : ∃ p, l[i]? = some p := ⟨_, List.getElem?_eq_getElem (by have := HL.out; omega)⟩
                  have hbr : Below w.heap.size w wr := hnx2.trans (HML.out.nx.mono hnx2.size)
                  obtain ⟨ad, rfl, hs, p0, p1, p2⟩ := (HR.out.below hbr HS.out).prm hp
                  have HP := Asd.mk hp
                  have HTK := Asd.mk (take_snoc' l hp)
                  have hmem := nmS_of (List.mem_of_getElem? hp)
                  rw [HNM.out] at hmem
                  obtain ⟨x, y, z⟩ := p
                  simp only at p0 p1 p2 hmem
                  clear hp hbr
                  by_cases hy : y.size = 0
                  · have hyl := nil_yes hy
                    have HML2 := Asd.mk (HML.out.alloc (.cells #[.string x, .string y, .int .i64 z] 56))
                    rw [← M0_none (p := (x, y, z)) hy, ← HTK.out] at HML2
                    clear hy hmem HTK HML
                    go_wp2
                    go_roundg (k - (i + 1))
                    case rel => exact ⟨i + 1, by omega, rfl, by go_num, HML2⟩
                    case measure => omega
                  · have hyl := nil_no hy
                    obtain ⟨X, hX, hXn⟩ := idx_mem hmem.1
                    obtain ⟨Y, hY, hYn⟩ := idx_mem (hmem.2 hy)
                    rw [HM.out] at hXn hYn
                    have HS2 := Asd.mk (show M0 names (l.take (i + 1)) = upd2 (M0 names (l.take i)) X Y true by rw [HTK.out]; exact M0_set hy hX hY)
                    generalize M0 names (l.take i) = T0 at *
                    have HX : Asd (∀ V, Below wo.heap.size wo V → Calls Try.prog 23 #[.agg #[.slice An a a, .slice (some ⟨ob, 0, none⟩) a cL, .slice none 0 0, .slice none 0 0, .int .i64 0, .int .i64 0], .string x] V fun e w' => e = .returned (.int .i64 (X : Int)) ∧ Below V.heap.size V w') := ⟨fun V hV => by
                      have := placeL_any An (some ⟨ob, 0, none⟩) none none a a a cL 0 0 0 0 0 0 names x _ V HM.out (by omega) (fun b hb => Nat.lt_of_lt_of_le hb.2.1 hV.size) (HNW.out V hV)
                      rwa [hX] at this⟩
                    have HY : Asd (∀ V, Below wo.heap.size wo V → Calls Try.prog 23 #[.agg #[.slice An a a, .slice (some ⟨ob, 0, none⟩) a cL, .slice none 0 0, .slice none 0 0, .int .i64 0, .int .i64 0], .string y] V fun e w' => e = .returned (.int .i64 (Y : Int)) ∧ Below V.heap.size V w') := ⟨fun V hV => by
                      have := placeL_any An (some ⟨ob, 0, none⟩) none none a a a cL 0 0 0 0 0 0 names y _ V HM.out (by omega) (fun b hb => Nat.lt_of_lt_of_le hb.2.1 hV.size) (HNW.out V hV)
                      rwa [hY] at this⟩
                    clear hX hY hy hmem HTK
                    have hX0 : (0 : Int) ≤ (X : Int) := Int.natCast_nonneg _
                    have hY0 : (0 : Int) ≤ (Y : Int) := Int.natCast_nonneg _
                    have hX1 : (X : Int) < (a : Int) := by omega
                    have hY1 : (Y : Int) < (a : Int) := by omega
                    have HPB := Asd.mk (show Blk (World.drew (wr.alloc (.cells #[.string x, .string y, .int .i64 z] 56))) wr.heap.size 56 #[.string x, .string y, .int .i64 z] from Blk.new wr 56 #[.string x, .string y, .int .i64 z])
                    have HA := Asd.mk (show MkL wo (World.drew (wr.alloc (.cells #[.string x, .string y, .int .i64 z] 56))) An a ob cL gf T0 from (HML.out.alloc (.cells #[.string x, .string y, .int .i64 z] 56)).drewN 1)
                    obtain ⟨cx, hcx, -⟩ := HA.out.mat.at_row hXn
                    have HCX := Asd.mk hcx
                    clear hcx
                    go_wp2
                    have hss := HA.out.loads HPB.out HCX.out
                    obtain ⟨s0, s1, s2, s3, s4, s5, s6, s7, s8⟩ := hss
                    go_region_held3 (fun w' => w'.cell? ⟨wo.heap.size, 0, none⟩ = some (.slice An a a) ∧ w'.cell? ⟨wo.heap.size, 1, none⟩ = some (.slice (some ⟨ob, 0, none⟩) a cL) ∧ w'.cell? ⟨wo.heap.size, 2, none⟩ = some (.slice none 0 0) ∧ w'.cell? ⟨wo.heap.size, 3, none⟩ = some (.slice none 0 0) ∧ w'.cell? ⟨wo.heap.size, 4, none⟩ = some (.int .i64 0) ∧ w'.cell? ⟨wo.heap.size, 5, none⟩ = some (.int .i64 0) ∧ w'.cell? ⟨wr.heap.size, 0, none⟩ = some (.string x) ∧ w'.cell? ⟨wr.heap.size, 1, none⟩ = some (.string y) ∧ w'.cell? ⟨ob, X, none⟩ = some (.slice (some ⟨gf X, 0, none⟩) a cx))
                      (first
                        | exact (HML2.out.set hXn hYn).loads (HPB2.out.far (HML2.out.mat.blk_ne hXn HPB2.out (by decide)) _) HCX3.out
                        | exact HML2.out.loads HPB2.out HCX2.out
                        | exact HML1.out.loads HPB1.out HCX1.out
                        | exact HA.out.loads HPB.out HCX.out
                        | fail)
                      (first
                        | ((go_at_call 23; (with_reducible refine (HX.out _ HA.out.nx).mono ?_); rintro e w1 ⟨rfl, hb1⟩; have HML1 := Asd.mk (HA.out.call hb1); have HPB1 := Asd.mk (HPB.out.call hb1); have HCX1 := Asd.mk ((hb1.cell (p := ⟨ob, X, none⟩) HA.out.mat.lto).trans HCX.out); clear hb1))
                        | ((go_at_call 23; (with_reducible refine (HY.out _ HML1.out.nx).mono ?_); rintro e w2 ⟨rfl, hb2⟩; have HML2 := Asd.mk (HML1.out.call hb2); have HPB2 := Asd.mk (HPB1.out.call hb2); have HCX2 := Asd.mk ((hb2.cell (p := ⟨ob, X, none⟩) HML1.out.mat.lto).trans HCX1.out); have t1 := HML2.out.mat.at_ hXn hYn; have t2 := HML2.out.mat.free hXn Y; have HCX3 := Asd.mk ((World.cell?_of_block (w := w2) (Below.heap_setCell w2 ⟨gf X, Y, none⟩ (.bool true) ob (fun e => HML2.out.mat.ne hXn e.symm))).trans HCX2.out); clear hb2)))
                    have HM3 := Asd.mk (HML2.out.set hXn hYn)
                    rw [← HS2.out] at HM3
                    clear HX HY HPB HA HCX s0 s1 s2 s3 s4 s5 s6 s7 s8 HML1 HPB1 HCX1 HML2 HPB2 HCX2 t1 t2 HCX3 HS2 HML
                    go_wp2
                    go_roundg (k - (i + 1))
                    case rel => exact ⟨i + 1, by omega, rfl, by go_num, HM3⟩
                    case measure => omega
                · obtain rfl : i = k := by omega
                  have HA := Asd.mk (by have := HML.out; rw [List.take_of_length_le (by have := HL.out; omega)] at this; exact this)
                  have cb1 := HA.out.box.cell 1
                  clear HML HML0 hik
                  go_wp2_with fail
                  refine (closed_any ob gf a cL _ wr HA.out.mat (by omega)).mono ?_
                  rintro e w3 ⟨rfl, hm3, hu3⟩
                  have hbx3 := HA.out.box.upto hu3 (fun hx => by obtain ⟨i, hi, e⟩ := hx; exact HA.out.mat.blk_ne hi HA.out.box (by decide) e)
                  have hnx3' : Below wo.heap.size wo w3 := Upto.below_trans HA.out.nx hu3 (fun k hk => by obtain ⟨i, hi, rfl⟩ := hk; exact HA.out.lo i hi) HA.out.nx.size
                  have hres3 := HB2.out.call hnx3'
                  have hT : Sl (rSl rBool) w3 (fun b => b < w3.heap.size ∧ b ≠ w.heap.size ∧ b ≠ wo.heap.size ∧ w.heap.size ≤ b) (some ⟨ob, 0, none⟩) (tabB a (warsh a (M0 names l))) := by
                    obtain ⟨C, hC1, _⟩ := hm3.outer
                    exact hm3.sl _ ⟨hm3.lto, Blk.ne_ (t := 60) hC1 hres3 (by decide), Blk.ne_ (t := 60) hC1 hbx3 (by decide), by omega⟩ (fun i hi => ⟨hm3.lt hi, fun e => hm3.blk_ne hi hres3 (by decide) e.symm, fun e => hm3.blk_ne hi hbx3 (by decide) e.symm, by have := HA.out.lo i hi; omega⟩)
                  have HT := Asd.mk hT
                  have hC := complete_any a (by omega) (warsh a (M0 names l)) _ An (some ⟨ob, 0, none⟩) a cL 0 0 none none 0 0 0 0 w3 hT (fun b hb => hb.1)
                  obtain ⟨⟨b0, b1, b2, b3, b4, b5⟩, -⟩ := hbx3.six
                  have HBX3 := Asd.mk hbx3
                  have HRES3 := Asd.mk hres3
                  have HNX3 := Asd.mk hnx3'
                  have HN3 := Asd.mk (HNW.out w3 hnx3')
                  clear hm3 hu3 HA hbx3 hres3 hnx3' hT cb1 HNW
                  generalize warsh a (M0 names l) = Mx at *
                  go_wp2_with fail
                  refine hC.mono ?_
                  clear hC
                  intro e w4 hpost
                  by_cases hok : okT a Mx = true
                  · obtain ⟨S4, vJ, vM, rfl, hJ, hMt, hS4, hb4⟩ := hpost.yes hok
                    obtain ⟨A3, c3, rfl, -, -, sJ⟩ := hJ.sl
                    obtain ⟨A4, c4, rfl, -, -, sM⟩ := hMt.sl
                    have q1 := HBX3.out.call hb4
                    have q2 := HRES3.out.call hb4
                    obtain ⟨⟨u0, u1, u2, u3', u4', u5⟩, y0, y1, y2, y3, y4, y5⟩ := q1.six
                    obtain ⟨⟨r0, r1, r2, r3, r4, r5⟩, z0, z1, z2, z3, z4, z5⟩ := q2.six
                    have hne : ¬ w.heap.size = wo.heap.size := by omega
                    have hne' : ¬ wo.heap.size = w.heap.size := by omega
                    have hz3 : w.heap.size < w3.heap.size := HRES3.out.lt
                    have hz3' : wo.heap.size < w3.heap.size := HBX3.out.lt
                    have hSL : ∀ b, ((S4 b ∨ some b = (Value.slice A3 a c3).ownBlock) ∨ (S4 b ∨ some b = (Value.slice A4 a c4).ownBlock)) → b < w4.heap.size ∧ b ≠ w.heap.size ∧ b ≠ wo.heap.size ∧ w.heap.size ≤ b := by
                      rintro b ((hb | hb) | (hb | hb))
                      · have := hS4 b hb; exact ⟨(hJ.off b hb).1, by omega, by omega, by omega⟩
                      · have := (hJ.lt b hb.symm).1; exact ⟨(hJ.lt b hb.symm).2, by omega, by omega, by omega⟩
                      · have := hS4 b hb; exact ⟨(hJ.off b hb).1, by omega, by omega, by omega⟩
                      · have := (hMt.lt b hb.symm).1; exact ⟨(hMt.lt b hb.symm).2, by omega, by omega, by omega⟩
                    have hLV : LatV w4 (fun b => b < w4.heap.size ∧ b ≠ w.heap.size ∧ b ≠ wo.heap.size ∧ w.heap.size ≤ b) (.agg #[.slice An a a, .slice (some ⟨ob, 0, none⟩) a cL, .slice A3 a c3, .slice A4 a c4, .int .i64 ((lowF a Mx).getD 0 : Nat), .int .i64 ((highF a Mx).getD 0 : Nat)]) ⟨names, tabB a Mx, tabOf (jF a Mx) a a, tabOf (mF a Mx) a a, ((lowF a Mx).getD 0 : Nat), ((highF a Mx).getD 0 : Nat)⟩ An (some ⟨ob, 0, none⟩) A3 A4 a cL c3 c4 := by
                      refine ⟨?_, ?_, ?_, ?_, ?_, fun b h => h.1, ?_⟩
                      · rw [HM.out, tabB_len, tabOf_len, tabOf_len]
                      · exact (HN3.out.below hb4 (fun b h => Nat.lt_of_lt_of_le h.2.1 HNX3.out.size)).mono (fun b h => ⟨Nat.lt_of_lt_of_le h.2.1 (Nat.le_trans HNX3.out.size hb4.size), by obtain ⟨cs, hc⟩ := h.2.2; exact hc.ne_ HB2.out (by decide), by have := h.2.1; omega, h.1⟩)
                      · exact (HT.out.below hb4 (fun b h => h.1)).mono (fun b h => ⟨Nat.lt_of_lt_of_le h.1 hb4.size, h.2⟩)
                      · exact sJ.mono (fun b h => hSL b (.inl h))
                      · exact sM.mono (fun b h => hSL b (.inr h))
                      · show names.length ≤ 12 ∧ (tabB a Mx).length ≤ 12 ∧ (tabOf (jF a Mx) a a).length ≤ 12 ∧ (tabOf (mF a Mx) a a).length ≤ 12
                        rw [HM.out, tabB_len, tabOf_len, tabOf_len]
                        omega
                    have HLV := Asd.mk hLV
                    have HBW := Asd.mk (show Below w.heap.size w w4 from hnx2.trans ((HNX3.out.mono hnx2.size).trans (hb4.mono (Nat.le_of_lt hz3))))
                    have hlat : latS names Mx = if (lowF a Mx).isSome = true ∧ (highF a Mx).isSome = true then some ⟨names, tabB a Mx, tabOf (jF a Mx) a a, tabOf (mF a Mx) a a, ((lowF a Mx).getD 0 : Nat), ((highF a Mx).getD 0 : Nat)⟩ else none := by
                      unfold latS
                      rw [HM.out]
                      simp only [hok, true_and]
                    clear hLV sJ sM hJ hMt hSL hS4 hok hpost
                    generalize tabOf (jF a Mx) a a = TJ at *
                    generalize tabOf (mF a Mx) a a = TM at *
                    generalize tabB a Mx = TB at *
                    have hlb : ((lowF a Mx).isSome && (highF a Mx).isSome) = true ∨ ((lowF a Mx).isSome && (highF a Mx).isSome) = false := by cases ((lowF a Mx).isSome && (highF a Mx).isSome) <;> simp
                    rcases hlb with hlb | hlb
                    · have hlat2 := hlat.trans (if_pos (by simpa using hlb))
                      rw [hlat2] at HMK
                      rw [hlb]
                      clear hlat hlat2 hlb
                      generalize (lowF a Mx).getD 0 = lo at *
                      generalize (highF a Mx).getD 0 = hi' at *
                      go_wp2
                      refine bodyPost_ret (v := .tuple #[.agg #[.slice An a a, .slice (some ⟨ob, 0, none⟩) a cL, .slice A3 a c3, .slice A4 a c4, .int .i64 (lo : Nat), .int .i64 (hi' : Nat)], .int .i64 0]) (by simp [results, Try.results18, go_sem, r0, r1, r2, r3, r4, r5]) rfl ?_
                      rw [HMK.out]
                      refine ⟨_, rfl, ⟨_, _, _, _, _, _, _, _, _, HLV.out.keep (fun b hb => (sets6_keep _ _ _ _ _ _ _ _ hb.2.1).trans (sets6_keep _ _ _ _ _ _ _ _ hb.2.2.1)) (by rw [sets6_size, sets6_size]; exact Nat.le_refl _), fun b hb => hb.2.2.2⟩, sets6_below (sets6_below HBW.out (Nat.le_of_lt hz2) _ _ _ _ _ _) (Nat.le_refl _) _ _ _ _ _ _⟩
                    · have hlat2 := hlat.trans (if_neg (fun h => by rw [h.1, h.2] at hlb; cases hlb))
                      rw [hlat2] at HMK
                      rw [hlb]
                      clear hlat hlat2 hlb HLV
                      generalize (lowF a Mx).getD 0 = lo at *
                      generalize (highF a Mx).getD 0 = hi' at *
                      go_wp2
                      refine bodyPost_ret (v := .tuple #[zeroV, .int .i64 13]) (by simp [zeroV, results, Try.results18, go_sem, r0, r1, r2, r3, r4, r5]) rfl ?_
                      rw [HMK.out]
                      exact ⟨_, rfl, LatR.zero _ _, sets6_below (sets6_below HBW.out (Nat.le_of_lt hz2) _ _ _ _ _ _) (Nat.le_refl _) _ _ _ _ _ _⟩
                  · obtain ⟨rfl, hb4⟩ := hpost.no hok
                    have hlat : latS names Mx = none := by unfold latS; rw [HM.out, if_neg (fun h => hok h.1)]
                    rw [hlat] at HMK
                    have q1 := HBX3.out.call hb4
                    have q2 := HRES3.out.call hb4
                    obtain ⟨⟨u0, u1, u2, u3', u4', u5⟩, y0, y1, y2, y3, y4, y5⟩ := q1.six
                    obtain ⟨⟨r0, r1, r2, r3, r4, r5⟩, z0, z1, z2, z3, z4, z5⟩ := q2.six
                    have hne : ¬ w.heap.size = wo.heap.size := by omega
                    have hne' : ¬ wo.heap.size = w.heap.size := by omega
                    have hz3 : w.heap.size < w3.heap.size := HRES3.out.lt
                    have HBW := Asd.mk (show Below w.heap.size w w4 from hnx2.trans ((HNX3.out.mono hnx2.size).trans (hb4.mono (Nat.le_of_lt hz3))))
                    clear hok hlat hpost
                    go_wp2
                    refine bodyPost_ret (v := .tuple #[zeroV, .int .i64 13]) (by simp [zeroV, results, Try.results18, go_sem, r0, r1, r2, r3, r4, r5]) rfl ?_
                    rw [HMK.out]
                    exact ⟨_, rfl, LatR.zero _ _, sets6_below (sets6_below HBW.out (Nat.le_of_lt hz2) _ _ _ _ _ _) (Nat.le_refl _) _ _ _ _ _ _⟩
end Go.Proofs.Ythfoaehjnoiniaa
