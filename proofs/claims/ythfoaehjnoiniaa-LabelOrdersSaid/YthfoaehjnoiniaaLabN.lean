/- label.complete by its contract. -/
import Derived.Test.YthfoaehjnoiniaaLabO
import Derived.Test.YthfoaehjnoiniaaSets
import Derived.BigRegion
import Derived.Laws.EntriesVeiled
import Derived.Deep.RegionLaw
import Derived.Deep.CutBlock
import Derived.Deep.DeepCutAuto
namespace Go.Proofs.Ythfoaehjnoiniaa
open Go.RowKit
def CpPost (n : Nat) (M : Tab) (vn vle : Value) (w : World) (e : Ending) (w' : World) : Prop :=
  if okT n M = true then ∃ S vJ vM, e = .returned (.tuple #[.agg #[vn, vle, vJ, vM, .int .i64 ((lowF n M).getD 0 : Nat), .int .i64 ((highF n M).getD 0 : Nat)], .bool ((lowF n M).isSome && (highF n M).isSome)]) ∧
      Own (rSl rI) w' S w.heap.size 59 vJ n (tabOf (jF n M) n n) ∧ Own (rSl rI) w' S w.heap.size 59 vM n (tabOf (mF n M) n n) ∧ (∀ k, S k → w.heap.size ≤ k) ∧ Below w.heap.size w w'
  else e = .returned (.tuple #[.agg #[.slice none 0 0, .slice none 0 0, .slice none 0 0, .slice none 0 0, .int .i64 0, .int .i64 0], .bool false]) ∧ Below w.heap.size w w'
theorem CpPost.yes {n : Nat} {M : Tab} {vn vle : Value} {w w' : World} {e : Ending} (h : CpPost n M vn vle w e w') (hok : okT n M = true) : ∃ S vJ vM, e = .returned (.tuple #[.agg #[vn, vle, vJ, vM, .int .i64 ((lowF n M).getD 0 : Nat), .int .i64 ((highF n M).getD 0 : Nat)], .bool ((lowF n M).isSome && (highF n M).isSome)]) ∧
      Own (rSl rI) w' S w.heap.size 59 vJ n (tabOf (jF n M) n n) ∧ Own (rSl rI) w' S w.heap.size 59 vM n (tabOf (mF n M) n n) ∧ (∀ k, S k → w.heap.size ≤ k) ∧ Below w.heap.size w w' := by
  unfold CpPost at h; rwa [if_pos hok] at h
theorem CpPost.no {n : Nat} {M : Tab} {vn vle : Value} {w w' : World} {e : Ending} (h : CpPost n M vn vle w e w') (hok : ¬ okT n M = true) : e = .returned (.tuple #[.agg #[.slice none 0 0, .slice none 0 0, .slice none 0 0, .slice none 0 0, .int .i64 0, .int .i64 0], .bool false]) ∧ Below w.heap.size w w' := by
  unfold CpPost at h; rwa [if_neg hok] at h
theorem ent1 (args : Array Value) (W : World) : (callFunc 55 args).run Try.prog W = .ok (.enter 55 args) W := enters Try.func55 (by kernel_rfl) rfl args W
theorem ent2 (args : Array Value) (W : World) : (callFunc 56 args).run Try.prog W = .ok (.enter 56 args) W := enters Try.func56 (by kernel_rfl) rfl args W
theorem ent3 (args : Array Value) (W : World) : (callFunc 58 args).run Try.prog W = .ok (.enter 58 args) W := enters Try.func58 (by kernel_rfl) rfl args W
theorem ent4 (args : Array Value) (W : World) : (callFunc 59 args).run Try.prog W = .ok (.enter 59 args) W := enters Try.func59 (by kernel_rfl) rfl args W
theorem ent5 (args : Array Value) (W : World) : (callFunc 60 args).run Try.prog W = .ok (.enter 60 args) W := enters Try.func60 (by kernel_rfl) rfl args W
theorem ent6 (args : Array Value) (W : World) : (callFunc 61 args).run Try.prog W = .ok (.enter 61 args) W := enters Try.func61 (by kernel_rfl) rfl args W
set_option maxHeartbeats 4000000 in
set_option maxRecDepth 100000 in
theorem complete_any (n : Nat) (hn : n ≤ 1000) (M : Tab) (S0 : Nat → Prop) (An A : Option Addr) (cn cp : Nat) (lo hi : Int) (A3 A4 : Option Addr) (n3 n4 c3 c4 : Nat) (w : World) (hT : Sl (rSl rBool) w S0 A (tabB n M)) (hS : ∀ b, S0 b → b < w.heap.size) :
    Calls Try.prog 37 #[.agg #[.slice An n cn, .slice A n cp, .slice A3 n3 c3, .slice A4 n4 c4, .int .i64 lo, .int .i64 hi]] w (CpPost n M (.slice An n cn) (.slice A n cp) w) := by
  have hmf : ∀ (fn : Fn) (first cap : Array Value) (w : World), (Instr.makeFunc fn first cap).run Try.prog w = .ok (.func fn first cap) w := fun _ _ _ _ => rfl
  have HT := Asd.mk hT; have HS := Asd.mk hS
  clear hT hS
  go_enter Try.func37, Try.ntmps37
  go_wp2
  clear hmf
  have hW : ∀ wr, Below w.heap.size w wr → Sl (rSl rBool) wr S0 A (tabB n M) := fun wr hb => HT.out.below hb HS.out
  have HW := Asd.mk hW
  clear hW
  go_loopg [27] n (fun gk av wr => ∃ (a : Nat) (S : Nat → Prop) (vJ vM : Value), a ≤ n ∧ gk = n - a ∧ av = .int .i64 a ∧ Asd (CpI w wr n M S (.slice An n cn) (.slice A n cp) (.int .i64 lo) (.int .i64 hi) a a 0 0 0 vJ vM (.slice none 0 0) (.slice none 0 0)) ∧ Asd (∀ x y, x < a → y < n → badP n M x y = false))
  case atStart =>
    refine ⟨0, NoB, .slice none 0 0, .slice none 0 0, Nat.zero_le _, rfl, rfl, ⟨?_⟩, ⟨fun x y hx => by omega⟩⟩
    refine ⟨((Blk.new _ _ _).alloc _).alloc _, ?_, ?_, Own.nil _ _ (fun _ h => h.elim) _ _, Own.nil _ _ (fun _ h => h.elim) _ _, Own.nil rI _ (fun _ h => h.elim) _ _, Own.nil rI _ (fun _ h => h.elim) _ _, .inl rfl, .inl rfl, fun k hk => hk.elim, fun k hk => hk.elim, (((Below.refl _ _).alloc (Nat.le_refl _) _).alloc (by simp) _).alloc (by simp; omega) _⟩
    · exact Blk.alloc (two_new' w _ _ _) _
    · have := heap_alloc_new ((w.alloc (.cells #[.slice An n cn, .slice A n cp, .slice none 0 0, .slice none 0 0, .int .i64 lo, .int .i64 hi] 42)).alloc (.cells #[.slice none 0 0, .slice none 0 0, .slice none 0 0, .slice none 0 0, .int .i64 0, .int .i64 0] 42)) (.cells #[.func (.func 55) #[] #[.pointer (some ⟨w.heap.size, 0, none⟩)]] 94)
      rw [size_alloc, size_alloc] at this
      exact this
  case round =>
    obtain ⟨a, S, vJ, vM, ha, rfl, rfl, HC, HF⟩ := hrel
    have ha0 : (0 : Int) ≤ (a : Int) := Int.natCast_nonneg _
    by_cases han : a < n
    · have han' : (a : Int) < (n : Int) := by omega
      have HQ := Asd.mk (Blk.new wr 3 #[.int .i64 a])
      have HC2 := Asd.mk ((HC.out.alloc (.cells #[.int .i64 a] 3)).addS HQ.out HC.out.nx.size a)
      go_wp2
      obtain ⟨wo, hz⟩ : ∃ wo, wo = wr := ⟨_, rfl⟩
      subst hz
      go_loopg [8, 9, 31] n (fun gk vj vm bv wr => ∃ b : Nat, b ≤ n ∧ gk = n - b ∧ bv = .int .i64 b ∧ Asd (CpI w wr n M (fun k => S k ∨ k = wo.heap.size) (.slice An n cn) (.slice A n cp) (.int .i64 lo) (.int .i64 hi) a a a b b vJ vM vj vm) ∧ Asd (∀ y, y < b → badP n M a y = false) ∧ Asd (Blk wr wo.heap.size 3 #[.int .i64 a]))
      case atStart => exact ⟨0, Nat.zero_le _, rfl, rfl, HC2, ⟨fun y hy => by omega⟩, HQ⟩
      case round =>
        clear HC2 HQ
        obtain ⟨b, hb, rfl, rfl, HC2, HG, HQ⟩ := hrel
        have hb0 : (0 : Int) ≤ (b : Int) := Int.natCast_nonneg _
        by_cases hbn : b < n
        · have hbn' : (b : Int) < (n : Int) := by omega
          have hC3 := HC2.out.alloc (.cells #[.int .i64 b] 3)
          have hT3 := HW.out _ hC3.nx
          have t1 := hC3.box.cell 1
          have f0 := hC3.fn.cell 0
          have q0 := (HQ.out.alloc (.cells #[.int .i64 b] 3)).cell 0
          have q1 := (Blk.new wr 3 #[.int .i64 b]).cell 0
          have HL1 := Asd.mk (le_any hT3 t1 han hbn)
          have HL2 := Asd.mk (le_any hT3 t1 hbn han)
          have hca : Caught (wr.alloc (.cells #[.int .i64 b] 3)) w.heap.size (w.heap.size + 1 + 1) wo.heap.size wr.heap.size a b := ⟨f0, q0, q1⟩
          have HJ := Asd.mk (least_any n hn M (fun c => M a c && M b c) 55 58 #[.pointer (some ⟨w.heap.size, 0, none⟩)] #[.pointer (some ⟨w.heap.size + 1 + 1, 0, none⟩), .pointer (some ⟨wo.heap.size, 0, none⟩), .pointer (some ⟨wr.heap.size, 0, none⟩)] (wr.alloc (.cells #[.int .i64 b] 3)) ent1 ent3 (fun x y hx hy => le_any hT3 t1 hx hy) (fun c hc => up_any hT3 t1 hca han hbn hc))
          have HM := Asd.mk (least_any n hn (flipT M) (fun c => M c a && M c b) 56 59 #[.pointer (some ⟨w.heap.size, 0, none⟩)] #[.pointer (some ⟨w.heap.size + 1 + 1, 0, none⟩), .pointer (some ⟨wo.heap.size, 0, none⟩), .pointer (some ⟨wr.heap.size, 0, none⟩)] (wr.alloc (.cells #[.int .i64 b] 3)) ent2 ent4 (fun x y hx hy => ge_any hT3 t1 hx hy) (fun c hc => down_any hT3 t1 hca han hbn hc))
          have HC3 := Asd.mk hC3
          clear hC3 hT3 t1 f0 q0 q1 hca
          have f0 := HC3.out.fn.cell 0
          have q0 := (HQ.out.alloc (.cells #[.int .i64 b] 3)).cell 0
          obtain ⟨oj, hoj⟩ : ∃ o, jF n M a b = o := ⟨_, rfl⟩
          obtain ⟨om, hom⟩ : ∃ o, mF n M a b = o := ⟨_, rfl⟩
          rw [show leastF n M (fun c => M a c && M b c) = oj from hoj] at HJ
          rw [show leastF n (flipT M) (fun c => M c a && M c b) = om from hom] at HM
          have HOJ := Asd.mk hoj
          have HOM := Asd.mk hom
          clear hoj hom
          go_upto_region 12 with fail
          go_cut [48] (fun v wx => v = .bool (!decide (a = b) && (M a b && M b a)) ∧ wx = wr.alloc (.cells #[.int .i64 b] 3))
          case first =>
            clear HJ HM
            by_cases hab : a = b
            · have hne : ((a : Int) != (b : Int)) = false := by rw [hab]; simp
              have HV := Asd.mk (show (!decide (a = b) && (M a b && M b a)) = false by simp [hab])
              clear hab
              go_wp2
              go_meet
              case rel => exact ⟨by rw [HV.out], rfl⟩
            · have hne : ((a : Int) != (b : Int)) = true := by simp; omega
              cases h1 : M a b with
              | false =>
                rw [h1] at HL1
                have HV := Asd.mk (show (!decide (a = b) && (M a b && M b a)) = false by simp [h1])
                clear h1 hab
                go_wp2_with ((with_reducible refine HL1.out.mono ?_); rintro e w1 ⟨rfl, rfl⟩)
                go_meet
                case rel => exact ⟨by rw [HV.out], rfl⟩
              | true =>
                rw [h1] at HL1
                cases h2 : M b a with
                | false =>
                  rw [h2] at HL2
                  have HV := Asd.mk (show (!decide (a = b) && (M a b && M b a)) = false by simp [h2])
                  clear h1 h2 hab
                  go_wp2_with (first
                    | ((with_reducible refine HL1.out.mono ?_); rintro e w1 ⟨rfl, rfl⟩)
                    | ((with_reducible refine HL2.out.mono ?_); rintro e w1 ⟨rfl, rfl⟩))
                  go_meet
                  case rel => exact ⟨by rw [HV.out], rfl⟩
                | true =>
                  rw [h2] at HL2
                  have HV := Asd.mk (show (!decide (a = b) && (M a b && M b a)) = true by simp [hab, h1, h2])
                  clear h1 h2 hab
                  go_wp2_with (first
                    | ((with_reducible refine HL1.out.mono ?_); rintro e w1 ⟨rfl, rfl⟩)
                    | ((with_reducible refine HL2.out.mono ?_); rintro e w1 ⟨rfl, rfl⟩))
                  go_meet
                  case rel => exact ⟨by rw [HV.out], rfl⟩
          case rest =>
            obtain ⟨rfl, rfl⟩ := hcut
            clear HL1 HL2
            obtain ⟨x, hx⟩ : ∃ x, (!decide (a = b) && (M a b && M b a)) = x := ⟨_, rfl⟩
            rw [hx]
            cases x with
            | true =>
              have hbad : badP n M a b = true := by unfold badP; rw [hx]; rfl
              have HN := Asd.mk (okT_no han hbn hbad)
              clear hbad hx HJ HM
              obtain ⟨⟨r0, r1, r2, r3, r4, r5⟩, z0, z1, z2, z3, z4, z5⟩ := HC3.out.res.six
              go_wp2
              refine bodyPost_ret (v := .tuple #[.agg #[.slice none 0 0, .slice none 0 0, .slice none 0 0, .slice none 0 0, .int .i64 0, .int .i64 0], .bool false]) (by simp [results, Try.results37, go_sem, r0, r1, r2, r3, r4, r5]) rfl ?_
              unfold CpPost
              rw [if_neg (by rw [HN.out]; decide)]
              exact ⟨rfl, ((((((HC3.out.nx.setCell (by simp) _).setCell (by simp) _).setCell (by simp) _).setCell (by simp) _).setCell (by simp) _).setCell (by simp) _)⟩
            | false =>
              have hb2 : badP n M a b = !(oj.isSome && om.isSome) := by unfold badP; rw [hx, HOJ.out, HOM.out]; rfl
              clear hx
              cases oj with
              | none =>
                have HN := Asd.mk (okT_no han hbn hb2)
                clear hb2
                obtain ⟨⟨r0, r1, r2, r3, r4, r5⟩, z0, z1, z2, z3, z4, z5⟩ := HC3.out.res.six
                go_wp2_with (first
                  | ((with_reducible refine HJ.out.mono ?_); rintro e w1 ⟨rfl, rfl⟩)
                  | ((with_reducible refine HM.out.mono ?_); rintro e w1 ⟨rfl, rfl⟩))
                refine bodyPost_ret (v := .tuple #[.agg #[.slice none 0 0, .slice none 0 0, .slice none 0 0, .slice none 0 0, .int .i64 0, .int .i64 0], .bool false]) (by simp [results, Try.results37, go_sem, r0, r1, r2, r3, r4, r5]) rfl ?_
                unfold CpPost
                rw [if_neg (by rw [HN.out]; decide)]
                exact ⟨rfl, ((((((HC3.out.nx.setCell (by simp) _).setCell (by simp) _).setCell (by simp) _).setCell (by simp) _).setCell (by simp) _).setCell (by simp) _)⟩
              | some oj =>
                cases om with
                | none =>
                  have HN := Asd.mk (okT_no han hbn hb2)
                  clear hb2
                  obtain ⟨⟨r0, r1, r2, r3, r4, r5⟩, z0, z1, z2, z3, z4, z5⟩ := HC3.out.res.six
                  go_wp2_with (first
                    | ((with_reducible refine HJ.out.mono ?_); rintro e w1 ⟨rfl, rfl⟩)
                    | ((with_reducible refine HM.out.mono ?_); rintro e w1 ⟨rfl, rfl⟩))
                  refine bodyPost_ret (v := .tuple #[.agg #[.slice none 0 0, .slice none 0 0, .slice none 0 0, .slice none 0 0, .int .i64 0, .int .i64 0], .bool false]) (by simp [results, Try.results37, go_sem, r0, r1, r2, r3, r4, r5]) rfl ?_
                  unfold CpPost
                  rw [if_neg (by rw [HN.out]; decide)]
                  exact ⟨rfl, ((((((HC3.out.nx.setCell (by simp) _).setCell (by simp) _).setCell (by simp) _).setCell (by simp) _).setCell (by simp) _).setCell (by simp) _)⟩
                | some om =>
                  have HG2 : Asd (∀ y, y < b + 1 → badP n M a y = false) := ⟨fun y hy => by
                    by_cases e : y = b
                    · rw [e, hb2]; rfl
                    · exact HG.out y (by omega)⟩
                  clear hb2
                  go_wp2_with (first
                    | ((with_reducible refine HJ.out.mono ?_); rintro e w1 ⟨rfl, rfl⟩)
                    | ((with_reducible refine HM.out.mono ?_); rintro e w1 ⟨rfl, rfl⟩)
                    | (at_builtin; refine wpList_app1 rfl (.tmp 71) _ _ rfl E_ints rfl ((HC3.out.alloc _).j) ⟨wr.heap.size + 1, 0, none⟩ (((some oj).getD 0 : Nat) : Int) [.int .i64 ((some oj).getD 0 : Nat)] rfl (news_at (cs := #[.int .i64 ((some oj).getD 0 : Nat)]) (two_new' wr _ _ _)) (by simp [Value.oneCell']) 1 rfl (by omega) (by simp only [maxLen]; omega) (by have := HC3.out.nx.size; simp at this ⊢; omega) ?_; intro g1 cap1 w3 hown3 hg3 hat3; have HC4 := Asd.mk ((HC3.out.alloc _).appj (by rw [rowOf_succ, HOJ.out]; exact hown3) hg3 rfl (hat3.imp_right (fun e => by omega))); have HQ4 := Asd.mk (((HQ.out.alloc _).alloc _).grown hg3 (HC3.out.sR _ (.inr rfl)).1); clear hown3 hg3 hat3)
                    | (at_builtin; refine wpList_app1 rfl (.tmp 75) _ _ rfl E_ints rfl ((HC4.out.alloc _).m) ⟨w3.heap.size, 0, none⟩ (((some om).getD 0 : Nat) : Int) [.int .i64 ((some om).getD 0 : Nat)] rfl (news_at (cs := #[.int .i64 ((some om).getD 0 : Nat)]) (heap_alloc_new w3 _)) (by simp [Value.oneCell']) 1 rfl (by omega) (by simp only [maxLen]; omega) (by have := HC4.out.nx.size; simp at this ⊢; omega) ?_; intro g2 cap2 w4 hown4 hg4 hat4; have HC5 := Asd.mk ((HC4.out.alloc _).appm (by rw [rowOf_succ, HOM.out]; exact hown4) hg4 rfl (hat4.imp_right (fun e => by omega))); have HQ5 := Asd.mk ((HQ4.out.alloc _).grown hg4 (HC4.out.sR _ (.inr rfl)).2); clear hown4 hg4 hat4))
                  go_roundg (n - (b + 1))
                  case rel => exact ⟨b + 1, by omega, rfl, by go_num, HC5, HG2, HQ5⟩
                  case measure => omega
        · go_wp2
          obtain rfl : b = n := by omega
          obtain ⟨Aj, cj, rfl, hnj, hcj, -⟩ := HC2.out.j.sl
          obtain ⟨Am, cm, rfl, hnm, hcm, -⟩ := HC2.out.m.sl
          have hE := HC2.out.toE rfl rfl
          have HF2 : Asd (∀ x y, x < a + 1 → y < b → badP b M x y = false) := ⟨fun x y hx hy => by
            by_cases e : x = a
            · rw [e]; exact HG.out y hy
            · exact HF.out x y (by omega) hy⟩
          generalize hS2 : (fun k => (S k ∨ k = wo.heap.size) ∨ some k = (Value.slice Aj b cj).ownBlock ∨ some k = (Value.slice Am b cm).ownBlock) = S2 at hE
          clear hS2 HC2 HG HQ HC
          have HE := Asd.mk hE
          have cb2 := hE.box.cell 2
          have cb3 := hE.box.cell 3
          have hz0 := hE.box.lt
          clear hE
          go_region_law
            (first
              | ((refine step_app1 (by rfl) (.tmp 81) _ _ (by rfl) E_rows (by rfl) (CpE.J (show CpE w (World.drew (wr.alloc (.cells #[.slice Aj b cj] 59))) b M S2 _ _ _ _ vJ vM a a a vJ vM Aj Am from ((HE.out.alloc _).drewN 1))) ⟨wr.heap.size, 0, none⟩ (rowOf (jF b M) a b) [.slice Aj b cj] (CpE.repJ (show CpE w (World.drew (wr.alloc (.cells #[.slice Aj b cj] 59))) b M S2 _ _ _ _ vJ vM a a a vJ vM Aj Am from ((HE.out.alloc _).drewN 1)) hnj hcj) (news_at (cs := #[.slice Aj b cj]) (Blk.new wr 59 #[.slice Aj b cj])) (by simp [Value.oneCell']) 1 (by rfl) (by omega) (by simp only [maxLen]; omega) (by have := HE.out.nx.size; simp at this ⊢; omega) ?_; intro g1 cap1 w1 hown1 hg1 hat1; have HE1 := Asd.mk (CpE.appJ (show CpE w (World.drew (wr.alloc (.cells #[.slice Aj b cj] 59))) b M S2 _ _ _ _ vJ vM a a a vJ vM Aj Am from ((HE.out.alloc _).drewN 1)) (by rw [tabOf_succ]; exact hown1) hg1 rfl (hat1.imp_right (fun e => by rw [e]; exact Nat.le_refl _))); have cw3 := HE1.out.box.cell 3; have hz1 := HE1.out.box.lt; clear hown1 hg1 hat1))
              | ((refine step_app1 (by rfl) (.tmp 81) _ _ (by rfl) E_rows (by rfl) (CpE.J (show CpE w (World.drew ((wr.alloc (.cells #[.slice Aj b cj] 59)).alloc (.cells #[.slice Am b cm] 59))) b M S2 _ _ _ _ vJ vM a a a vJ vM Aj Am from (((HE.out.alloc _).alloc _).drewN 1))) ⟨wr.heap.size, 0, none⟩ (rowOf (jF b M) a b) [.slice Aj b cj] (CpE.repJ (show CpE w (World.drew ((wr.alloc (.cells #[.slice Aj b cj] 59)).alloc (.cells #[.slice Am b cm] 59))) b M S2 _ _ _ _ vJ vM a a a vJ vM Aj Am from (((HE.out.alloc _).alloc _).drewN 1)) hnj hcj) (news_at (cs := #[.slice Aj b cj]) ((Blk.new wr 59 #[.slice Aj b cj]).alloc _)) (by simp [Value.oneCell']) 1 (by rfl) (by omega) (by simp only [maxLen]; omega) (by have := HE.out.nx.size; simp at this ⊢; omega) ?_; intro g1 cap1 w1 hown1 hg1 hat1; have HE1 := Asd.mk (CpE.appJ (show CpE w (World.drew ((wr.alloc (.cells #[.slice Aj b cj] 59)).alloc (.cells #[.slice Am b cm] 59))) b M S2 _ _ _ _ vJ vM a a a vJ vM Aj Am from (((HE.out.alloc _).alloc _).drewN 1)) (by rw [tabOf_succ]; exact hown1) hg1 rfl (hat1.imp_right (fun e => by rw [e]; exact Nat.le_refl _))); have N2 := Asd.mk (Blk.grown (show Blk (World.drew ((wr.alloc (.cells #[.slice Aj b cj] 59)).alloc (.cells #[.slice Am b cm] 59))) (wr.heap.size + 1) 59 #[.slice Am b cm] from two_new' wr _ _ _) hg1 (fun e => by have := (HE.out.J.lt _ e.symm).2; omega)); have cw3 := HE1.out.box.cell 3; have hz1 := HE1.out.box.lt; clear hown1 hg1 hat1))
              | ((refine step_app1 (by rfl) (.tmp 81) _ _ (by rfl) E_rows (by rfl) (CpE.J (show CpE w (World.drew ((wr.alloc (.cells #[.slice Am b cm] 59)).alloc (.cells #[.slice Aj b cj] 59))) b M S2 _ _ _ _ vJ vM a a a vJ vM Aj Am from (((HE.out.alloc _).alloc _).drewN 1))) ⟨wr.heap.size + 1, 0, none⟩ (rowOf (jF b M) a b) [.slice Aj b cj] (CpE.repJ (show CpE w (World.drew ((wr.alloc (.cells #[.slice Am b cm] 59)).alloc (.cells #[.slice Aj b cj] 59))) b M S2 _ _ _ _ vJ vM a a a vJ vM Aj Am from (((HE.out.alloc _).alloc _).drewN 1)) hnj hcj) (news_at (cs := #[.slice Aj b cj]) (two_new' wr _ #[.slice Aj b cj] 59)) (by simp [Value.oneCell']) 1 (by rfl) (by omega) (by simp only [maxLen]; omega) (by have := HE.out.nx.size; simp at this ⊢; omega) ?_; intro g1 cap1 w1 hown1 hg1 hat1; have HE1 := Asd.mk (CpE.appJ (show CpE w (World.drew ((wr.alloc (.cells #[.slice Am b cm] 59)).alloc (.cells #[.slice Aj b cj] 59))) b M S2 _ _ _ _ vJ vM a a a vJ vM Aj Am from (((HE.out.alloc _).alloc _).drewN 1)) (by rw [tabOf_succ]; exact hown1) hg1 rfl (hat1.imp_right (fun e => by rw [e]; exact Nat.le_refl _))); have N2 := Asd.mk (Blk.grown (show Blk (World.drew ((wr.alloc (.cells #[.slice Am b cm] 59)).alloc (.cells #[.slice Aj b cj] 59))) wr.heap.size 59 #[.slice Am b cm] from (Blk.new wr _ _).alloc _) hg1 (fun e => by have := (HE.out.J.lt _ e.symm).2; omega)); have cw3 := HE1.out.box.cell 3; have hz1 := HE1.out.box.lt; clear hown1 hg1 hat1))
              | ((refine step_app1 (by rfl) (.tmp 86) _ _ (by rfl) E_rows (by rfl) (CpE.Mt (show CpE w (w1.alloc (.cells #[.slice Am b cm] 59)) b M S2 _ _ _ _ vJ vM (a + 1) a a _ vM Aj Am from HE1.out.alloc _)) ⟨w1.heap.size, 0, none⟩ (rowOf (mF b M) a b) [.slice Am b cm] (CpE.repM (show CpE w (w1.alloc (.cells #[.slice Am b cm] 59)) b M S2 _ _ _ _ vJ vM (a + 1) a a _ vM Aj Am from HE1.out.alloc _) hnm hcm) (news_at (cs := #[.slice Am b cm]) (Blk.new w1 59 #[.slice Am b cm])) (by simp [Value.oneCell']) 1 (by rfl) (by omega) (by simp only [maxLen]; omega) (by have := HE1.out.nx.size; simp at this ⊢; omega) ?_; intro g2 cap2 w2 hown2 hg2 hat2; have HE2 := Asd.mk (CpE.appM (show CpE w (w1.alloc (.cells #[.slice Am b cm] 59)) b M S2 _ _ _ _ vJ vM (a + 1) a a _ vM Aj Am from HE1.out.alloc _) (by rw [tabOf_succ]; exact hown2) hg2 rfl (hat2.imp_right (fun e => by rw [e]; exact Nat.le_refl _))); have fb2 := HE2.out.box.free 2; have fb3 := HE2.out.box.free 3; have cb3 := HE2.out.box.cell 3; have cb2 := HE2.out.box.cell 2; clear hown2 hg2 hat2))
              | ((refine step_app1 (by rfl) (.tmp 86) _ _ (by rfl) E_rows (by rfl) (CpE.Mt HE1.out) ⟨wr.heap.size + 1, 0, none⟩ (rowOf (mF b M) a b) [.slice Am b cm] (CpE.repM HE1.out hnm hcm) (news_at (cs := #[.slice Am b cm]) N2.out) (by simp [Value.oneCell']) 1 (by rfl) (by omega) (by simp only [maxLen]; omega) (by have := HE1.out.nx.size; simp at this ⊢; omega) ?_; intro g2 cap2 w2 hown2 hg2 hat2; have HE2 := Asd.mk (CpE.appM HE1.out (by rw [tabOf_succ]; exact hown2) hg2 rfl (hat2.imp_right (fun e => by rw [e]; exact Nat.le_refl _))); have fb2 := HE2.out.box.free 2; have fb3 := HE2.out.box.free 3; have cb3 := HE2.out.box.cell 3; have cb2 := HE2.out.box.cell 2; clear hown2 hg2 hat2))
              | ((refine step_app1 (by rfl) (.tmp 86) _ _ (by rfl) E_rows (by rfl) (CpE.Mt HE1.out) ⟨wr.heap.size, 0, none⟩ (rowOf (mF b M) a b) [.slice Am b cm] (CpE.repM HE1.out hnm hcm) (news_at (cs := #[.slice Am b cm]) N2.out) (by simp [Value.oneCell']) 1 (by rfl) (by omega) (by simp only [maxLen]; omega) (by have := HE1.out.nx.size; simp at this ⊢; omega) ?_; intro g2 cap2 w2 hown2 hg2 hat2; have HE2 := Asd.mk (CpE.appM HE1.out (by rw [tabOf_succ]; exact hown2) hg2 rfl (hat2.imp_right (fun e => by rw [e]; exact Nat.le_refl _))); have fb2 := HE2.out.box.free 2; have fb3 := HE2.out.box.free 3; have cb3 := HE2.out.box.cell 3; have cb2 := HE2.out.box.cell 2; clear hown2 hg2 hat2)))
          all_goals
            have HC6 := Asd.mk (HE2.out.done 0)
            clear HE HE1 HE2
            go_wp2
            go_roundg (b - (a + 1))
            case rel => exact ⟨a + 1, S2, _, _, by omega, rfl, by go_num, HC6, HF2⟩
            case measure => omega
    · obtain rfl : a = n := by omega
      have hT3 := HW.out _ HC.out.nx
      have HLo := Asd.mk (least_any a hn M (fun _ => true) 55 60 #[.pointer (some ⟨w.heap.size, 0, none⟩)] #[] wr ent1 ent5 (fun x y hx hy => le_any hT3 (HC.out.box.cell 1) hx hy) (fun c _ => yes_low c wr))
      have HHi := Asd.mk (least_any a hn (flipT M) (fun _ => true) 56 61 #[.pointer (some ⟨w.heap.size, 0, none⟩)] #[] wr ent2 ent6 (fun x y hx hy => ge_any hT3 (HC.out.box.cell 1) hx hy) (fun c _ => yes_high c wr))
      have hok : okT a M = true := okT_yes (fun x y hx hy => HF.out x y hx hy)
      have HOK := Asd.mk hok
      rw [show leastF a M (fun _ => true) = lowF a M from rfl] at HLo
      rw [show leastF a (flipT M) (fun _ => true) = highF a M from rfl] at HHi
      have f0 := HC.out.fn.cell 0
      obtain ⟨⟨x0, x1, x2, x3, x4, x5⟩, y0, y1, y2, y3, y4, y5⟩ := HC.out.box.six
      obtain ⟨⟨r0, r1, r2, r3, r4, r5⟩, z0, z1, z2, z3, z4, z5⟩ := HC.out.res.six
      obtain ⟨AJ, cJ, hvJ, -, -, -⟩ := HC.out.J.sl
      obtain ⟨AM, cM, hvM, -, -, -⟩ := HC.out.Mt.sl
      subst hvJ hvM
      obtain ⟨ol, hol⟩ : ∃ o, lowF a M = o := ⟨_, rfl⟩
      obtain ⟨oh, hoh⟩ : ∃ o, highF a M = o := ⟨_, rfl⟩
      rw [hol] at HLo
      rw [hoh] at HHi
      have HOL := Asd.mk hol; have HOH := Asd.mk hoh
      clear hT3 hok hol hoh han
      have hne1 : ¬ w.heap.size = w.heap.size + 1 := by omega
      have hne2 : ¬ w.heap.size + 1 = w.heap.size := by omega
      generalize hlo : ol.getD 0 = lo' at *
      generalize hhi : oh.getD 0 = hi' at *
      have HLO := Asd.mk hlo; have HHI := Asd.mk hhi
      clear hlo hhi
      obtain ⟨bl, hbl⟩ : ∃ b, ol.isSome = b := ⟨_, rfl⟩
      obtain ⟨bh, hbh⟩ : ∃ b, oh.isSome = b := ⟨_, rfl⟩
      rw [hbl] at HLo
      rw [hbh] at HHi
      have HBL := Asd.mk hbl; have HBH := Asd.mk hbh
      clear hbl hbh
      cases bl with
      | true =>
        go_wp2_with fail
        refine HLo.out.mono ?_
        rintro e w1 ⟨rfl, rfl⟩
        go_wp2_with fail
        refine HHi.out.mono ?_
        rintro e w1 ⟨rfl, rfl⟩
        go_wp2_with fail
        have hB6 : Blk (sets6 ((w1.setCell ⟨w.heap.size, 4, none⟩ (.int .i64 (lo' : Nat))).setCell ⟨w.heap.size, 5, none⟩ (.int .i64 (hi' : Nat))) (w.heap.size + 1) (.slice An a cn) (.slice A a cp) (.slice AJ a cJ) (.slice AM a cM) (.int .i64 (lo' : Nat)) (.int .i64 (hi' : Nat))) (w.heap.size + 1) 42 #[.slice An a cn, .slice A a cp, .slice AJ a cJ, .slice AM a cM, .int .i64 (lo' : Nat), .int .i64 (hi' : Nat)] := (((((((HC.out.res.far (by simp) _).far (by simp) _).set_ 0 _).set_ 1 _).set_ 2 _).set_ 3 _).set_ 4 _).set_ 5 _
        obtain ⟨⟨t0, t1, t2, t3, t4, t5⟩, -⟩ := hB6.six
        refine bodyPost_ret (v := .tuple #[.agg #[.slice An a cn, .slice A a cp, .slice AJ a cJ, .slice AM a cM, .int .i64 (lo' : Nat), .int .i64 (hi' : Nat)], .bool bh]) (by simp [results, Try.results37, go_sem, t0, t1, t2, t3, t4, t5]) rfl ?_
        have hkeep : ∀ b, b ≠ w.heap.size → b ≠ w.heap.size + 1 → (sets6 ((w1.setCell ⟨w.heap.size, 4, none⟩ (.int .i64 (lo' : Nat))).setCell ⟨w.heap.size, 5, none⟩ (.int .i64 (hi' : Nat))) (w.heap.size + 1) (.slice An a cn) (.slice A a cp) (.slice AJ a cJ) (.slice AM a cM) (.int .i64 (lo' : Nat)) (.int .i64 (hi' : Nat))).heap[b]? = w1.heap[b]? := fun b h1 h2 => ((sets6_keep _ _ _ _ _ _ _ _ h2).trans (Below.heap_setCell _ _ _ _ h1)).trans (Below.heap_setCell _ _ _ _ h1)
        have hkJ : ∀ b, (S b ∨ some b = (Value.slice AJ a cJ).ownBlock) → b ≠ w.heap.size ∧ b ≠ w.heap.size + 1 := fun b hb => by
          rcases hb with hb | hb
          · obtain ⟨_, cs, hc⟩ := HC.out.sT b hb
            exact ⟨hc.ne_ HC.out.box (by decide), hc.ne_ HC.out.res (by decide)⟩
          · exact ⟨fun e => HC.out.J.blk_ne HC.out.box (by decide) (e ▸ hb), fun e => HC.out.J.blk_ne HC.out.res (by decide) (e ▸ hb)⟩
        have hkM : ∀ b, (S b ∨ some b = (Value.slice AM a cM).ownBlock) → b ≠ w.heap.size ∧ b ≠ w.heap.size + 1 := fun b hb => by
          rcases hb with hb | hb
          · obtain ⟨_, cs, hc⟩ := HC.out.sT b hb
            exact ⟨hc.ne_ HC.out.box (by decide), hc.ne_ HC.out.res (by decide)⟩
          · exact ⟨fun e => HC.out.Mt.blk_ne HC.out.box (by decide) (e ▸ hb), fun e => HC.out.Mt.blk_ne HC.out.res (by decide) (e ▸ hb)⟩
        unfold CpPost
        rw [if_pos HOK.out, HOL.out, HOH.out, HLO.out, HHI.out, HBL.out, HBH.out]
        exact ⟨S, _, _, rfl, HC.out.J.keepH (fun b hb => hkeep b (hkJ b hb).1 (hkJ b hb).2) (by simp [World.setCell]), HC.out.Mt.keepH (fun b hb => hkeep b (hkM b hb).1 (hkM b hb).2) (by simp [World.setCell]), fun k hk => (HC.out.sT k hk).1, sets6_below ((HC.out.nx.setCell (Nat.le_refl _) _).setCell (Nat.le_refl _) _) (Nat.le_succ _) _ _ _ _ _ _⟩
      | false =>
        go_wp2_with fail
        refine HLo.out.mono ?_
        rintro e w1 ⟨rfl, rfl⟩
        go_wp2_with fail
        refine HHi.out.mono ?_
        rintro e w1 ⟨rfl, rfl⟩
        go_wp2_with fail
        have hB6 : Blk (sets6 ((w1.setCell ⟨w.heap.size, 4, none⟩ (.int .i64 (lo' : Nat))).setCell ⟨w.heap.size, 5, none⟩ (.int .i64 (hi' : Nat))) (w.heap.size + 1) (.slice An a cn) (.slice A a cp) (.slice AJ a cJ) (.slice AM a cM) (.int .i64 (lo' : Nat)) (.int .i64 (hi' : Nat))) (w.heap.size + 1) 42 #[.slice An a cn, .slice A a cp, .slice AJ a cJ, .slice AM a cM, .int .i64 (lo' : Nat), .int .i64 (hi' : Nat)] := (((((((HC.out.res.far (by simp) _).far (by simp) _).set_ 0 _).set_ 1 _).set_ 2 _).set_ 3 _).set_ 4 _).set_ 5 _
        obtain ⟨⟨t0, t1, t2, t3, t4, t5⟩, -⟩ := hB6.six
        refine bodyPost_ret (v := .tuple #[.agg #[.slice An a cn, .slice A a cp, .slice AJ a cJ, .slice AM a cM, .int .i64 (lo' : Nat), .int .i64 (hi' : Nat)], .bool false]) (by simp [results, Try.results37, go_sem, t0, t1, t2, t3, t4, t5]) rfl ?_
        have hkeep : ∀ b, b ≠ w.heap.size → b ≠ w.heap.size + 1 → (sets6 ((w1.setCell ⟨w.heap.size, 4, none⟩ (.int .i64 (lo' : Nat))).setCell ⟨w.heap.size, 5, none⟩ (.int .i64 (hi' : Nat))) (w.heap.size + 1) (.slice An a cn) (.slice A a cp) (.slice AJ a cJ) (.slice AM a cM) (.int .i64 (lo' : Nat)) (.int .i64 (hi' : Nat))).heap[b]? = w1.heap[b]? := fun b h1 h2 => ((sets6_keep _ _ _ _ _ _ _ _ h2).trans (Below.heap_setCell _ _ _ _ h1)).trans (Below.heap_setCell _ _ _ _ h1)
        have hkJ : ∀ b, (S b ∨ some b = (Value.slice AJ a cJ).ownBlock) → b ≠ w.heap.size ∧ b ≠ w.heap.size + 1 := fun b hb => by
          rcases hb with hb | hb
          · obtain ⟨_, cs, hc⟩ := HC.out.sT b hb
            exact ⟨hc.ne_ HC.out.box (by decide), hc.ne_ HC.out.res (by decide)⟩
          · exact ⟨fun e => HC.out.J.blk_ne HC.out.box (by decide) (e ▸ hb), fun e => HC.out.J.blk_ne HC.out.res (by decide) (e ▸ hb)⟩
        have hkM : ∀ b, (S b ∨ some b = (Value.slice AM a cM).ownBlock) → b ≠ w.heap.size ∧ b ≠ w.heap.size + 1 := fun b hb => by
          rcases hb with hb | hb
          · obtain ⟨_, cs, hc⟩ := HC.out.sT b hb
            exact ⟨hc.ne_ HC.out.box (by decide), hc.ne_ HC.out.res (by decide)⟩
          · exact ⟨fun e => HC.out.Mt.blk_ne HC.out.box (by decide) (e ▸ hb), fun e => HC.out.Mt.blk_ne HC.out.res (by decide) (e ▸ hb)⟩
        unfold CpPost
        rw [if_pos HOK.out, HOL.out, HOH.out, HLO.out, HHI.out, HBL.out, HBH.out]
        exact ⟨S, _, _, rfl, HC.out.J.keepH (fun b hb => hkeep b (hkJ b hb).1 (hkJ b hb).2) (by simp [World.setCell]), HC.out.Mt.keepH (fun b hb => hkeep b (hkM b hb).1 (hkM b hb).2) (by simp [World.setCell]), fun k hk => (HC.out.sT k hk).1, sets6_below ((HC.out.nx.setCell (Nat.le_refl _) _).setCell (Nat.le_refl _) _) (Nat.le_succ _) _ _ _ _ _ _⟩
end Go.Proofs.Ythfoaehjnoiniaa
