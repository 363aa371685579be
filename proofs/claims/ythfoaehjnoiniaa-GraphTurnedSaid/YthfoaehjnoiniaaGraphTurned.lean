/- aquiferlaw17.GraphTurned, walked: it returns true and leaves all that was there as it was. -/
import Derived.Test.YthfoaehjnoiniaaGraphAwake
import Derived.Test.YthfoaehjnoiniaaGraphPure
namespace Go.Proofs.Ythfoaehjnoiniaa
open Go.RowKit

theorem turned_in {α : Type} {r : Rep α} {w V : World} {B H base n : Nat} {e : TypeId} {v : Value} {xs : List α} (h : Own r w (fun b => B ≤ b ∧ b < H ∧ some b ≠ v.ownBlock) base e v n xs) (hb : Below w.heap.size w V) (hH : H ≤ w.heap.size) :
    Own r V (fun b => B ≤ b ∧ b < V.heap.size ∧ some b ≠ v.ownBlock) base e v n xs :=
  (h.call hb).mono (fun _ hb' => ⟨hb'.1, by have := hb.size; omega, hb'.2.2⟩) fun _ hb' => hb'.2
theorem turned_out {α : Type} {r : Rep α} {V : World} {B H base n : Nat} {e : TypeId} {v u : Value} {xs : List α} (h : Own r V (fun b => B ≤ b ∧ b < H ∧ some b ≠ u.ownBlock) base e v n xs) :
    Own r V (fun b => B ≤ b ∧ b < V.heap.size ∧ some b ≠ v.ownBlock) base e v n xs :=
  h.mono (fun b hb' => ⟨hb'.1, h.off b hb'⟩) fun _ hb' => hb'.2
set_option maxHeartbeats 4000000 in
set_option maxRecDepth 100000 in
theorem turned_any (n : Int) (A : Option Addr) (m c : Nat) (ns : List Int) (S : Nat → Prop) (w : World) (h0 : 0 ≤ n) (h1 : n ≤ 255) (hm : ns.length = m) (hmb : m ≤ 9223372036854775807) (hS : ∀ b, S b → b < w.heap.size) (hr : Sl (rInt .u8) w S A ns) (hns : ∀ x, x ∈ ns → 0 ≤ x ∧ x ≤ 255) :
    Calls Try.prog 3 #[.int .u8 n, .slice A m c] w fun e w' => e = .returned (.bool true) ∧ Below w.heap.size w w' := by
  have HL := Asd.mk (letters_any n A m c ns S w h0 h1 hm hmb hS hr hns)
  clear h0 h1 hm hmb hS hr hns
  go_enter Try.func3, Try.ntmps3
  go_wp2_with (first
    | (go_at_call 9; refine HL.out.mono ?_; rintro e w1 ⟨g, k, cap, rfl, hk, hrow, hcap, hb1⟩; have hk8 : k ≤ 8 := (by omega); have hk1 : 1 ≤ k := (by omega); clear hk))
  obtain ⟨hnd, hzz⟩ := letters_names k hk8 ns (min 20 (m / 2))
  have hed := lFill_edges k ns (min 20 (m / 2))
  have hll := lFill_len k ns (min 20 (m / 2))
  generalize lFill k ns (min 20 (m / 2)) = l at *
  have HND := Asd.mk hnd; have HZZ := Asd.mk hzz; have HED := Asd.mk (Nat.le_trans hed (Nat.min_le_left _ _)); have HLL := Asd.mk hll
  have HROW := Asd.mk hrow.sl
  have hglt := hrow.lt
  have hs1 := hb1.size
  clear hnd hzz hed hll HL hrow
  go_loopw [6, 7] (fun vm i wr => ∃ r H, r ≤ k ∧ i = .int .i64 ((r : Nat) - 1 : Int) ∧ Below w1.heap.size w1 wr ∧ H ≤ wr.heap.size ∧ w1.heap.size ≤ H ∧ Own rNode wr (fun b => w1.heap.size ≤ b ∧ b < H ∧ some b ≠ vm.ownBlock) w1.heap.size 27 vm (k - r) (mT (l.drop r)) ∧ (∀ q, vm.ownBlock = some q → q < H)) (fun _ i _ => (intOf i + 1).toNat)
  case atStart =>
    refine ⟨k, w1.heap.size, Nat.le_refl _, rfl, Below.refl _ _, Nat.le_refl _, Nat.le_refl _, ?_, by simp [Value.ownBlock]⟩
    have e1 : l.drop k = [] := by rw [List.drop_eq_nil_iff]; have := HLL.out; omega
    rw [e1, Nat.sub_self]
    exact Own.nil rNode _ (fun b h => by omega) _ _
  case round =>
    obtain ⟨r, H, hr, rfl, hnx, hH, hH1, hvm, hvlt⟩ := hrel
    have hsz := hnx.size
    rcases Nat.eq_zero_or_pos r with h0 | h0
    · subst h0
      rw [Nat.sub_zero, List.drop_zero] at hvm
      obtain ⟨gm, capm, hve, _, _, _⟩ := hvm.form (by omega)
      subst hve
      have HL1 := Asd.mk (order_any (some ⟨g, 0, none⟩) k cap l (fun b => w.heap.size ≤ b ∧ b < w1.heap.size) wr HLL.out (by omega) (fun b h => by omega) (HROW.out.below hnx (fun b h => h.2)) (by have := HED.out; omega) HND.out)
      have HM1 : Asd (∀ V, Below wr.heap.size wr V → Calls Try.prog 10 #[.slice (some ⟨gm, 0, none⟩) k capm] V fun e w' => ∃ vo vc, e = .returned (.tuple #[vo, vc, .int .i64 0]) ∧
          Own rStr w' NoB V.heap.size 9 vo (orderOf (Way (toOf l l)) (l.map (·.1))).length (orderOf (Way (toOf l l)) (l.map (·.1))) ∧ Own rStr w' NoB V.heap.size 9 vc (circleOf (Way (toOf l l)) (l.map (·.1))).length (circleOf (Way (toOf l l)) (l.map (·.1))) ∧ Below V.heap.size V w') := ⟨fun V hV => by
        have hvm' := hvm.call hV
        obtain ⟨A1, c1, e1, _, _, hsl⟩ := hvm'.sl
        injection e1 with e1 _ e2
        subst e1 e2
        obtain ⟨s1, s2⟩ := mT_same l HZZ.out
        have hord := order_any (some ⟨gm, 0, none⟩) k capm (mT l) _ V (by unfold mT; simp; exact HLL.out) (by omega) (fun b h => h.elim (fun h => (hvm'.off b h).1) (fun h => (hvm'.lt b h.symm).2)) hsl (by have := mT_edges l; have := HED.out; have := HLL.out; omega) (by rw [mT_names]; exact List.pairwise_reverse.2 (HND.out.imp Ne.symm))
        rw [s1, s2] at hord
        exact hord⟩
      have hon : (orderOf (Way (toOf l l)) (l.map (·.1))).length ≤ 1000 := by have := (order_len (Way (toOf l l)) (l.map (·.1))).1; have := HLL.out; simp at *; omega
      have hcn : (circleOf (Way (toOf l l)) (l.map (·.1))).length ≤ 1000 := by have := (order_len (Way (toOf l l)) (l.map (·.1))).2; have := HLL.out; simp at *; omega
      generalize orderOf (Way (toOf l l)) (l.map (·.1)) = oo at *
      generalize circleOf (Way (toOf l l)) (l.map (·.1)) = cc at *
      clear hvm hvlt
      go_wp2_with (first
        | (go_at_call_of 10 (Value.slice (some ⟨g, 0, none⟩) k cap); refine HL1.out.mono ?_; rintro e w2 ⟨vo, vc, rfl, ho, hc, hb2⟩; obtain ⟨Ao, co, rfl, _, _, hso⟩ := ho.sl; obtain ⟨Ac, ck, rfl, _, _, hsc⟩ := hc.sl)
        | (go_at_call_of 10 (Value.slice (some ⟨gm, 0, none⟩) k capm); refine (HM1.out _ hb2).mono ?_; rintro e w3 ⟨vp, vd, rfl, hp, hd, hb3⟩; obtain ⟨Ap, cp, rfl, _, _, hsp⟩ := hp.sl; obtain ⟨Ad, cd, rfl, _, _, hsd⟩ := hd.sl)
        | (go_at_call 11; refine (num_any _ _).mono ?_; rintro e w4 ⟨rfl, rfl⟩)
        | (go_at_call_of 12 (Value.slice Ao oo.length co); refine (texts_any Ao Ap _ _ co cp oo oo _ _ w3 rfl rfl (by omega) (by omega) (fun b h => (ho.call hb3).lt b (h.resolve_left (fun h => h)).symm |>.2) (fun b h => hp.lt b (h.resolve_left (fun h => h)).symm |>.2) (hso.below hb3 (fun b h => ho.lt b (h.resolve_left (fun h => h)).symm |>.2)) hsp).mono ?_; rintro e w5 ⟨rfl, hb5⟩; have hq5 : decide (oo = oo) = true := decide_eq_true rfl)
        | (go_at_call_of 12 (Value.slice Ac cc.length ck); refine (texts_any Ac Ad _ _ ck cd cc cc _ _ w5 rfl rfl (by omega) (by omega) (fun b h => ((hc.call hb3).call hb5).lt b (h.resolve_left (fun h => h)).symm |>.2) (fun b h => (hd.call hb5).lt b (h.resolve_left (fun h => h)).symm |>.2) ((hsc.below hb3 (fun b h => hc.lt b (h.resolve_left (fun h => h)).symm |>.2)).below hb5 (fun b h => (hc.call hb3).lt b (h.resolve_left (fun h => h)).symm |>.2)) (hsd.below hb5 (fun b h => hd.lt b (h.resolve_left (fun h => h)).symm |>.2))).mono ?_; rintro e w6 ⟨rfl, hb6⟩; have hq6 : decide (cc = cc) = true := decide_eq_true rfl)
        | (go_at_call 13; refine (awake17_any w6).mono ?_; rintro e w7 ⟨rfl, hb7⟩))
      go_ret
      exact ⟨rfl, below_call (below_call (below_call (below_call (below_call (below_call hb1 (hnx.trans (Below.refl _ _))) hb2) hb3) hb5) hb6) hb7⟩
    · obtain ⟨q, rfl⟩ : ∃ q, r = q + 1 := ⟨r - 1, by omega⟩
      obtain ⟨p, hp⟩ : ∃ p, l[q]? = some p := ⟨_, List.getElem?_eq_getElem (by have := HLL.out; omega)⟩
      obtain ⟨ad, cs, e1, _, ⟨A', c', rfl, hc', hnil, hsub⟩, hc0, hcj⟩ := (HROW.out.below (hnx) (fun b h => h.2)).atN hp
      injection e1 with e1
      subst e1
      have g0 : wr.cell? ⟨g, q * 2, none⟩ = some (.string p.1) := by have h := hc0 _ rfl; rw [add_plain', Nat.zero_add] at h; exact h
      have g1 : wr.cell? ⟨g, q * 2 + 1, none⟩ = some (.slice A' p.2.length c') := by have h := hcj 1 _ (by omega) rfl; rw [add_plain', Nat.zero_add] at h; exact h
      have hd0 : decide ((0 : Int) ≤ (q : Int)) = true := by simp
      have hqk : (q : Int) < (k : Int) := by omega
      have hq0 : (0 : Int) ≤ (q : Int) := by omega
      have hglr : g < wr.heap.size := by omega
      have HP := Asd.mk hp
      have HSUB := Asd.mk hsub
      have hpl : p.2.length ≤ 20 := by
        have h1 := edges_take l (q + 1)
        rw [take_snoc' l hp, edges_snoc] at h1
        have := HED.out
        omega
      generalize hpn : p.2.length = pn at g1 hpl
      have HPN := Asd.mk hpn
      clear hc0 hcj hp hsub hpn hc' hnil
      go_wp2
      obtain ⟨wz, hz⟩ : ∃ wz, wz = wr := ⟨_, rfl⟩
      subst hz
      go_loopw [9] (fun kk wr => ∃ (s nn : Nat) (v : Value), s ≤ pn ∧ kk = .int .i64 ((s : Int) - 1) ∧ Blk wr (wz.heap.size + 1) 27 #[.string p.1, v] ∧ Own rStr wr NoB wz.heap.size 9 v nn (zz :: dup (p.2.drop s).reverse) ∧ nn + 2 * s = 1 + 2 * pn ∧ Below wz.heap.size wz wr) (fun kk _ => (intOf kk + 1).toNat)
      case atStart =>
        have e1 : p.2.drop pn = [] := by rw [List.drop_eq_nil_iff]; have := HPN.out; omega
        exact ⟨pn, 1, .slice (some ⟨wz.heap.size, 0, none⟩) 1 1, Nat.le_refl _, rfl, two_new wz _ _ _, by rw [e1]; exact (own_lit1 wz wz.heap.size (Nat.le_refl _) 9 zz).alloc _, by omega, ((Below.refl _ _).alloc (Nat.le_refl _) _).alloc (by simp) _⟩
      case round =>
        obtain ⟨s, nn, v, hs, rfl, hblk, hv, hnn, hb2⟩ := hrel
        have hs2 := hb2.size
        have hbl := hblk.lt
        rcases Nat.eq_zero_or_pos s with h0' | h0'
        · subst h0'
          have c0 : wr.cell? ⟨wz.heap.size + 1, 0, none⟩ = some (.string p.1) := hblk.cell 0
          obtain ⟨g3, cap3, hve, hc3, _, _⟩ := hv.form (by omega)
          subst hve
          have c1 : wr.cell? ⟨wz.heap.size + 1, 1, none⟩ = some (.slice (some ⟨g3, 0, none⟩) nn cap3) := hblk.cell 1
          have HVM := Asd.mk (((turned_in hvm hb2 hH).alloc (.cells #[.string p.1, .slice (some ⟨g3, 0, none⟩) nn cap3] 27)))
          have hel := hv.len
          have HSL : Asd (Sl rStr wr (fun b => w1.heap.size ≤ b ∧ b < wr.heap.size ∧ some b ≠ u6.ownBlock) (some ⟨g3, 0, none⟩) (zz :: dup (p.2.drop 0).reverse)) := by
            obtain ⟨A3, c3, e3, _, _, hsl⟩ := hv.sl
            injection e3 with e3
            subst e3
            have hg3 := hv.lt g3 rfl
            refine ⟨hsl.mono fun b hb => ?_⟩
            rcases hb with hb | hb
            · exact hb.elim
            · injection hb with hb
              subst hb
              exact ⟨by omega, hg3.2, fun e => by have := hvlt _ e.symm; omega⟩
          have HVLT := Asd.mk hvlt
          clear hvm hvlt hv
          have hR3 : rNode.R (wr.alloc (.cells #[.string p.1, .slice (some ⟨g3, 0, none⟩) nn cap3] 27)) (fun b => w1.heap.size ≤ b ∧ b < wr.heap.size ∧ some b ≠ u6.ownBlock) (mTurn p) [.string p.1, .slice (some ⟨g3, 0, none⟩) nn cap3] :=
            ⟨some ⟨g3, 0, none⟩, cap3, by rw [← hel]; rfl, by rw [← hel] at hc3; exact hc3, fun e => (List.cons_ne_nil _ _ e).elim, HSL.out.keep fun b hb => heap_alloc_old _ _ hb.2.1⟩
          have HR3 := Asd.mk hR3
          clear hR3
          go_wp2_with (first
            | (at_builtin; refine wpList_app1 rfl (.tmp 65) _ _ rfl E_node rfl HVM.out ⟨wr.heap.size, 0, none⟩ (mTurn p) [.string p.1, .slice (some ⟨g3, 0, none⟩) nn cap3] HR3.out (news_at (cs := #[.string p.1, .slice (some ⟨g3, 0, none⟩) nn cap3]) (heap_alloc_new wr _)) (by simp [Value.oneCell']) 1 rfl (by omega) (by simp only [maxLen]; omega) (by simp; omega) ?_; intro gq capq w3 hown3 hg3 hat3))
          go_roundw
          case rel =>
            have hgg := grown_alloc hg3
            have hsz3 := hgg.size
            refine ⟨q, w3.heap.size, by omega, by go_num, hnx.grown (grown_trans' (grown_below hb2 _) hgg) hsz (fun q hq => (HVM.out.lt q hq).1), Nat.le_refl _, by omega, ?_, fun z hz => ?_⟩
            · have e2 : k - q = k - (q + 1) + 1 := by omega
              rw [e2, mT_snoc l HP.out]
              exact turned_out hown3
            · exact (hown3.lt z hz).2
          case measure => simp [intOf]
        · obtain ⟨z, rfl⟩ : ∃ z, s = z + 1 := ⟨s - 1, by omega⟩
          obtain ⟨t, ht⟩ : ∃ t, p.2[z]? = some t := ⟨_, List.getElem?_eq_getElem (by have := HPN.out; omega)⟩
          obtain ⟨ad', u, rfl, hab, hu, hcu⟩ := HSUB.out.at1 ht rfl
          have hu' : [u] = [Value.string t] := hu
          injection hu' with hu' _
          subst hu'
          have HT := Asd.mk ht
          have HSS : Asd (∀ V, Below wz.heap.size wz V → V.cell? ⟨g, q * 2 + 1, none⟩ = some (.slice (some ad') pn c') ∧ V.cell? (ad'.add z) = some (.string t)) := ⟨fun V hV => ⟨(hV.cell (p := ⟨g, _, none⟩) hglr).trans g1, (hV.cell (p := ad'.add z) (by rw [add_block]; omega)).trans hcu⟩⟩
          obtain ⟨k1, k2⟩ := HSS.out wr hb2
          have b1 : wr.cell? ⟨wz.heap.size + 1, 1, none⟩ = some v := hblk.cell 1
          clear hu ht hcu g0 g1
          go_wp2
          have hA1 : (nn + 2) * 16 ≤ 140737488355328 := by omega
          have hA2 : nn + 2 ≤ maxLen := by simp only [maxLen]; omega
          have hA3 : wz.heap.size ≤ wr.heap.size + 1 := by omega
          have hz0 : (0 : Int) ≤ (z : Int) := Int.natCast_nonneg _
          have hz1 : (z : Int) < (pn : Int) := by omega
          have hs1 : IntKind.i64.wrap ((z : Int) - 1) = (z : Int) - 1 := IntWalk.i64_in _ (by omega)
          go_region_law ((refine step_appSl (by rfl) _ _ _ (by rfl) E_string (by rfl) (((hv.alloc _).drewN 1) : Own rStr (World.drew _) NoB wz.heap.size 9 v nn _) (lit_strs (w := (wr.alloc (.cells #[.string t, .string t] 9)).drew) (cs := #[.string t, .string t]) (e := 9) (g := wr.heap.size) (Blk.new wr 9 #[.string t, .string t]) (fun b => b = wr.heap.size) rfl [t, t] rfl) (by rfl) (fun y cs h => ⟨h, by rw [show cs = [.string y] from h]; simp [Value.oneCell']⟩) (by rfl) hA1 hA2 (by simpa using hA3) ?_; intro v' w3 hv3 hg3 hat3 _; obtain ⟨g3, cap3, he3, _, _, _⟩ := hv3.form (by omega); subst he3; have hgw := grown_alloc_drew hg3; have hb3 : Below wz.heap.size wz w3 := hb2.grown hgw hs2 (fun q hq => (hv.lt q hq).1); have hbk3 := hblk.grown hgw (own_blk_ne hv.strs hblk (by decide)); have cb3 : w3.cell? ⟨wz.heap.size + 1, 1, none⟩ = some v := hbk3.cell 1; have fb3 := hbk3.free 1))
          all_goals
            have hbz := hb3.setCell (p := ⟨wz.heap.size + 1, 1, none⟩) (by simp) (.slice (some ⟨g3, 0, none⟩) (nn + 2) cap3)
            have hbk4 := hbk3.set_ 1 (.slice (some ⟨g3, 0, none⟩) (nn + 2) cap3)
            have hv4 := hv3.set_ (p := ⟨wz.heap.size + 1, 1, none⟩) (own_blk_ne hv3.strs hbk3 (by decide)) (fun b h => h.elim) (.slice (some ⟨g3, 0, none⟩) (nn + 2) cap3)
            have HBK4 := Asd.mk hbk4
            have HV4 := Asd.mk hv4
            clear hs1 cb3 fb3 hv3 hg3 hat3 hgw hb3 hbk3 k1 k2 b1 hbk4 hv4 hv hblk
            go_wp2
            go_roundw
            case rel =>
              refine ⟨z, nn + 2, _, by omega, rfl, HBK4.out, ?_, by omega, hbz⟩
              rw [dup_snoc p.2 HT.out]
              exact HV4.out
            case measure => simp [intOf]
end Go.Proofs.Ythfoaehjnoiniaa
