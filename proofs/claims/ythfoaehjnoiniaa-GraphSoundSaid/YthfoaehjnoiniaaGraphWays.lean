/- graph.ways by its contract: the map of whom each name leads to, for every list of nodes. -/
import Derived.Test.YthfoaehjnoiniaaGraphA
namespace Go.Proofs.Ythfoaehjnoiniaa
open Go.RowKit
theorem E_string : ElemT Try.prog 25 9 1 16 := ElemT.mk' Try.underlying25 (z := .string ⟨#[]⟩) (by kernel_rfl) rfl (by decide)
theorem T_ways : MapT Try.prog 62 (.slice none 0 0) := ⟨⟨9, 25, Try.underlying62, Try.underlying9, fun w => by kernel_rfl⟩⟩

set_option maxHeartbeats 1000000 in
set_option maxRecDepth 100000 in
theorem ways_any (A : Option Addr) (n c : Nat) (l : List GNode) (S : Nat → Prop) (w : World) (hl : l.length = n) (hn : n ≤ 1048576) (hS : ∀ b, S b → b < w.heap.size) (hr : Sl rNode w S A l) (he : edges l ≤ 1048576) :
    Calls Try.prog 28 #[.slice A n c] w fun e w' => ∃ b, e = .returned (.map (some b)) ∧ WInv w' w.heap.size b (l.map (·.1)) (toOf l l) ∧ Below w.heap.size w w' := by
  have HL := Asd.mk hl; clear hl
  have HR := Asd.mk hr; clear hr
  have HS := Asd.mk hS; clear hS
  have HE := Asd.mk he; clear he
  have hmm := @run_makeMap Try.prog
  go_enter Try.func28, Try.ntmps28
  go_wp2
  go_loopw [15] (fun i wr => ∃ k : Nat, k ≤ n ∧ i = .int .i64 k ∧ Below w.heap.size w wr ∧ Asd (WInv wr w.heap.size w.heap.size ((l.take k).map (·.1)) (fun _ => []))) (fun i _ => n - (intOf i).toNat)
  case atStart => exact ⟨0, Nat.zero_le _, rfl, (Below.refl _ _).alloc (Nat.le_refl _) _, ⟨by simpa using WInv.new w w.heap.size⟩⟩
  case round =>
    obtain ⟨k, hk, rfl, hnx, HW⟩ := hrel
    have hsz := hnx.size
    by_cases hlt : k < n
    · obtain ⟨x, hx⟩ : ∃ x, l[k]? = some x := ⟨_, List.getElem?_eq_getElem (by have := HL.out; omega)⟩
      obtain ⟨ad, cs, rfl, hs, ⟨A', c', rfl, hc', hnil, hsub⟩, hc0, hcj⟩ := (HR.out.below hnx HS.out).atN hx
      have g0 : wr.cell? (ad.add (k * 2)) = some (.string x.1) := hc0 _ rfl
      have g1 : wr.cell? ⟨(ad.add (k * 2)).block, (ad.add (k * 2)).off + 1, none⟩ = some (.slice A' x.2.length c') := hcj 1 _ (by omega) rfl
      have hx := Asd.mk hx
      have hsub := Asd.mk hsub
      clear hc0 hcj
      obtain ⟨m, hm, h2, h3, h4, h5⟩ := HW.out
      have H2 := Asd.mk h2; have H4 := Asd.mk h4
      clear h2 h3 h4 h5 HW
      go_wp2_with (first | (at_mapUpdate; refine wpList_mapUpd rfl _ _ _ _ rfl T_ways _ m _ _ rfl rfl rfl (hm.alloc _) ?_; intro w1 hm1 hg1))
      have hnx1 : Below w.heap.size w w1 := (hnx.alloc hsz _).grown hg1 (by simp; omega) (by rintro k ⟨⟩; omega)
      go_roundw
      case rel => exact ⟨k + 1, by omega, by go_num, hnx1, ⟨WInv.key H2.out (fun x v h => H4.out x v h rfl) x.1 hm1 _ (by rw [take_snoc' l hx.out]; simp)⟩⟩
      case measure => simp [intOf]; omega
    · have hkn : k = n := by omega
      subst hkn
      go_wp2
      clear hmm
      obtain ⟨wz, hz⟩ : ∃ wz, wz = wr := ⟨_, rfl⟩
      subst hz
      go_loopw [25] (fun i wr => ∃ q : Nat, q ≤ k ∧ i = .int .i64 q ∧ Below w.heap.size w wr ∧ Asd (WInv wr w.heap.size w.heap.size (l.map (·.1)) (toOf (l.take q) l))) (fun i _ => k - (intOf i).toNat)
      case atStart => exact ⟨0, Nat.zero_le _, rfl, hnx, ⟨by have h := HW.out; rw [List.take_of_length_le (by have := HL.out; omega)] at h; exact h.congr fun x => by simp [toOf]⟩⟩
      case round =>
        clear HW hnx hsz
        obtain ⟨q, hq, rfl, hnx, HW⟩ := hrel
        have hsz := hnx.size
        by_cases hlt : q < k
        · obtain ⟨x, hx⟩ : ∃ x, l[q]? = some x := ⟨_, List.getElem?_eq_getElem (by have := HL.out; omega)⟩
          obtain ⟨ad, cs, rfl, hs, ⟨A', c', rfl, hc', hnil, hsub⟩, hc0, hcj⟩ := HR.out.atN hx
          have hadB : (ad.add (q * 2)).block < w.heap.size := by rw [add_block]; exact HS.out _ hs
          have g0 : wr.cell? (ad.add (q * 2)) = some (.string x.1) := (hnx.cell hadB).trans (hc0 _ rfl)
          have g1 : wr.cell? ⟨(ad.add (q * 2)).block, (ad.add (q * 2)).off + 1, none⟩ = some (.slice A' x.2.length c') := (hnx.cell (p := ⟨_, _, none⟩) hadB).trans (hcj 1 _ (by omega) rfl)
          have HX := Asd.mk hx
          have HSUB := Asd.mk hsub
          have hxl : x.2.length ≤ edges l := by
            have h1 := edges_take l (q + 1)
            rw [take_snoc' l hx, edges_snoc] at h1
            omega
          have hE := HE.out
          generalize hm : x.2.length = m at g1 hc' hxl
          have HM := Asd.mk hm
          clear hc0 hcj hx hsub hm
          go_wp2
          obtain ⟨wo, hz⟩ : ∃ wo, wo = wr := ⟨_, rfl⟩
          subst hz
          go_loopw [32] (fun i wr => ∃ j : Nat, j ≤ m ∧ i = .int .i64 j ∧ Below w.heap.size w wr ∧ wo.heap.size < wr.heap.size ∧ Blk wr wo.heap.size 27 #[.string x.1, .slice A' m c'] ∧
              Asd (WInv wr w.heap.size w.heap.size (l.map (·.1)) (fun y => toOf (l.take q) l y ++ if y = x.1 then (x.2.take j).filter (nmem l) else []))) (fun i _ => m - (intOf i).toNat)
          case atStart => exact ⟨0, Nat.zero_le _, rfl, hnx.alloc hsz _, by simp, Blk.new _ _ _, ⟨(HW.out.alloc _).congr fun y => by simp⟩⟩
          case round =>
            clear HW hnx hsz g0 g1
            obtain ⟨j, hj, rfl, hnx, hwo, hblk, HW⟩ := hrel
            have hsz := hnx.size
            have b0 : wr.cell? ⟨wo.heap.size, 0, none⟩ = some (.string x.1) := hblk.cell 0
            have b1 : wr.cell? ⟨wo.heap.size, 1, none⟩ = some (.slice A' m c') := hblk.cell 1
            by_cases hjm : j < m
            · obtain ⟨t, ht⟩ : ∃ t, x.2[j]? = some t := ⟨_, List.getElem?_eq_getElem (by have := HM.out; omega)⟩
              obtain ⟨ad', u, rfl, hs', hu, hcu⟩ := (HSUB.out.below hnx HS.out).at1 ht rfl
              have hu' : [u] = [Value.string t] := hu
              injection hu' with hu' _
              subst hu'
              have HT := Asd.mk ht
              obtain ⟨mm, hm, h2, h3, h4, h5⟩ := HW.out
              have H2 := Asd.mk h2; have H3 := Asd.mk h3; have H4 := Asd.mk h4; have H5 := Asd.mk h5
              have hmem := nmem_iff l t
              clear h2 h3 h4 h5 hu ht
              by_cases hto : nmem l t = true
              · obtain ⟨vt, hvt⟩ : ∃ v, look mm t = some v := Option.isSome_iff_exists.1 ((H2.out t).2 (hmem.1 hto))
                obtain ⟨vx, hvx⟩ : ∃ v, look mm x.1 = some v := Option.isSome_iff_exists.1 ((H2.out x.1).2 (List.mem_map_of_mem (List.mem_of_getElem? HX.out)))
                have HVT := Asd.mk hvt
                have HVX := Asd.mk hvx
                have HTO := Asd.mk hto
                have hown := H3.out _ _ hvx
                simp only [if_true] at hown
                generalize hfx : toOf (l.take q) l x.1 ++ (x.2.take j).filter (nmem l) = fx at hown
                have hfl : fx.length ≤ edges l := by
                  have h1 := toOf_len (l.take q) l x.1
                  have h2 := List.length_filter_le (nmem l) (x.2.take j)
                  have h3 := edges_take l (q + 1)
                  rw [take_snoc' l HX.out, edges_snoc] at h3
                  have h4 := List.length_take_le j x.2
                  have h5 := HM.out
                  rw [← hfx, List.length_append]
                  omega
                have HFX := Asd.mk hfx
                clear hvt hto hmem hfx hvx
                go_wp2_with (first | (at_lookup; refine wpList_look_ok rfl _ _ _ rfl T_ways _ mm _ rfl rfl hm vt true (by rw [HVT.out]; rfl) (by rw [HVT.out]; rfl) ?_))
                have hrun : ∀ W : World, SMap W w.heap.size mm → (Instr.lookup 62 (.map (some w.heap.size)) (.string x.1) false).run Try.prog W = .ok vx W := fun W hW => T_ways.run hW _ (by rw [HVX.out]; rfl)
                have HRUN := Asd.mk hrun
                have hne := hm.ne_own hown.strs
                clear hrun
                have hl0 := HRUN.out wr.drew hm
                have hl1 := HRUN.out (wr.alloc (.cells #[.string t] 9)).drew (hm.alloc _)
                go_region_held3 (fun w' => w'.cell? ⟨wo.heap.size, 0, none⟩ = some (.string x.1))
                  (first
                    | go_keep
                    | exact (keep_app hm hblk hown.strs (by decide) hg1).2.cell 0
                    | exact ((keep_app hm hblk hown.strs (by decide) hg1).2.grown hg2 (by simpa using (hm.ne_blk hblk).symm)).cell 0)
                  ((refine step_app1 (by rfl) _ _ _ (by rfl) E_string (by rfl) (((hown.alloc _).drewN 1) : Own rStr (World.drew _) NoB w.heap.size 9 vx fx.length fx) ⟨wr.heap.size, 0, none⟩ t [.string t] (by rfl) (news_at (cs := #[.string t]) (e := 9) (fr := (0, 0)) (heap_alloc_new wr _)) (by simp [Value.oneCell']) 1 (by rfl) (by omega) (by simp only [maxLen]; omega) (by simp; omega) ?_; intro g cap w1 hown1 hg1 hat1; obtain ⟨w2, hr2, hm2, hg2⟩ := T_ways.upd (keep_app hm hblk hown.strs (by decide) hg1).1 x.1 (.slice (some ⟨g, 0, none⟩) (fx.length + 1) cap)))
                all_goals
                  have hgx := grown_alloc_drew hg1
                  have hbx : Blk w2 wo.heap.size 27 #[.string x.1, .slice (some ad') m c'] := (keep_app hm hblk hown.strs (by decide) hg1).2.grown hg2 (by simpa using (hm.ne_blk hblk).symm)
                  have hnx1 : Below w.heap.size w w1 := hnx.grown hgx hsz (fun k hk => (hown.lt k hk).1)
                  have hnx2 : Below w.heap.size w w2 := hnx1.grown hg2 hnx1.size (by rintro k ⟨⟩; omega)
                  have hwi : WInv w2 w.heap.size w.heap.size (l.map (·.1)) (fun y => toOf (l.take q) l y ++ if y = x.1 then (x.2.take (j + 1)).filter (nmem l) else []) :=
                    WInv.more (f := fun y => toOf (l.take q) l y ++ if y = x.1 then (x.2.take j).filter (nmem l) else []) (x := x.1) (t := t) (n := fx.length + 1) (g := g) (cap := cap) hm H2.out H3.out H4.out H5.out HVX.out (by simp only [if_true]; rw [HFX.out])
                      (by simp only [if_true]; rw [HFX.out]; exact hown1) hgx (hat1.imp_right fun e => by rw [e]; simp) hm2 hg2 (fun y => by
                        by_cases hy : y = x.1
                        · subst hy
                          simp only [if_true]
                          rw [take_snoc' _ HT.out, List.filter_append, List.append_assoc]
                          simp [HTO.out]
                        · simp only [hy, if_false])
                  have HWI := Asd.mk hwi
                  have hs2 : wo.heap.size < w2.heap.size := hbx.lt
                  clear hwi hm2 hg2 hown1 hg1 hat1 hr2 hl0 hl1 hgx hblk hm hown
                  go_wp2
                  go_roundw
                  case rel => exact ⟨j + 1, by omega, by go_num, hnx2, hs2, hbx, HWI⟩
                  case measure => simp [intOf]; omega
              · have hno : look mm t = none := by
                  cases h : look mm t with
                  | none => rfl
                  | some v => exact absurd (hmem.2 ((H2.out t).1 (by rw [h]; rfl))) hto
                have HNO := Asd.mk hno
                have HTO := Asd.mk hto
                clear hno hto hmem
                go_wp2_with (first | (at_lookup; refine wpList_look_ok rfl _ _ _ rfl T_ways _ mm _ rfl rfl hm (.slice none 0 0) false (by rw [HNO.out]; rfl) (by rw [HNO.out]; rfl) ?_))
                go_roundw
                case rel => exact ⟨j + 1, by omega, by go_num, hnx, hwo, hblk, ⟨HW.out.congr fun y => by rw [take_snoc' _ HT.out, List.filter_append]; simp [HTO.out]⟩⟩
                case measure => simp [intOf]; omega
            · have hjm' : j = m := by omega
              subst hjm'
              go_wp2
              go_roundw
              case rel => exact ⟨q + 1, by omega, by go_num, hnx, ⟨HW.out.congr fun y => by rw [take_snoc' _ HX.out, toOf_snoc, List.take_of_length_le (l := x.2) (by have := HM.out; omega)]⟩⟩
              case measure => simp [intOf]; omega
        · have hqk : q = k := by omega
          subst hqk
          go_wp2
          go_ret
          exact ⟨_, rfl, by have h := HW.out; rw [List.take_of_length_le (by have := HL.out; omega)] at h; exact h, hnx⟩
end Go.Proofs.Ythfoaehjnoiniaa
