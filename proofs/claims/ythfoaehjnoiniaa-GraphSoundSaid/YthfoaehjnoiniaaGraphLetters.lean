/- aquiferlaw17.Letters by its contract: what nodes the numbers make. -/
import Derived.Test.YthfoaehjnoiniaaGraphL
import Derived.Deep.RegionLaw
import Derived.IntWalk
namespace Go.Proofs.Ythfoaehjnoiniaa
open Go.RowKit
theorem E_node : ElemT Try.prog 23 27 2 40 := ElemT.mk' Try.underlying23 (z := .agg #[.string ⟨#[]⟩, .slice none 0 0]) (by kernel_rfl) rfl (by decide)
/-- A string of one byte that lies in a block of its own. -/
theorem conv1 (W : World) (n : Int) : (convert 22 9 (.slice (some ⟨W.heap.size, 0, none⟩) 1 1)).run Try.prog (W.alloc (.cells #[.int .u8 n] 5)) = .ok (.string (strOfNums [n])) (W.alloc (.cells #[.int .u8 n] 5)) :=
  run_convert_bytes_arg _ 22 5 Try.underlying22 Try.underlying5 W.heap.size 0 1 1 [n] rfl (fun i hi => by
    obtain rfl : i = 0 := by omega
    rw [Nat.zero_add, cell_of_row _ _ 0 _ _ _ (heap_alloc_new W _)]; rfl) 9 Try.underlying9

theorem two_new (W : World) (o : Obj) (cs : Array Value) (e : TypeId) : ((W.alloc o).alloc (.cells cs e)).heap[W.heap.size + 1]? = some (.cells cs e (0, 0)) := by
  have h := heap_alloc_new (W.alloc o) (.cells cs e)
  simpa using h
set_option maxHeartbeats 2000000 in
set_option maxRecDepth 100000 in
theorem letters_any (n : Int) (A : Option Addr) (m c : Nat) (ns : List Int) (S : Nat → Prop) (w : World) (h0 : 0 ≤ n) (h1 : n ≤ 255) (hm : ns.length = m) (hmb : m ≤ 9223372036854775807) (hS : ∀ b, S b → b < w.heap.size) (hr : Sl (rInt .u8) w S A ns) (hns : ∀ x, x ∈ ns → 0 ≤ x ∧ x ≤ 255) :
    Calls Try.prog 9 #[.int .u8 n, .slice A m c] w fun e w' => ∃ g k cap, e = .returned (.slice (some ⟨g, 0, none⟩) k cap) ∧ (k : Int) = 1 + n % 8 ∧ NRow w' w.heap.size g cap (lFill k ns (min 20 (m / 2))) ∧ k ≤ cap ∧ Below w.heap.size w w' := by
  have HM := Asd.mk hm; clear hm
  have HR := Asd.mk hr; clear hr
  have HS := Asd.mk hS; clear hS
  have HNS := Asd.mk hns; clear hns
  obtain ⟨k, hk⟩ : ∃ k : Nat, (k : Int) = 1 + n % 8 := ⟨(1 + n % 8).toNat, by omega⟩
  have hk1 : 1 ≤ k := by omega
  have hk8 : k ≤ 8 := by omega
  have HK := Asd.mk hk
  have hmod : n.tmod 8 = n % 8 := Int.tmod_eq_emod_of_nonneg h0
  have hkk : 1 + n % 8 = (k : Int) := hk.symm
  clear hk
  go_enter Try.func9, Try.ntmps9
  go_wp2
  clear hmod hkk
  go_loopw [6, 7] (fun v i wr => ∃ j : Nat, j ≤ k ∧ i = .int .i64 (j : Nat) ∧ Below w.heap.size w wr ∧ Own rNode wr NoB w.heap.size 27 v j (lStart j)) (fun _ i _ => k - (intOf i).toNat)
  case atStart => exact ⟨0, Nat.zero_le _, rfl, Below.refl _ _, Own.nil rNode _ (fun _ h => h.elim) _ _⟩
  case round =>
    obtain ⟨j, hj, rfl, hnx, hown⟩ := hrel
    have hsz := hnx.size
    by_cases hlt : j < k
    · have hcv := conv1 wr
      have hj255 : (j : Int) ≤ 255 := by omega
      go_wp2_with (first
        | (at_builtin; refine wpList_app1 rfl (.tmp 19) _ _ rfl E_node rfl ((hown.alloc _).alloc _) ⟨wr.heap.size + 1, 0, none⟩ (ltr j, []) [.string (ltr j), .slice none 0 0] ⟨none, 0, rfl, Nat.le_refl _, fun _ => ⟨rfl, rfl⟩, Sl.nil _⟩ (news_at (cs := #[.string (ltr j), .slice none 0 0]) (two_new wr _ _ _)) (by simp [Value.oneCell']) 1 rfl (by omega) (by simp only [maxLen]; omega) (by simp; omega) ?_; intro g cap w1 hown1 hg1 hat1))
      have hg := grown_alloc (grown_alloc hg1)
      go_roundw
      case rel => exact ⟨j + 1, by omega, by go_num, hnx.grown hg hsz (fun q hq => (hown.lt q hq).1), by rw [lStart_snoc]; exact hown1⟩
      case measure => simp [intOf]; omega
    · have hjk : j = k := by omega
      subst hjk
      obtain ⟨g, cap, hv, hcap, hgb, _⟩ := hown.form (by omega)
      subst hv
      have hrow : NRow wr w.heap.size g cap (lFill j ns 0) := NRow.first hown (fun p hp => by
        have hp' : p ∈ (List.range j).map fun (i : Nat) => (ltr (i : Int), ([] : List ByteArray)) := hp
        obtain ⟨q, _, rfl⟩ := List.mem_map.1 hp'
        rfl)
      clear hown hlt
      go_wp2
      obtain ⟨wz, hz⟩ : ∃ wz, wz = wr := ⟨_, rfl⟩
      subst hz
      go_loopw [8] (fun i wr => ∃ i0 q : Nat, i = .int .i64 (i0 : Nat) ∧ Asd (i0 = q * 2) ∧ q ≤ 20 ∧ Asd (q ≤ m / 2) ∧ Below w.heap.size w wr ∧ NRow wr w.heap.size g cap (lFill j ns q)) (fun i _ => 60 - (intOf i).toNat)
      case atStart => exact ⟨0, 0, rfl, ⟨rfl⟩, Nat.zero_le _, ⟨Nat.zero_le _⟩, hnx, hrow⟩
      case round =>
        clear hrow hnx hsz
        obtain ⟨i0, q, rfl, HI, hq20, HQ, hnx, hrow⟩ := hrel
        have hsz := hnx.size
        have hi40 : i0 ≤ 40 := by have := HI.out; omega
        by_cases hi1 : i0 + 1 < m
        · by_cases hi2 : i0 < 40
          · obtain ⟨ad, rfl, _, g0⟩ := (HR.out.below hnx HS.out).int (i := i0) (by have := HM.out; omega)
            obtain ⟨ad', e1, _, g1⟩ := (HR.out.below hnx HS.out).int (i := i0 + 1) (by have := HM.out; omega)
            injection e1 with e1
            subst e1
            obtain ⟨x0l, x0h⟩ := HNS.out _ (List.getElem_mem (h := (by have := HM.out; omega : i0 < ns.length)))
            obtain ⟨x1l, x1h⟩ := HNS.out _ (List.getElem_mem (h := (by have := HM.out; omega : i0 + 1 < ns.length)))
            have e0 : ns.getD i0 0 = ns[i0]'(by have := HM.out; omega) := by rw [List.getD_eq_getElem?_getD, List.getElem?_eq_getElem (by have := HM.out; omega)]; rfl
            have e1 : ns.getD (i0 + 1) 0 = ns[i0 + 1]'(by have := HM.out; omega) := by rw [List.getD_eq_getElem?_getD, List.getElem?_eq_getElem (by have := HM.out; omega)]; rfl
            generalize ns[i0]'(by have := HM.out; omega) = x0 at g0 x0l x0h e0
            generalize ns[i0 + 1]'(by have := HM.out; omega) = x1 at g1 x1l x1h e1
            have g1' : wr.cell? ⟨ad.block, ad.off + (i0 + 1), none⟩ = some (.int .u8 x1) := by rw [← g1]; unfold Addr.add; simp
            have E0 := Asd.mk e0; have E1 := Asd.mk e1
            clear e0 e1
            obtain ⟨xi, hxi⟩ : ∃ xi : Nat, (xi : Int) = x0 % (j : Int) := ⟨(x0 % (j : Int)).toNat, Int.toNat_of_nonneg (Int.emod_nonneg _ (by omega))⟩
            have hxl : xi < j := by have := Int.emod_lt_of_pos x0 (show (0 : Int) < (j : Int) by omega); omega
            have hxr : x0.tmod (j : Int) = (xi : Int) := by rw [Int.tmod_eq_emod_of_nonneg x0l]; exact hxi.symm
            have hxr' : x0 % (j : Int) = (xi : Int) := hxi.symm
            have HXI := Asd.mk hxi
            clear hxi
            obtain ⟨y, hy⟩ : ∃ y : Nat, (y : Int) = x1 % (j : Int) := ⟨(x1 % (j : Int)).toNat, Int.toNat_of_nonneg (Int.emod_nonneg _ (by omega))⟩
            have hyl : y < j := by have := Int.emod_lt_of_pos x1 (show (0 : Int) < (j : Int) by omega); omega
            have hyr : x1.tmod (j : Int) = (y : Int) := by rw [Int.tmod_eq_emod_of_nonneg x1l]; exact hy.symm
            have hyr' : x1 % (j : Int) = (y : Int) := hy.symm
            have HY := Asd.mk hy
            clear hy
            obtain ⟨p, hp⟩ : ∃ p, (lFill j ns q)[xi]? = some p := ⟨_, List.getElem?_eq_getElem (by rw [lFill_len]; exact hxl)⟩
            obtain ⟨v, hcv0, hown, hpl⟩ : ∃ v, wr.cell? ⟨g, xi * 2 + 1, none⟩ = some v ∧ Own rStr wr NoB w.heap.size 9 v p.2.length p.2 ∧ p.2.length ≤ 20 := by
              obtain ⟨cur, k1, _, _, _, k5, _⟩ := hrow
              obtain ⟨_, v, k6, k7, _⟩ := k5 xi p hp
              refine ⟨v, by rw [cell_of_row wr g _ cur _ _ k1]; exact k6, k7, ?_⟩
              have h1 := edges_take (lFill j ns q) (xi + 1)
              rw [take_snoc' _ hp, edges_snoc] at h1
              have h2 := lFill_edges j ns q
              omega
            have hfz : wr.frozen? ⟨g, xi * 2 + 1, none⟩ = false := by
              obtain ⟨cur, k1, _⟩ := hrow
              exact Blk.free k1 _
            have hne : some g ≠ v.ownBlock := by
              obtain ⟨cur, k1, _⟩ := hrow
              exact own_blk_ne hown.strs k1 (by decide)
            have HP := Asd.mk hp
            generalize hpn : p.2.length = pn at hown hpl
            have HPN := Asd.mk hpn
            have hglt := hrow.lt
            clear hp hpn
            have hcv : ∀ z, (convert 22 9 (.slice (some ⟨wr.heap.size, 0, none⟩) 1 1)).run Try.prog (wr.alloc (.cells #[.int .u8 z] 5)).drew = .ok (.string (strOfNums [z])) (wr.alloc (.cells #[.int .u8 z] 5)).drew := fun z => conv1 wr.drew z
            have hstep : lFill j ns (q + 1) = (lFill j ns q).modify xi fun p => (p.1, p.2 ++ [ltr y]) := by
              show lStep j ns (lFill j ns q) (q * 2) = _
              unfold lStep
              rw [← HI.out, E0.out, E1.out, ← HXI.out, ← HY.out, Int.toNat_natCast]
            have HSTEP := Asd.mk hstep
            clear hstep
            go_wp2
            have hA1 : (pn + 1) * 16 ≤ 140737488355328 := by omega
            have hA2 : pn + 1 ≤ maxLen := by simp only [maxLen]; omega
            have hA3 : w.heap.size ≤ wr.heap.size + 1 + 1 := by omega
            have hxj : (xi : Int) < (j : Int) := by omega
            have hx0 : (0 : Int) ≤ (xi : Int) := by omega
            have hj0 : ¬ j = 0 := by omega
            have hu1 : IntKind.u8.wrap (j : Int) = (j : Int) := by rw [IntKind.wrap_u8]; omega
            have hu2 : IntKind.u8.wrap (y : Int) = (y : Int) := by rw [IntKind.wrap_u8]; omega
            have hu3 : IntKind.u8.wrap (97 + (y : Int)) = 97 + (y : Int) := by rw [IntKind.wrap_u8]; omega
            have hs2 : (0 : Int) ≤ (i0 : Int) + 1 := by omega
            have hs3 : (i0 : Int) + 1 < (m : Int) := by omega
            have hs4 : ((i0 : Int) + 1).toNat = i0 + 1 := by omega
            have hs1 : IntKind.i64.wrap ((i0 : Int) + 1) = (i0 : Int) + 1 := IntWalk.i64_in _ (by omega)
            go_region_law ((refine step_app1 (by rfl) _ _ _ (by rfl) E_string (by rfl) (((hown.alloc _).alloc _).drewN 1 : Own rStr (World.drew _) NoB w.heap.size 9 v pn p.2) ⟨wr.heap.size + 1, 0, none⟩ (ltr y) [.string (ltr y)] (by rfl) (news_at (cs := #[.string (ltr y)]) (e := 9) (fr := (0, 0)) (two_new wr _ _ _)) (by simp [Value.oneCell']) 1 (by rfl) hA1 hA2 (by simpa using hA3) ?_; intro gn cap1 w1 hown1 hg1 hat1; have cw1 : w1.cell? ⟨g, xi * 2 + 1, none⟩ = some v := (World.cell?_of_block (w := wr) ((grown_two_drew hg1).block g hglt hne)).trans hcv0; have fw1 : w1.frozen? ⟨g, xi * 2 + 1, none⟩ = false := (World.frozen?_of_block (w := wr) ((grown_two_drew hg1).block g hglt hne)).trans hfz))
            all_goals
              clear hs1 hs2 hs3 hs4 hu1 hu2 hu3 hcv hxr hxr' hyr hyr' cw1 fw1 g0 g1 g1' hj0
              have hgw := grown_two_drew hg1
              have hs1 := hgw.size
              have hnew := hrow.grow HP.out hcv0 (n := pn + 1) (by rw [HPN.out]) hown1 hgw (hat1.imp_right fun e => by rw [e]; simp; omega)
              rw [← HSTEP.out] at hnew
              have HNEW := Asd.mk hnew
              have hbw : Below w.heap.size w (w1.setCell ⟨g, xi * 2 + 1, none⟩ (.slice (some ⟨gn, 0, none⟩) (pn + 1) cap1)) := ((hnx.grown hgw hsz (fun z hz => (hown.lt z hz).1)).setCell (p := ⟨g, xi * 2 + 1, none⟩) (by assumption) _)
              clear hnew hown1 hg1 hat1 hown
              go_wp2
              go_roundw
              case rel => exact ⟨i0 + 2, q + 1, by go_num, ⟨by have := HI.out; omega⟩, by have := HI.out; omega, ⟨by have := HI.out; omega⟩, hbw, HNEW.out⟩
              case measure => simp [intOf]; omega
          · have hq : q = min 20 (m / 2) := by have := HI.out; have := HQ.out; omega
            go_wp2
            go_ret
            exact ⟨g, j, cap, rfl, HK.out, by rw [← hq]; exact hrow, hcap, hnx⟩
        · have hq : q = min 20 (m / 2) := by have := HI.out; have := HQ.out; omega
          have HQ2 := Asd.mk hq
          clear hq
          go_wp2
          go_ret
          exact ⟨g, j, cap, rfl, HK.out, by rw [← HQ2.out]; exact hrow, hcap, hnx⟩
end Go.Proofs.Ythfoaehjnoiniaa
