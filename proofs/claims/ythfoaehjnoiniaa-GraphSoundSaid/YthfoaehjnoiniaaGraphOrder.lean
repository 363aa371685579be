/- graph.Order by its contract, for every list of nodes whose names differ. -/
import Derived.Test.YthfoaehjnoiniaaGraphB
namespace Go.Proofs.Ythfoaehjnoiniaa
open Go.RowKit

theorem look_false {m : List (ByteArray × Value)} {x : ByteArray} (ht : ∀ x v, look m x = some v → v = .bool true) (h : ¬ look m x = some (.bool true)) : (look m x).getD (.bool false) = .bool false := by
  cases hl : look m x with
  | none => rfl
  | some v => exact absurd (by rw [hl, ht x v hl]) h
theorem own_ne_map {w : World} {S : Nat → Prop} {base rn n : Nat} {e : TypeId} {v : Value} {xs : List ByteArray} (h : Own rStr w S (base + 2) e v n xs) (_ : rn ≤ w.heap.size) : v.ownBlock = none ∨ v.ownBlock ≠ some base := by
  cases hv : v.ownBlock with
  | none => exact .inl rfl
  | some k =>
    have := (h.lt k hv).1
    exact .inr (by simp; omega)
theorem ready_dec {V : World} {bn bd rn rd hi : Nat} {mn md : List (ByteArray × Value)} {ks done : List ByteArray} {W : ByteArray → ByteArray → Prop} {x : ByteArray} (hbn : Blk V bn 64 #[.map (some rn)]) (hbd : Blk V bd 65 #[.map (some rd)]) (hn : NInv V rn mn ks W hi) (hd : SMap V rd md) (hs : SetOf md done) (hx : x ∈ ks) (p : ByteArray → Bool) (hp : p x = true ↔ ∀ y, W x y → y ∈ done) :
    Calls Try.prog 31 (#[.string x] ++ #[.pointer (some ⟨bn, 0, none⟩), .pointer (some ⟨bd, 0, none⟩)]) V fun e w' => e = .returned (.bool (p x)) ∧ Below V.heap.size V w' := by
  obtain ⟨r, mr, h1, _, _, h3, h4, h5⟩ := hn.2 x hx
  refine (ready_any bn bd rn rd r mn mr md x V hbn hbd hn.1 hd h3 h1 hs.2).mono ?_
  rintro e w' ⟨rfl, hb⟩
  refine ⟨?_, hb⟩
  classical
  have hk := keys_of h4 h5 (fun y => y ∈ done) (fun y => (look md y).isSome) (fun y => hs.1 y)
  rw [hk]
  congr 2
  rw [Bool.eq_iff_iff, decide_eq_true_eq]
  exact hp.symm
theorem indexFunc_some (caps : Array Value) (A : Option Addr) (n c i : Nat) (xs : List ByteArray) (S : Nat → Prop) (p : ByteArray → Bool) (w : World) (hf : xs.findIdx? p = some i) (hn : xs.length = n) (hb : n ≤ 140737488351232) (hS : ∀ b, S b → b < w.heap.size) (hc : Sl rStr w S A xs)
    (hp : ∀ W, Below w.heap.size w W → ∀ x, x ∈ xs → Calls Try.prog 31 (#[.string x] ++ caps) W (fun e W' => e = .returned (.bool (p x)) ∧ Below W.heap.size W W')) :
    Calls Try.prog 32 #[.slice A n c, .func (.func 31) #[] caps] w fun e w' => e = .returned (.int .i64 i) ∧ Below w.heap.size w w' :=
  (indexFunc_any caps A n c xs S p w hn hb hS hc hp).mono fun e w' ⟨h1, h2⟩ => ⟨by rw [h1, hf]; rfl, h2⟩
theorem indexFunc_none (caps : Array Value) (A : Option Addr) (n c : Nat) (xs : List ByteArray) (S : Nat → Prop) (p : ByteArray → Bool) (w : World) (hf : xs.findIdx? p = none) (hn : xs.length = n) (hb : n ≤ 140737488351232) (hS : ∀ b, S b → b < w.heap.size) (hc : Sl rStr w S A xs)
    (hp : ∀ W, Below w.heap.size w W → ∀ x, x ∈ xs → Calls Try.prog 31 (#[.string x] ++ caps) W (fun e W' => e = .returned (.bool (p x)) ∧ Below W.heap.size W W')) :
    Calls Try.prog 32 #[.slice A n c, .func (.func 31) #[] caps] w fun e w' => e = .returned (.int .i64 (-1)) ∧ Below w.heap.size w w' :=
  (indexFunc_any caps A n c xs S p w hn hb hS hc hp).mono fun e w' ⟨h1, h2⟩ => ⟨by rw [h1, hf]; rfl, h2⟩
theorem order_fin {w w1 w3 wr V : World} {vo vc : Value} {no nc : Nat} {ord C : List ByteArray} {W : ByteArray → ByteArray → Prop} {ks : List ByteArray} (hvo : Own rStr wr NoB (w1.heap.size + 2) 9 vo no ord) (hvc : Own rStr wr NoB (w1.heap.size + 2) 9 vc nc C) (hV : Below wr.heap.size wr V)
    (hb1 : Below w.heap.size w w1) (hnx : Below w1.heap.size w1 wr) (ho : orderOf W ks = ord) (hc : circleOf W ks = C) (_ : w1.heap.size + 2 ≤ w3.heap.size) :
    Own rStr V NoB w.heap.size 9 vo (orderOf W ks).length (orderOf W ks) ∧ Own rStr V NoB w.heap.size 9 vc (circleOf W ks).length (circleOf W ks) ∧ Below w.heap.size w V := by
  have h1 := hb1.size
  have h2 := hnx.size
  refine ⟨?_, ?_, (hb1.trans (hnx.mono h1)).trans (hV.mono (by omega))⟩
  · rw [ho, hvo.len]; exact (hvo.call hV).lower (by omega)
  · rw [hc, hvc.len]; exact (hvc.call hV).lower (by omega)
theorem ways_len {w : World} {base b n : Nat} {l : List GNode} (h : WInv w base b (l.map (·.1)) (toOf l l)) (hnd : (l.map (·.1)).Nodup) (hl : l.length = n) :
    ∃ m, Asd (Ways w b m (toOf l l)) ∧ (Builtin.len_ #[62] 3 #[.map (some b)]).run Try.prog w = .ok (.int .i64 n) w := by
  obtain ⟨m, hW, hkm⟩ := h.ways (fun x hx => toOf_none l l x hx)
  have hmn : m.length = n := by
    have h1 : (m.map (·.1)).Perm (l.map (·.1)) := (List.perm_ext_iff_of_nodup hW.1.nodup hnd).2 hkm
    have := h1.length_eq
    simp at this
    rw [this]; exact hl
  have hlen := T_ways.len hW.1 3
  rw [hmn] at hlen
  exact ⟨m, ⟨hW⟩, hlen⟩
set_option maxHeartbeats 2000000 in
set_option maxRecDepth 100000 in
theorem order_any (A : Option Addr) (n c : Nat) (l : List GNode) (S : Nat → Prop) (w : World) (hl : l.length = n) (hn : n ≤ 1000) (hS : ∀ b, S b → b < w.heap.size) (hr : Sl rNode w S A l) (he : edges l ≤ 1000000) (hnd : (l.map (·.1)).Nodup) :
    Calls Try.prog 10 #[.slice A n c] w fun e w' => ∃ vo vc, e = .returned (.tuple #[vo, vc, .int .i64 0]) ∧
      Own rStr w' NoB w.heap.size 9 vo (orderOf (Way (toOf l l)) (l.map (·.1))).length (orderOf (Way (toOf l l)) (l.map (·.1))) ∧
      Own rStr w' NoB w.heap.size 9 vc (circleOf (Way (toOf l l)) (l.map (·.1))).length (circleOf (Way (toOf l l)) (l.map (·.1))) ∧ Below w.heap.size w w' := by
  have HL := Asd.mk hl; clear hl
  have HR := Asd.mk hr; clear hr
  have HS := Asd.mk hS; clear hS
  have HE := Asd.mk he; clear he
  have HND := Asd.mk hnd; clear hnd
  have hmm := @run_makeMap Try.prog
  go_enter Try.func10, Try.ntmps10
  go_wp2_with (first
    | (go_at_call 28; refine (ways_any A n c l S w HL.out (by omega) HS.out HR.out (by have := HE.out; omega)).mono ?_; rintro e w1 ⟨b, rfl, hwi, hb1⟩; obtain ⟨m, HW, hlen⟩ := ways_len hwi HND.out HL.out; have hdec : decide (n < n) = false := by simp))
  clear hlen hwi hdec hmm
  have hs1 := hb1.size
  generalize hW : Way (toOf l l) = W
  have HWY := Asd.mk hW
  clear hW
  go_loopw [3, 7, 26] (fun vc vr i wr => ∃ k nc nr mn, k ≤ n ∧ i = .int .i64 (k : Nat) ∧ Below w1.heap.size w1 wr ∧ w1.heap.size + 2 ≤ wr.heap.size ∧ Blk wr (w1.heap.size + 1) 64 #[.map (some w1.heap.size)] ∧
      Own rStr wr NoB (w1.heap.size + 2) 9 vc nc (circ W ((l.take k).map (·.1))) ∧ Own rStr wr NoB (w1.heap.size + 2) 9 vr nr (free W ((l.take k).map (·.1))) ∧ (vc.ownBlock = none ∨ vc.ownBlock ≠ vr.ownBlock) ∧
      Asd (NInv wr w1.heap.size mn (free W ((l.take k).map (·.1))) W wr.heap.size) ∧ nc ≤ n ∧ nr ≤ n) (fun _ _ i _ => n - (intOf i).toNat)
  case atStart =>
    refine ⟨0, 0, 0, [], Nat.zero_le _, rfl, ((Below.refl _ _).alloc (Nat.le_refl _) _).alloc (by simp) _, by simp, by simpa using Blk.new (w1.alloc (.map #[] 0)) 64 #[.map (some w1.heap.size)], ?_, ?_, .inl rfl, ⟨?_, ?_⟩, Nat.zero_le _, Nat.zero_le _⟩
    · simpa [circ] using Own.nil rStr _ (fun _ h => h.elim) _ _
    · simpa [free] using Own.nil rStr _ (fun _ h => h.elim) _ _
    · exact (SMap.new w1).alloc _
    · simp [free]
  case round =>
    obtain ⟨k, nc, nr, mn, hk, rfl, hnx, hz2, hblk, hvc, hvr, hap, HN, hnc, hnr⟩ := hrel
    have hsz := hnx.size
    by_cases hlt : k < n
    · obtain ⟨x, hx⟩ : ∃ x, l[k]? = some x := ⟨_, List.getElem?_eq_getElem (by have := HL.out; omega)⟩
      obtain ⟨ad, cs, rfl, hs, ⟨A', c', rfl, hc', hnil, hsub⟩, hc0, hcj⟩ := HR.out.atN hx
      have hadB : (ad.add (k * 2)).block < w1.heap.size := by rw [add_block]; have := HS.out _ hs; omega
      have hadB' : (ad.add (k * 2)).block < w.heap.size := by rw [add_block]; exact HS.out _ hs
      have g0 : wr.cell? (ad.add (k * 2)) = some (.string x.1) := (hnx.cell hadB).trans ((hb1.cell hadB').trans (hc0 _ rfl))
      have g1 : wr.cell? ⟨(ad.add (k * 2)).block, (ad.add (k * 2)).off + 1, none⟩ = some (.slice A' x.2.length c') := (hnx.cell (p := ⟨_, _, none⟩) hadB).trans ((hb1.cell (p := ⟨_, _, none⟩) hadB').trans (hcj 1 _ (by omega) rfl))
      have HX := Asd.mk hx
      have htk : (l.take (k + 1)).map (·.1) = (l.take k).map (·.1) ++ [x.1] := by rw [take_snoc' l hx]; simp
      have HTK := Asd.mk htk
      have hlk : ((l.take k).map (·.1)).length = k := by simp; have := HL.out; omega
      have hcl := hvc.len
      have hrl := hvr.len
      have hcle := circ_len W ((l.take k).map (·.1))
      have hfle := free_len W ((l.take k).map (·.1))
      have hb1' : nc + 1 ≤ n := by omega
      have hb2' : nr + 1 ≤ n := by omega
      generalize x.2.length = xl at g1
      clear hc0 hcj hx hsub htk hlk hcl hrl hcle hfle hc' hnil
      have hfrom := fun V (hV : Ways V b m (toOf l l)) => from_any b m (toOf l l) (l.map (·.1)) x.1 V 1000000 hV (fun a y h => toOf_mem l l a y h) (fun a => Nat.le_trans (toOf_len l l a) HE.out) (by have := HL.out; simp; omega)
      have HF := Asd.mk hfrom
      clear hfrom
      by_cases hc : W x.1 x.1
      · have HC := Asd.mk hc
        clear hc
        go_wp2_with (first
          | (go_at_call 29; refine (HF.out _ ((HW.out.call hnx).call ((Below.refl _ _).alloc (Nat.le_refl _) _))).mono ?_; rintro e w2 ⟨r, mr, rfl, hrge, hmr, hway, htru, hb2⟩; rw [HWY.out] at hway; have HWAY := Asd.mk hway; have HTRU := Asd.mk htru; clear hway htru; have cb : w2.cell? ⟨wr.heap.size, 0, none⟩ = some (.string x.1) := ((Blk.new wr 27 _).call hb2).cell 0)
          | (at_lookup; refine wpList_look rfl (.tmp 34) _ _ rfl T_set r mr x.1 rfl rfl hmr (.bool true) (by rw [(HWAY.out _).2 HC.out]; rfl) ?_)
          | (at_builtin; refine wpList_app1 rfl (.tmp 38) _ _ rfl E_string rfl (((hvc.alloc _).call hb2).alloc _) ⟨w2.heap.size, 0, none⟩ x.1 [.string x.1] rfl (news_at (cs := #[.string x.1]) (heap_alloc_new w2 _)) (by simp [Value.oneCell']) 1 rfl (by omega) (by simp only [maxLen]; omega) (by have := hb2.size; simp at this ⊢; omega) ?_; intro g cap w3 hvc3 hg3 hat3))
        have hB := below_alloc_call hb2
        have hg := grown_alloc hg3
        have hvc2 := hvc.call hB
        have hat : u3.ownBlock = some g ∨ wr.heap.size ≤ g := hat3.imp_right fun e => by have := hB.size; rw [e]; simp; omega
        have h1 : Below w1.heap.size w1 w3 := (hnx.trans (hB.mono hsz)).grown hg (Nat.le_trans hsz hB.size) (fun q hq => by have := (hvc.lt q hq).1; omega)
        have hs3 : wr.heap.size ≤ w3.heap.size := Nat.le_trans hB.size hg.size
        obtain ⟨e1, e2⟩ := circ_snoc ((l.take k).map (·.1)) x.1 HC.out
        rw [← HTK.out] at e1 e2
        have hN := ((HN.out.call hB).row hvc2.strs hg).mono hs3
        go_roundw
        case rel =>
          refine ⟨k + 1, nc + 1, nr, mn, by omega, by go_num, h1, by omega, (hblk.call hB).grown hg (own_blk_ne hvc2.strs (hblk.call hB) (by decide)), by rw [e1]; exact hvc3, by rw [e2]; exact (hvr.call hB).kept hg (apart_symm hap) (fun _ h => h.elim), ?_, ⟨by rw [e2]; exact hN⟩, by omega, by omega⟩
          exact apart_new hap hat (fun q hq => (hvr.lt q hq).2)
        case measure => simp [intOf]; omega
      · have HC := Asd.mk hc
        clear hc
        go_wp2_with (first
          | (go_at_call 29; refine (HF.out _ ((HW.out.call hnx).call ((Below.refl _ _).alloc (Nat.le_refl _) _))).mono ?_; rintro e w2 ⟨r, mr, rfl, hrge, hmr, hway, htru, hb2⟩; rw [HWY.out] at hway; have HWAY := Asd.mk hway; have HTRU := Asd.mk htru; clear hway htru; have hB := below_alloc_call hb2; have cb : w2.cell? ⟨wr.heap.size, 0, none⟩ = some (.string x.1) := ((Blk.new wr 27 _).call hb2).cell 0; have cn : w2.cell? ⟨w1.heap.size + 1, 0, none⟩ = some (.map (some w1.heap.size)) := (hblk.call hB).cell 0)
          | (at_lookup; refine wpList_look rfl (.tmp 34) _ _ rfl T_set r mr x.1 rfl rfl hmr (.bool false) (look_false HTRU.out (fun h => HC.out ((HWAY.out _).1 h))) ?_)
          | (at_mapUpdate; refine wpList_mapUpd rfl _ _ _ _ rfl T_needs w1.heap.size mn x.1 _ rfl rfl rfl (HN.out.call hB).1 ?_; intro w3 hm3 hg3; have cb3 : w3.cell? ⟨wr.heap.size, 0, none⟩ = some (.string x.1) := (((Blk.new wr 27 _).call hb2).grown hg3 (by simp; omega)).cell 0)
          | (at_builtin; refine wpList_app1 rfl (.tmp 47) _ _ rfl E_string rfl (((hvr.call hB).kept hg3 (own_ne_map hvr hsz) (fun _ h => h.elim)).alloc _) ⟨w3.heap.size, 0, none⟩ x.1 [.string x.1] rfl (news_at (cs := #[.string x.1]) (heap_alloc_new w3 _)) (by simp [Value.oneCell']) 1 rfl (by omega) (by simp only [maxLen]; omega) (by have := hB.size; have := hg3.size; simp; omega) ?_; intro g cap w4 hvr4 hg4 hat4))
        have hg := grown_alloc hg4
        have hvr2 := hvr.call hB
        have hvc2 := hvc.call hB
        have hvr3 := hvr2.kept hg3 (own_ne_map hvr hsz) (fun _ h => h.elim)
        have hvc3 := hvc2.kept hg3 (own_ne_map hvc hsz) (fun _ h => h.elim)
        have hs2 := hB.size
        have hs3 := hg3.size
        have hs4 := hg.size
        have hat : u7.ownBlock = some g ∨ wr.heap.size ≤ g := hat4.imp_right fun e => by rw [e]; simp; omega
        have h1 : Below w1.heap.size w1 w4 := ((hnx.trans (hB.mono hsz)).grown hg3 (by omega) (by rintro q ⟨⟩; omega)).grown hg (by omega) (fun q hq => by have := (hvr.lt q hq).1; omega)
        obtain ⟨e1, e2⟩ := free_snoc ((l.take k).map (·.1)) x.1 HC.out
        rw [← HTK.out] at e1 e2
        have hN3 := (HN.out.call hB).add (r := r) (mr := mr) (x := x.1) (by have := hrge; simp at this; omega) hmr HWAY.out HTRU.out hm3 hg3 (hi' := w3.heap.size) (by omega) (by have := hmr.lt; omega)
        have hN4 := (hN3.row hvr3.strs hg).mono hs4
        go_roundw
        case rel =>
          refine ⟨k + 1, nc, nr + 1, _, by omega, by go_num, h1, by omega, ((hblk.call hB).grown hg3 (by simp)).grown hg (own_blk_ne hvr3.strs ((hblk.call hB).grown hg3 (by simp)) (by decide)), by rw [e1]; exact hvc3.kept hg hap (fun _ h => h.elim), by rw [e2]; exact hvr4, ?_, ⟨by rw [e2]; exact hN4⟩, by omega, by omega⟩
          exact apart_symm (apart_new (apart_symm hap) hat (fun q hq => (hvc.lt q hq).2))
        case measure => simp [intOf]; omega
    · have hkn : k = n := by omega
      subst hkn
      have htk : l.take k = l := List.take_of_length_le (by have := HL.out; omega)
      rw [htk] at hvc hvr HN
      clear htk hlt
      have hnc' := hvc.len
      have hnr' := hvr.len
      obtain ⟨Ac, cc, hu3, _, _, hslc⟩ := hvc.sl
      subst hu3
      obtain ⟨Ar, cr, hu7, _, _, hslr⟩ := hvr.sl
      subst hu7
      have HCL := Asd.mk hnc'
      have HRL := Asd.mk hnr'
      clear hslc hslr hnc' hnr'
      have hmm := @run_makeMap Try.prog
      go_wp2_with (first
        | (go_at_call_of 30 (Value.slice Ac nc cc); refine (sort_any hvc (by omega)).mono ?_; rintro e w2 ⟨rfl, hvc2, hg2⟩)
        | (go_at_call_of 30 (Value.slice Ar nr cr); refine (sort_any (hvr.kept hg2 (apart_symm hap) (fun _ h => h.elim)) (by omega)).mono ?_; rintro e w3 ⟨rfl, hvr3, hg3⟩))
      clear hmm
      have hvc3 := hvc2.kept hg3 hap (fun _ h => h.elim)
      have hvr2 := hvr.kept hg2 (apart_symm hap) (fun _ h => h.elim)
      have hs2 := hg2.size
      have hs3 := hg3.size
      have hw3 : Below w1.heap.size w1 w3 := (hnx.grown hg2 hsz (fun q hq => by have := (hvc.lt q hq).1; omega)).grown hg3 (by omega) (fun q hq => by have := (hvr.lt q hq).1; omega)
      have hbk2 := hblk.grown hg2 (own_blk_ne hvc.strs hblk (by decide))
      have hblk3 := hbk2.grown hg3 (own_blk_ne hvr2.strs hbk2 (by decide))
      have hN3 := (((HN.out.row hvc.strs hg2).row hvr2.strs hg3).mono (Nat.le_trans hs2 hs3))
      have HN3 := Asd.mk hN3
      have hbnd : ∀ q, (Value.slice Ac nc cc).ownBlock = some q → w1.heap.size + 2 ≤ q := fun q hq => (hvc.lt q hq).1
      have HBND := Asd.mk hbnd
      clear hvc hvr hvc2 hvr2 hblk hbk2 hg2 hg3 hs2 hs3 HN hN3 hnx hbnd
      have HFREE : Asd (∀ x, x ∈ srt (free W (l.map (·.1))) → x ∈ free W (l.map (·.1))) := ⟨fun x hx => (srt_perm _).mem_iff.1 hx⟩
      have hord : orderOf W (l.map (·.1)) = [] ++ greedy W nr (srt (circ W (l.map (·.1)))) (srt (free W (l.map (·.1)))) := by unfold orderOf; rw [HRL.out]; rfl
      have HORD := Asd.mk hord
      have HCIR : Asd (circleOf W (l.map (·.1)) = srt (circ W (l.map (·.1)))) := ⟨rfl⟩
      have hCn : (srt (circ W (l.map (·.1)))).length = nc := by rw [srt_length]; exact HCL.out
      have HCN := Asd.mk hCn
      generalize srt (circ W (l.map (·.1))) = C at *
      generalize srt (free W (l.map (·.1))) = R0 at *
      clear hord hCn HCL HRL
      go_loopw [60] (fun i wr => ∃ (j : Nat) (md : List (ByteArray × Value)), j ≤ nc ∧ i = .int .i64 (j : Nat) ∧ Below w3.heap.size w3 wr ∧ w3.heap.size + 2 ≤ wr.heap.size ∧ Blk wr (w3.heap.size + 1) 65 #[.map (some w3.heap.size)] ∧ SMap wr w3.heap.size md ∧ Asd (SetOf md (C.take j))) (fun i _ => nc - (intOf i).toNat)
      case atStart => exact ⟨0, [], Nat.zero_le _, rfl, ((Below.refl _ _).alloc (Nat.le_refl _) _).alloc (by simp) _, by simp, by simpa using Blk.new (w3.alloc (.map #[] 0)) 65 #[.map (some w3.heap.size)], (SMap.new w3).alloc _, ⟨by simpa using SetOf.nil⟩⟩
      case round =>
        obtain ⟨j, md, hj, rfl, hnx, hz4, hbd, hd, HSET⟩ := hrel
        have c0 : wr.cell? ⟨w3.heap.size + 1, 0, none⟩ = some (.map (some w3.heap.size)) := hbd.cell 0
        have hs4 := hnx.size
        by_cases hlt : j < nc
        · obtain ⟨x, hx⟩ : ∃ x, C[j]? = some x := ⟨_, List.getElem?_eq_getElem (by have := HCN.out; omega)⟩
          obtain ⟨A1, c1, e1, _, _, hs1'⟩ := (hvc3.call ((Below.refl w3.heap.size w3).trans hnx)).sl
          injection e1 with e1 _ e3
          subst e1
          obtain ⟨ad, u, rfl, hs', hu, hcu⟩ := hs1'.at1 hx rfl
          have hu' : [u] = [Value.string x] := hu
          injection hu' with hu' _
          subst hu'
          have HX := Asd.mk hx
          clear hs1' hu hx hs' e3
          go_wp2_with (first
            | (at_mapUpdate; refine wpList_mapUpd rfl _ _ _ _ rfl T_set w3.heap.size md x _ rfl rfl rfl hd ?_; intro w4 hd4 hg4))
          have h4 := hg4.size
          go_roundw
          case rel => exact ⟨j + 1, _, by omega, by go_num, hnx.grown hg4 hs4 (by rintro q ⟨⟩; omega), by omega, hbd.grown hg4 (by simp), hd4, ⟨HSET.out.add x (fun y => by rw [take_snoc' C HX.out]; simp [or_comm])⟩⟩
          case measure => simp [intOf]; omega
        · have hjn : j = nc := by omega
          subst hjn
          have hCt : C.take j = C := List.take_of_length_le (by have := HCN.out; omega)
          rw [hCt] at HSET
          clear hCt hlt
          go_wp2
          have hw4 : Below w1.heap.size w1 wr := hw3.trans (hnx.mono (by have := hw3.size; omega))
          have hrow : ∀ {v : Value} {n : Nat} {xs : List ByteArray}, Own rStr w3 NoB (w1.heap.size + 2) 9 v n xs → Own rStr wr NoB (w1.heap.size + 2) 9 v n xs := fun h => h.call hnx
          have hvc4 := hrow hvc3
          have hvr4 := hrow hvr3
          have hblk4 := hblk3.call hnx
          have HN4 : Asd (NInv wr w1.heap.size mn (free W (l.map (·.1))) W w3.heap.size) := ⟨HN3.out.call hnx⟩
          have hw31 : w1.heap.size + 2 ≤ w3.heap.size := by have := hblk3.lt; omega
          have HCIRC := HCIR
          clear hrow hvc3 hvr3 hblk3 HN3 hw3 hnx c0 hs4
          obtain ⟨wz, hz⟩ : ∃ wz, wz = wr := ⟨_, rfl⟩
          subst hz
          go_loopg [2, 7] nr (fun gk vo vr wr => ∃ no ord rest done md, Own rStr wr NoB (w1.heap.size + 2) 9 vo no ord ∧ Own rStr wr NoB (w1.heap.size + 2) 9 vr gk rest ∧ Own rStr wr NoB (w1.heap.size + 2) 9 (.slice Ac j cc) j C ∧
              (vr.ownBlock = none ∨ vr.ownBlock ≠ vo.ownBlock) ∧ ((Value.slice Ac j cc).ownBlock = none ∨ (Value.slice Ac j cc).ownBlock ≠ vr.ownBlock) ∧ ((Value.slice Ac j cc).ownBlock = none ∨ (Value.slice Ac j cc).ownBlock ≠ vo.ownBlock) ∧
              Below w1.heap.size w1 wr ∧ w3.heap.size + 2 ≤ wr.heap.size ∧ Blk wr (w3.heap.size + 1) 65 #[.map (some w3.heap.size)] ∧ Blk wr (w1.heap.size + 1) 64 #[.map (some w1.heap.size)] ∧ SMap wr w3.heap.size md ∧
              Asd (SetOf md done) ∧ Asd (NInv wr w1.heap.size mn (free W (l.map (·.1))) W w3.heap.size) ∧ Asd (∀ x, x ∈ rest → x ∈ free W (l.map (·.1))) ∧ Asd (orderOf W (l.map (·.1)) = ord ++ greedy W gk done rest) ∧ no + gk ≤ 1000)
          case atStart => exact ⟨0, [], R0, C, md, Own.nil rStr _ (fun _ h => h.elim) _ _, hvr4, hvc4, apart_none _, hap, apart_none _, hw4, hz4, hbd, hblk4, hd, HSET, HN4, HFREE, HORD, by omega⟩
          case round =>
            clear hvc4 hvr4 hblk4 HN4 hw4 hd HSET HFREE HORD hbd hz4 hap
            obtain ⟨no, ord, rest, done, md, hvo, hvr, hvc, ha1, ha2, ha3, hnx, hz4, hbd, hblk, hd, HSET, HN4, HFREE, HORD, hno⟩ := hrel
            have hsz := hnx.size
            rcases Nat.eq_zero_or_pos gk with h0 | h0
            · subst h0
              obtain ⟨A0, c0, hv0, _⟩ := hvr.sl
              subst hv0
              have HFIN := Asd.mk (order_fin (V := wr) hvo hvc (Below.refl _ _) hb1 hnx (by have := HORD.out; simpa [greedy] using this) HCIRC.out hw31)
              clear hvo hvr hvc ha1 ha2 ha3
              go_wp2
              go_ret3
              exact ⟨_, _, rfl, by rw [HWY.out]; exact HFIN.out.1, by rw [HWY.out]; exact HFIN.out.2.1, HFIN.out.2.2⟩
            · obtain ⟨q, rfl⟩ : ∃ q, gk = q + 1 := ⟨gk - 1, by omega⟩
              obtain ⟨g, cap, hg, _, _⟩ := hvr.strs.form h0
              subst hg
              have hcap : q + 1 ≤ cap := by
                obtain ⟨A, c, e1, h1, _⟩ := hvr.sl
                injection e1 with e1 _ e2
                omega
              have hrl := hvr.len
              obtain ⟨A1, c1, e1, _, _, hsl⟩ := hvr.sl
              injection e1 with e1 _ e2
              subst e1 e2
              classical
              obtain ⟨pd, hpd⟩ : ∃ pd : ByteArray → Bool, ∀ x, pd x = true ↔ ∀ y, W x y → y ∈ done := ⟨fun x => decide (∀ y, W x y → y ∈ done), fun x => by simp⟩
              have hgr : ∀ n, greedy W (n + 1) done rest = match rest.findIdx? pd with | none => [] | some i => rest.getD i ByteArray.empty :: greedy W n (rest.getD i ByteArray.empty :: done) (rest.eraseIdx i) := fun n => by
                rw [greedy]
                have : (fun x => decide (∀ y, W x y → y ∈ done)) = pd := funext fun x => by
                  rw [Bool.eq_iff_iff, decide_eq_true_eq]; exact (hpd x).symm
                rw [this]
                cases rest.findIdx? pd <;> rfl
              have hready : ∀ V, Below wr.heap.size wr V → ∀ x, x ∈ rest → Calls Try.prog 31 (#[.string x] ++ #[.pointer (some ⟨w1.heap.size + 1, 0, none⟩), .pointer (some ⟨w3.heap.size + 1, 0, none⟩)]) V (fun e W' => e = .returned (.bool (pd x)) ∧ Below V.heap.size V W') :=
                fun V hV x hx => ready_dec (hblk.call hV) (hbd.call hV) (HN4.out.call hV) (hd.call hV) HSET.out (HFREE.out x hx) pd (hpd x)
              have HREADY := Asd.mk hready
              have HGR := Asd.mk (hgr q)
              have HSL := Asd.mk hsl
              have HRL2 := Asd.mk hrl
              have HSB : Asd (∀ b, (NoB b ∨ some b = (Value.slice (some ⟨g, 0, none⟩) (q + 1) cap).ownBlock) → b < wr.heap.size) := ⟨fun b hb => hb.elim (fun h => h.elim) (fun h => (hvr.lt b h.symm).2)⟩
              clear hready hgr hsl hrl hpd
              cases hfi : rest.findIdx? pd with
              | none =>
                have HFI := Asd.mk hfi
                have hoe : orderOf W (l.map (·.1)) = ord := by
                  have h1 := HORD.out
                  rw [HGR.out, hfi] at h1
                  simpa using h1
                have HFIN := Asd.mk (fun V (hV : Below wr.heap.size wr V) => order_fin (V := V) hvo hvc hV hb1 hnx hoe HCIRC.out hw31)
                clear hfi hoe hvo hvr hvc ha1 ha2 ha3
                go_wp2_with (first
                  | (go_at_call 32; refine (indexFunc_none _ _ _ _ rest _ pd wr HFI.out HRL2.out (by omega) HSB.out HSL.out HREADY.out).mono ?_; rintro e w5 ⟨rfl, hb5⟩))
                have hfin := HFIN.out w5 hb5
                go_ret3
                exact ⟨_, _, rfl, by rw [HWY.out]; exact hfin.1, by rw [HWY.out]; exact hfin.2.1, hfin.2.2⟩
              | some i =>
                have hil : i < q + 1 := by
                  obtain ⟨h, _⟩ := List.findIdx?_eq_some_iff_getElem.1 hfi
                  have := HRL2.out
                  omega
                have HFI := Asd.mk hfi
                clear hfi
                obtain ⟨s, hs⟩ : ∃ s, rest[i]? = some s := ⟨_, List.getElem?_eq_getElem (by have := HRL2.out; omega)⟩
                have hci : wr.cell? ⟨g, i, none⟩ = some (.string s) := by
                  obtain ⟨ad, u, e1, _, hu, hc⟩ := HSL.out.at1 hs rfl
                  injection e1 with e1
                  subst e1
                  have hu' : [u] = [Value.string s] := hu
                  injection hu' with hu' _
                  subst hu'
                  rw [add_plain', Nat.zero_add] at hc
                  exact hc
                have hglt := (hvr.lt g rfl).2
                have HS2 := Asd.mk hs
                clear hs
                go_wp2_with (first
                  | (go_at_call 32; refine (indexFunc_some _ _ _ _ i rest _ pd wr HFI.out HRL2.out (by omega) HSB.out HSL.out HREADY.out).mono ?_; rintro e w5 ⟨rfl, hb5⟩; have cd5 : w5.cell? ⟨w3.heap.size + 1, 0, none⟩ = some (.map (some w3.heap.size)) := (hbd.call hb5).cell 0; have cr5 : w5.cell? ⟨g, i, none⟩ = some (.string s) := (hb5.cell hglt).trans hci))
                have hd5 : SMap w5.drew w3.heap.size md := hd.call (below_drew1 hb5)
                obtain ⟨w6, hr6, hd6, hg6⟩ := T_set.upd hd5 s (.bool true)
                have hne : some w3.heap.size ≠ some g := hd.ne_own hvr.strs
                have hneo := hd.ne_own hvo.strs
                have hnec := hd.ne_own hvc.strs
                have cr6 : w6.cell? ⟨g, i, none⟩ = some (.string s) := hg6.cell (w := w5.drew) cr5 (Ne.symm hne)
                have hvo6 := (hvo.call (below_drew1 hb5)).kept hg6 (.inr (Ne.symm hneo)) (fun _ h => h.elim)
                have hvr6 := (hvr.call (below_drew1 hb5)).kept hg6 (.inr (Ne.symm hne)) (fun _ h => h.elim)
                have hvc6 := (hvc.call (below_drew1 hb5)).kept hg6 (.inr (Ne.symm hnec)) (fun _ h => h.elim)
                have hbd6 := (hbd.call (below_drew1 hb5)).grown hg6 (by simp)
                have hblk6 := (hblk.call (below_drew1 hb5)).grown hg6 (by simp; omega)
                have HN6 := Asd.mk ((HN4.out.call (below_drew1 hb5)).other (Nat.le_refl _) (by omega) hg6)
                have cd6 : w6.cell? ⟨w3.heap.size + 1, 0, none⟩ = some (.map (some w3.heap.size)) := hbd6.cell 0
                have hi0 : (0 : Int) ≤ (i : Int) := Int.natCast_nonneg _
                have hi1 : (i : Int) < ((q : Int) + 1) := by omega
                have hs5 := hb5.size
                have hs6 : w5.heap.size ≤ w6.heap.size := hg6.size
                have hnx6 : Below w1.heap.size w1 w6 := (hnx.trans ((below_drew1 hb5).mono hsz)).grown hg6 (by show w1.heap.size ≤ w5.heap.size; omega) (by rintro q ⟨⟩; omega)
                have HSET6 : Asd (SetOf (upd md s (.bool true)) (s :: done)) := ⟨HSET.out.add s (fun y => by simp)⟩
                have hord6 : orderOf W (l.map (·.1)) = (ord ++ [s]) ++ greedy W q (s :: done) (rest.eraseIdx i) := by
                  have h1 := HORD.out
                  rw [HGR.out, HFI.out] at h1
                  have h2 : rest.getD i ByteArray.empty = s := by rw [List.getD_eq_getElem?_getD, HS2.out]; rfl
                  simp only [h2] at h1
                  rw [h1]; simp
                have HORD6 := Asd.mk hord6
                clear hne hneo hnec hvo hvr hvc hord6 HORD HGR HFI HSET HN4 hblk hbd hd hnx HREADY
                go_region_held3 (fun w' => w'.cell? ⟨w3.heap.size + 1, 0, none⟩ = some (.map (some w3.heap.size)) ∧ w'.cell? ⟨g, i, none⟩ = some (.string s))
                  (first | go_keep | (go_split_ands; exact ⟨cd6, cr6⟩))
                  (fail)
                clear hr6 cd5 cr5
                go_wp2_with (first
                  | (at_builtin; refine wpList_app1 rfl (.tmp 81) _ _ rfl E_string rfl (hvo6.alloc _) ⟨w6.heap.size, 0, none⟩ s [.string s] rfl (news_at (cs := #[.string s]) (heap_alloc_new w6 _)) (by simp [Value.oneCell']) 1 rfl (by omega) (by simp only [maxLen]; omega) (by simp; omega) ?_; intro g2 cap2 w7 hvo7 hg7' hat7; have hg7 := grown_alloc hg7')
                  | (go_at_call 33; refine (delete_any (hvr6.kept hg7 ha1 (fun _ h => h.elim)) hil).mono ?_; rintro e w8 ⟨v8, rfl, hvr8, hg8, hat8⟩))
                have hvr7 := hvr6.kept hg7 ha1 (fun _ h => h.elim)
                have hs7 : w6.heap.size ≤ w7.heap.size := hg7.size
                have hs8 : w7.heap.size ≤ w8.heap.size := hg8.size
                have hA := apart_new (H := w6.heap.size) (apart_symm ha1) (hat7.imp_right fun e => by rw [e]; simp) (fun z hz => (hvr6.lt z hz).2)
                have hA2 := apart_new (H := w6.heap.size) (apart_symm ha3) (hat7.imp_right fun e => by rw [e]; simp) (fun z hz => (hvc6.lt z hz).2)
                have hvo8 := hvo7.kept hg8 hA (fun _ h => h.elim)
                have hvc8 := (hvc6.kept hg7 ha3 (fun _ h => h.elim)).kept hg8 ha2 (fun _ h => h.elim)
                have hd8 := (hd6.grown hg7 (hd6.ne_own hvo6.strs)).grown hg8 ((hd6.grown hg7 (hd6.ne_own hvo6.strs)).ne_own hvr7.strs)
                have hbd7 := hbd6.grown hg7 (own_blk_ne hvo6.strs hbd6 (by decide))
                have hbd8 := hbd7.grown hg8 (own_blk_ne hvr7.strs hbd7 (by decide))
                have hbk7 := hblk6.grown hg7 (own_blk_ne hvo6.strs hblk6 (by decide))
                have hbk8 := hbk7.grown hg8 (own_blk_ne hvr7.strs hbk7 (by decide))
                have hN8 := (HN6.out.row hvo6.strs hg7).row hvr7.strs hg8
                have hnx8 : Below w1.heap.size w1 w8 := (hnx6.grown hg7 (by omega) (fun z hz => by have := (hvo6.lt z hz).1; omega)).grown hg8 (by omega) (fun z hz => by have := (hvr7.lt z hz).1; omega)
                rw [Nat.add_sub_cancel] at hvr8
                rw [← hat8] at hA ha2
                go_roundg q
                case rel => exact ⟨no + 1, _, _, _, _, hvo8, hvr8, hvc8, apart_symm hA, ha2, apart_symm hA2, hnx8, by omega, hbd8, hbk8, hd8, HSET6, ⟨hN8⟩, ⟨fun x hx => HFREE.out x (List.mem_of_mem_eraseIdx hx)⟩, HORD6, by omega⟩
                case measure => omega
end Go.Proofs.Ythfoaehjnoiniaa
