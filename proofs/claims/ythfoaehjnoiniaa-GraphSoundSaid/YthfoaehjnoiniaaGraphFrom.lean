/- graph.from by its contract: all that a name leads to, in one step or more. -/
import Derived.Test.YthfoaehjnoiniaaGraphWays
namespace Go.Proofs.Ythfoaehjnoiniaa
open Go.RowKit
theorem T_set : MapT Try.prog 65 (.bool false) := ⟨⟨9, 4, Try.underlying65, Try.underlying9, fun w => by kernel_rfl⟩⟩

set_option maxHeartbeats 1000000 in
set_option maxRecDepth 100000 in
theorem from_any (b : Nat) (m : List (ByteArray × Value)) (f : ByteArray → List ByteArray) (ks : List ByteArray) (name : ByteArray) (w : World) (E : Nat) (hW : Ways w b m f) (hks : ∀ x y, y ∈ f x → y ∈ ks) (hE : ∀ x, (f x).length ≤ E) (hlen : ks.length * (E + 1) + E ≤ 1099511627776) :
    Calls Try.prog 29 #[.map (some b), .string name] w fun e w' => ∃ r m', e = .returned (.map (some r)) ∧ w.heap.size ≤ r ∧ SMap w' r m' ∧ (∀ x, look m' x = some (.bool true) ↔ Way f name x) ∧ (∀ x v, look m' x = some v → v = .bool true) ∧ Below w.heap.size w w' := by
  have HK := Asd.mk hks; clear hks
  have HE := Asd.mk hE; clear hE
  have HW := Asd.mk hW; clear hW
  have hmm := @run_makeMap Try.prog
  obtain ⟨An, cn, hvn, hsn, hnn⟩ := HW.out.2 name
  have HVN := Asd.mk hvn; have HSN := Asd.mk hsn; have HNN := Asd.mk hnn
  have hEn := HE.out name
  generalize hfn : (f name).length = fn at hvn hEn
  have HFN := Asd.mk hfn
  have HV := Asd.mk hvn
  clear hvn hsn hnn hfn
  have hb1 : Below w.heap.size w (w.alloc (.map #[] 0)) := (Below.refl _ _).alloc (Nat.le_refl _) _
  have hbig : E ≤ 1099511627776 := by omega
  go_enter Try.func29, Try.ntmps29
  go_wp2
  go_step3
  go_wp2_with (first
    | (at_lookup; refine wpList_look rfl _ _ _ rfl T_ways b m name rfl rfl (HW.out.1.alloc _) (.slice An fn cn) HV.out ?_)
    | (go_at_call 52; refine (clone_any (HSN.out.below hb1 fun _ h => h) HFN.out (by omega) HNN.out).mono ?_; rintro e w1 ⟨v1, rfl, hown1, hbel1⟩))
  go_step3
  go_wp2
  have hown2 : Own rStr w1 NoB (w.heap.size + 1) 9 v1 fn (f name) := by simpa using hown1
  have hm1 : SMap w1 w.heap.size [] := (SMap.new w).call hbel1
  have hb2 : Below w.heap.size w w1 := hb1.trans (hbel1.mono (by simp))
  have hG : (ks.length * (E + 1) + E) ≤ 1099511627776 := hlen
  generalize hGe : ks.length * (E + 1) + E = G at hG
  have HGE := Asd.mk hGe
  clear hown1 hbel1 hmm hlen hGe
  go_loopg [6] G (fun gk v w' => ∃ nn st m', Own rStr w' NoB (w.heap.size + 1) 9 v nn st ∧ SMap w' w.heap.size m' ∧ Asd (FInv f name ks m' st E gk) ∧ gk ≤ 1099511627776 ∧ Below w.heap.size w w')
  case atStart => exact ⟨fn, f name, [], hown2, hm1, ⟨HGE.out ▸ FInv.start (HE.out name)⟩, hG, hb2⟩
  case round =>
    clear hown2 hm1 hb2 hG
    obtain ⟨nn, st, m', hown, hm, HF, hgk, hnx⟩ := hrel
    have hmea := HF.out.mea
    have hln := hown.len
    have hsz := hnx.size
    have hnn : nn ≤ gk := by omega
    clear hmea
    rcases Nat.eq_zero_or_pos nn with h0 | h0
    · subst h0
      have hst : st = [] := List.eq_nil_of_length_eq_zero hln
      subst hst
      obtain ⟨A, c, rfl, _⟩ := hown.sl
      have hrlt := hm.lt
      have HM := Asd.mk hm
      clear hown hm hln
      go_wp2
      try rw [Exit.noGoto_ret]
      go_ret
      exact ⟨_, m', rfl, Nat.le_refl _, HM.out, HF.out.end_, HF.out.tru, hnx⟩
    · obtain ⟨k, rfl⟩ : ∃ k, nn = k + 1 := ⟨nn - 1, by omega⟩
      obtain ⟨g, cap, rfl, _, _⟩ := hown.strs.form h0
      obtain ⟨x, hx⟩ : ∃ x, st[k]? = some x := ⟨_, List.getElem?_eq_getElem (by omega)⟩
      have hcell : wr.cell? ⟨g, k, none⟩ = some (.string x) := by
        obtain ⟨A, c, e1, _, _, hs⟩ := hown.sl
        injection e1 with e1
        subst e1
        obtain ⟨hlt, rfl⟩ := List.getElem?_eq_some_iff.1 hx
        obtain ⟨ad, e2, _, hc⟩ := hs.str hlt
        injection e2 with e2
        subst e2
        rw [add_plain', Nat.zero_add] at hc
        exact hc
      have HX := Asd.mk hx
      have HM := Asd.mk hm
      have HLN := Asd.mk hln
      have ht := HF.out.tru x
      clear hx hln
      have hcap : k + 1 ≤ cap := by
        obtain ⟨A, c, e1, h1, _⟩ := hown.sl
        injection e1 with e1 _ e2
        omega
      have hini := hown.init (k := k) (by omega)
      have HH := hnx.trans (Below.refl w.heap.size wr)
      cases hl : look m' x with
      | some v =>
        have hv := ht v hl
        subst hv
        have HL := Asd.mk hl
        clear hl ht hm
        go_wp2_with (first
          | (at_lookup; refine wpList_look rfl _ _ _ rfl T_set w.heap.size m' x rfl rfl HM.out (.bool true) (by rw [HL.out]; rfl) ?_))
        have hstep := HF.out.seen HLN.out HX.out (by rw [HL.out]; rfl)
        go_roundg (gk - 1)
        case rel => exact ⟨k, _, m', hini, HM.out, ⟨hstep.1⟩, by omega, HH⟩
        case measure => have := hstep.2; omega
      | none =>
        have HL := Asd.mk hl
        clear hl ht hm hown
        obtain ⟨Ax, cx, hvx, hsx, _⟩ := HW.out.2 x
        have hEx := HE.out x
        generalize hfx : (f x).length = fx at hvx hEx
        have HFX := Asd.mk hfx
        have HVX := Asd.mk hvx
        have HSX := Asd.mk hsx
        have hne := HM.out.ne_own hini.strs
        clear hfx hvx hsx
        go_wp2_with (first
          | (at_lookup; refine wpList_look rfl (.tmp 27) _ _ rfl T_set w.heap.size m' x rfl rfl HM.out (.bool false) (by rw [HL.out]; rfl) ?_)
          | (at_mapUpdate; refine wpList_mapUpd rfl _ _ _ _ rfl T_set w.heap.size m' x _ rfl rfl rfl HM.out ?_; intro w2 hm2 hg2; have hnx2 : Below w.heap.size w w2 := hnx.grown hg2 hsz (by rintro k ⟨⟩; omega))
          | (at_lookup; refine wpList_look rfl (.tmp 33) _ _ rfl T_ways b m x rfl rfl (HW.out.call hnx2).1 (.slice Ax fx cx) HVX.out ?_)
          | (at_builtin; refine wpList_appSl rfl (.tmp 32) (.tmp 35) _ rfl E_string rfl (hini.kept hg2 (.inr (Ne.symm hne)) (fun _ h => h.elim)) (HSX.out.below hnx2 fun _ h => h) HFX.out (fun y cs h => ⟨h, by rw [show cs = [.string y] from h]; simp [Value.oneCell']⟩) rfl (by omega) (by simp only [maxLen]; omega) (by have := hg2.size; have := HM.out.lt; omega) ?_; intro v3 w3 hown3 hg3 hat3 _))
        have hkx := HF.out.key HK.out (List.mem_of_getElem? HX.out)
        have hstep := HF.out.step HLN.out HX.out (by rw [HL.out]; rfl) hkx (HE.out x)
        have hnx3 : Below w.heap.size w w3 := hnx2.grown hg3 hnx2.size (fun q hq => by have := (hini.lt q hq).1; omega)
        have hm3 : SMap w3 w.heap.size (upd m' x (.bool true)) := hm2.grown hg3 hne
        go_roundg (gk - 1)
        case rel => exact ⟨k + fx, _, _, hown3, hm3, ⟨hstep.1⟩, by omega, hnx3⟩
        case measure => have := hstep.2; omega
end Go.Proofs.Ythfoaehjnoiniaa
