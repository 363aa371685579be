/- graph.Order's closure 'ready' by its contract: is all that a name needs done? -/
import Derived.Test.YthfoaehjnoiniaaGraphFrom
namespace Go.Proofs.Ythfoaehjnoiniaa
open Go.RowKit
open Go.ChangeMaps (setBlock)
theorem T_needs : MapT Try.prog 64 (.map none) := ⟨⟨9, 65, Try.underlying64, Try.underlying9, fun w => by kernel_rfl⟩⟩
theorem below_setBlock {B : Nat} {w W : World} (h : Below B w W) {b : Nat} (hb : B ≤ b) (o : Obj) : Below B w (setBlock W b o) :=
  ⟨h.os, h.tape, h.output, by simpa [setBlock] using h.size, fun k hk => by
    rw [← h.block k hk]
    show (W.heap.setIfInBounds b o)[k]? = _
    rw [Array.getElem?_setIfInBounds_ne (by omega)]⟩
theorem below_drew1 {B : Nat} {w W : World} (h : Below B w W) : Below B w W.drew := ⟨h.os, h.tape, h.output, h.size, h.block⟩
theorem at_setBlock {w : World} {b : Nat} {o o' : Obj} (h : w.heap[b]? = some o) : (setBlock w b o').heap[b]? = some o' := by
  have := (Array.getElem?_eq_some_iff.1 h).1
  show (w.heap.setIfInBounds b o')[b]? = _
  simp [this]
theorem left_list (es : Array MapEntry) (seen : Array Nat) : (leftOf es seen).toList = es.toList.filter fun e => !seen.contains e.born := by
  unfold leftOf
  simp
theorem left_push (es : Array MapEntry) (seen : Array Nat) (e : MapEntry) (he : e ∈ (leftOf es seen).toList) : (leftOf es (seen.push e.born)).size < (leftOf es seen).size := by
  rw [← Array.length_toList, ← Array.length_toList, left_list, left_list]
  rw [left_list, List.mem_filter] at he
  obtain ⟨hm, hs⟩ := he
  have key : ∀ (l : List MapEntry), e ∈ l → (l.filter fun x => !(seen.push e.born).contains x.born).length < (l.filter fun x => !seen.contains x.born).length := by
    intro l
    have h1 : ∀ y : MapEntry, (!(seen.push e.born).contains y.born) = ((!seen.contains y.born) && !(decide (y.born = e.born))) := fun y => by
      rw [Array.contains_push, Bool.not_or]
      congr 2
    induction l with
    | nil => intro h; simp at h
    | cons y l ih =>
      intro h
      have hle : (l.filter fun x => !(seen.push e.born).contains x.born).length ≤ (l.filter fun x => !seen.contains x.born).length := by
        rw [← List.countP_eq_length_filter, ← List.countP_eq_length_filter]
        exact List.countP_mono_left fun x _ hx => by
          rw [h1 x, Bool.and_eq_true] at hx
          exact hx.1
      rw [List.filter_cons, List.filter_cons]
      rcases List.mem_cons.1 h with rfl | h
      · rw [if_neg (by rw [h1]; simp), if_pos hs, List.length_cons]
        omega
      · have := ih h
        by_cases hq : (!(seen.push e.born).contains y.born) = true
        · have hq2 : (!seen.contains y.born) = true := by rw [h1 y, Bool.and_eq_true] at hq; exact hq.1
          rw [if_pos hq, if_pos hq2, List.length_cons, List.length_cons]
          omega
        · rw [if_neg hq]
          split
          · rw [List.length_cons]; omega
          · omega
  exact key _ hm

set_option maxHeartbeats 1000000 in
set_option maxRecDepth 100000 in
theorem ready_any (bn bd rn rd r : Nat) (mn mr md : List (ByteArray × Value)) (name : ByteArray) (w : World) (hbn : Blk w bn 64 #[.map (some rn)]) (hbd : Blk w bd 65 #[.map (some rd)]) (hn : SMap w rn mn) (hd : SMap w rd md)
    (hr : SMap w r mr) (hat : look mn name = some (.map (some r))) (htru : ∀ x v, look md x = some v → v = .bool true) :
    Calls Try.prog 31 #[.string name, .pointer (some ⟨bn, 0, none⟩), .pointer (some ⟨bd, 0, none⟩)] w fun e w' =>
      e = .returned (.bool (mr.all fun p => (look md p.1).isSome)) ∧ Below w.heap.size w w' := by
  obtain ⟨es, clock, hes, hm, hborn, hnd, hkn⟩ := hr
  have HM := Asd.mk hm; have HB := Asd.mk hborn; have HND := Asd.mk hnd; have HT := Asd.mk htru; have HAT := Asd.mk hat
  have HN := Asd.mk hn; have HD := Asd.mk hd; have HES := Asd.mk hes
  have c1 : w.cell? ⟨bn, 0, none⟩ = some (.map (some rn)) := hbn.cell 0
  have hrange := run_range_map (P := Try.prog) w 65 9 4 r es clock Try.underlying65 hes
  have hrlt : r < w.heap.size := (Array.getElem?_eq_some_iff.1 hes).1
  have hdlt := hbd.lt
  clear hm hborn hnd htru hat hn hd hkn
  go_enter Try.func31, Try.ntmps31
  go_wp2_with (first
    | (at_lookup; refine wpList_look rfl _ _ _ rfl T_needs rn mn name rfl rfl HN.out (.map (some r)) (by rw [HAT.out]; rfl) ?_))
  clear hrange hes c1
  have hG : (leftOf es #[]).size ≤ (leftOf es #[]).size := Nat.le_refl _
  generalize hGe : (leftOf es #[]).size = G at hG
  have HGE := Asd.mk hGe
  clear hG hGe
  go_loopg [] G (fun gk wr => ∃ seen, Asd (wr.heap[w.heap.size]? = some (.mapIter (some r) clock seen clock)) ∧ Asd (∀ (i : Nat) (p : ByteArray × Value) (e : MapEntry), mr[i]? = some p → es[i]? = some e → seen.contains e.born = true → (look md p.1).isSome = true) ∧ Asd ((leftOf es seen).size ≤ gk) ∧ Below w.heap.size w wr)
  case atStart => exact ⟨#[], ⟨heap_alloc_new w _⟩, ⟨fun i p e _ _ h => by simp at h⟩, ⟨by rw [HGE.out]; exact Nat.le_refl _⟩, (Below.refl _ _).alloc (Nat.le_refl _) _⟩
  case round =>
    obtain ⟨seen, HIT, HSE, HG, hnx⟩ := hrel
    have hsz := hnx.size
    have hesr : wr.heap[r]? = some (.map es clock) := (hnx.block r hrlt).trans HES.out
    rcases run_next_at (P := Try.prog) wr 0 w.heap.size r clock clock seen es clock HIT.out hesr (fun x hx => HB.out x hx) (Nat.le_refl _) with ⟨h0, hrun⟩ | ⟨e, he, w1, hw1, hrun⟩
    · have H0 := Asd.mk h0
      clear h0 hesr
      go_wp2
      go_ret
      suffices hall : (mr.all fun p => (look md p.1).isSome) = true from ⟨by rw [hall]; rfl, hnx⟩
      rw [List.all_eq_true]
      intro p hp
      obtain ⟨i, hi⟩ := List.mem_iff_getElem?.1 hp
      have hmi := congrArg (fun l => l[i]?) HM.out
      simp only [List.getElem?_map, Array.getElem?_toList, hi, Option.map_some] at hmi
      cases hei : es[i]? with
      | none => rw [hei] at hmi; cases hmi
      | some e =>
        refine HSE.out i p e hi hei ?_
        have hnil : (leftOf es seen).toList = [] := List.eq_nil_of_length_eq_zero (by simpa using H0.out)
        rw [left_list, List.filter_eq_nil_iff] at hnil
        have := hnil e (by rw [← Array.getElem?_toList] at hei; exact List.mem_of_getElem? hei)
        simpa using this
    · have hmem : e ∈ es.toList := by rw [left_list] at he; exact (List.mem_filter.1 he).1
      obtain ⟨i, hei⟩ := List.mem_iff_getElem?.1 hmem
      have hmi := congrArg (fun l => l[i]?) HM.out
      simp only [List.getElem?_map, hei, Option.map_some] at hmi
      cases hpi : mr[i]? with
      | none => rw [hpi] at hmi; cases hmi
      | some p =>
        rw [hpi] at hmi
        simp only [Option.map_some, Option.some.injEq, Prod.mk.injEq] at hmi
        obtain ⟨hk, hv⟩ := hmi
        have hb1 : Below w.heap.size w w1 := by rcases hw1 with rfl | rfl <;> first | exact hnx | exact below_drew1 hnx
        have hit1 : w1.heap[w.heap.size]? = some (.mapIter (some r) clock seen clock) := by rcases hw1 with rfl | rfl <;> exact HIT.out
        obtain ⟨w2, hw2⟩ : ∃ w2, w2 = setBlock w1 w.heap.size (.mapIter (some r) clock (seen.push e.born) clock) := ⟨_, rfl⟩
        have hit2 : w2.heap[w.heap.size]? = some (.mapIter (some r) clock (seen.push e.born) clock) := by rw [hw2]; exact at_setBlock hit1
        have hb2 : Below w.heap.size w w2 := by rw [hw2]; exact below_setBlock hb1 (Nat.le_refl _) _
        rw [← hw2] at hrun
        have hes2 : w2.heap[r]? = some (.map es clock) := (hb2.block r hrlt).trans HES.out
        have hent := run_entry_at (P := Try.prog) w2 w.heap.size r clock (seen.push e.born) es clock e
        have hent' := run_entry_at (P := Try.prog) w2 w.heap.size r clock seen es clock e hit2 hes2 hmem HND.out
        rw [hk] at hent' hrun
        have cd : w2.cell? ⟨bd, 0, none⟩ = some (.map (some rd)) := (hbd.below hb2 hdlt).cell 0
        have hd2 : SMap w2 rd md := HD.out.call hb2
        have hlp := left_push es seen e he
        have HLP := Asd.mk hlp; have HEI := Asd.mk hei; have HPI := Asd.mk hpi; have HIT2 := Asd.mk hit2; have HD2 := Asd.mk hd2
        clear hlp hei hpi hit2 hd2 hes2 hb1 hit1 hw2 hk hv hmem he hent hw1 hesr
        have hs2 := hb2.size
        cases hl : look md p.1 with
        | some v =>
          have hv := HT.out _ _ hl
          subst hv
          have HL := Asd.mk hl
          clear hl
          go_wp2_with (first
            | (at_lookup; refine wpList_look rfl _ _ _ rfl T_set rd md p.1 rfl rfl HD2.out (.bool true) (by rw [HL.out]; rfl) ?_))
          go_roundg (gk - 1)
          case rel => exact ⟨seen.push e.born, HIT2, ⟨fun i' p' e' hp' he' hs' => by
              rw [Array.contains_push, Bool.or_eq_true] at hs'
              rcases hs' with hs' | hs'
              · exact HSE.out i' p' e' hp' he' hs'
              · have hbe : e'.born = e.born := by simpa using hs'
                have h1 : (es.toList.map (·.born))[i']? = some e.born := by rw [List.getElem?_map, Array.getElem?_toList, he']; simp [hbe]
                have h2 : (es.toList.map (·.born))[i]? = some e.born := by rw [List.getElem?_map, HEI.out]; rfl
                have hii : i' = i := by
                  obtain ⟨l1, e1⟩ := List.getElem?_eq_some_iff.1 h1
                  obtain ⟨l2, e2⟩ := List.getElem?_eq_some_iff.1 h2
                  exact (List.getElem_inj (h₀ := l1) (h₁ := l2) HND.out).1 (e1.trans e2.symm)
                subst hii
                rw [HPI.out] at hp'
                injection hp' with hp'
                rw [← hp', HL.out]; rfl⟩, ⟨by have := HG.out; have := HLP.out; omega⟩, hb2⟩
          case measure => have := HG.out; have := HLP.out; omega
        | none =>
          have HL := Asd.mk hl
          clear hl
          go_wp2_with (first
            | (at_lookup; refine wpList_look rfl _ _ _ rfl T_set rd md p.1 rfl rfl HD2.out (.bool false) (by rw [HL.out]; rfl) ?_))
          go_ret
          have hmp : p ∈ mr := List.mem_of_getElem? HPI.out
          have hall : (mr.all fun p => (look md p.1).isSome) = false := by
            rw [List.all_eq_false]
            exact ⟨p, hmp, by rw [HL.out]; simp⟩
          exact ⟨by rw [hall]; rfl, hb2⟩
end Go.Proofs.Ythfoaehjnoiniaa
