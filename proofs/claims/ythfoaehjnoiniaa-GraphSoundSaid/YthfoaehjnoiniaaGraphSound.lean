/- aquiferlaw17.GraphSound, walked: it returns true and leaves all that was there as it was. -/
import Derived.Test.YthfoaehjnoiniaaGraphAwake
import Derived.Test.YthfoaehjnoiniaaGraphBack
import Derived.Test.YthfoaehjnoiniaaSoundPure
import Derived.Test.YthfoaehjnoiniaaPlace
namespace Go.Proofs.Ythfoaehjnoiniaa
open Go.RowKit
theorem way_mem {l : List GNode} {x y : ByteArray} (h : Way (toOf l l) x y) : y ∈ l.map (·.1) := by
  cases h with
  | one h => exact toOf_mem l l _ y h
  | more _ h => exact toOf_mem l l _ y h

open Classical in
set_option maxHeartbeats 4000000 in
set_option maxRecDepth 100000 in
theorem sound_any (n : Int) (A : Option Addr) (m c : Nat) (ns : List Int) (S : Nat → Prop) (w : World) (h0 : 0 ≤ n) (h1 : n ≤ 255) (hm : ns.length = m) (hmb : m ≤ 9223372036854775807) (hS : ∀ b, S b → b < w.heap.size) (hr : Sl (rInt .u8) w S A ns) (hns : ∀ x, x ∈ ns → 0 ≤ x ∧ x ≤ 255) :
    Calls Try.prog 4 #[.int .u8 n, .slice A m c] w fun e w' => e = .returned (.bool true) ∧ Below w.heap.size w w' := by
  have HL := Asd.mk (letters_any n A m c ns S w h0 h1 hm hmb hS hr hns)
  clear h0 h1 hm hmb hS hr hns
  go_enter Try.func4, Try.ntmps4
  go_wp2_with (first
    | (go_at_call 9; refine HL.out.mono ?_; rintro e w1 ⟨g, k, cap, rfl, hk, hrow, hcap, hb1⟩; have hk8 : k ≤ 8 := (by omega); have hk1 : 1 ≤ k := (by omega); clear hk))
  obtain ⟨hnd, _⟩ := letters_names k hk8 ns (min 20 (m / 2))
  have hed := lFill_edges k ns (min 20 (m / 2))
  have hll := lFill_len k ns (min 20 (m / 2))
  generalize lFill k ns (min 20 (m / 2)) = l at *
  have HND := Asd.mk hnd; have HED := Asd.mk (Nat.le_trans hed (Nat.min_le_left _ _)); have HLL := Asd.mk hll
  have HROW := Asd.mk hrow.sl
  have hglt := hrow.lt
  have hs1 := hb1.size
  clear hnd hed hll HL hrow
  have HORD := Asd.mk (order_any (some ⟨g, 0, none⟩) k cap l (fun b => w.heap.size ≤ b ∧ b < w1.heap.size) w1 HLL.out (by omega) (fun b h => h.2) HROW.out (by have := HED.out; omega) HND.out)
  obtain ⟨hsum, hin, hord⟩ := order_sound (W := Way (toOf l l)) (fun _ _ _ h k => h.trans k) (l.map (·.1)) HND.out (fun _ _ h => way_mem h)
  rw [List.length_map, HLL.out] at hsum
  have HBK : Asd (∀ a b (t : Bool), (Way (toOf l l) a b ↔ t = true) → ∀ V, Below w1.heap.size w1 V → Calls Try.prog 15 #[.slice (some ⟨g, 0, none⟩) k cap, .string a, .string b] V fun e V' => e = .returned (.bool t) ∧ Below V.heap.size V V') := ⟨fun a b t ht V hV => by
    have h := back_any (some ⟨g, 0, none⟩) k cap l (fun b => w.heap.size ≤ b ∧ b < w1.heap.size) a b V HLL.out (by omega) (fun b h => Nat.lt_of_lt_of_le h.2 hV.size) (HROW.out.below hV (fun b h => h.2)) (by have := HED.out; omega)
    rwa [show decide (Way (toOf l l) a b) = t from Bool.eq_iff_iff.2 (by rw [decide_eq_true_eq]; exact ht)] at h⟩
  generalize orderOf (Way (toOf l l)) (l.map (·.1)) = oo at *
  generalize circleOf (Way (toOf l l)) (l.map (·.1)) = cc at *
  have HIN := Asd.mk hin; have HOO := Asd.mk hord
  clear hin hord
  generalize Way (toOf l l) = W at *
  have hw1 : IntKind.i64.wrap ((oo.length : Int) + (cc.length : Int)) = (k : Int) := by rw [← hsum]; exact IntWalk.i64_in _ (by omega)
  have hw2 : ((k : Int) != (k : Int)) = false := by simp
  have hon : oo.length ≤ 8 := by omega
  have hcn : cc.length ≤ 8 := by omega
  clear hsum
  go_wp2_with (first
    | (go_at_call 10; refine HORD.out.mono ?_; rintro e w2 ⟨vo, vc, rfl, ho, hc, hb2⟩; obtain ⟨Ao, co, rfl, _, _, hso⟩ := ho.sl; obtain ⟨Ac, ck, rfl, _, _, hsc⟩ := hc.sl)
    | (go_at_call 11; refine (num_any _ _).mono ?_; rintro e w4 ⟨rfl, rfl⟩))
  have HO : Asd (∀ x (t : Bool), (x ∈ oo ↔ t = true) → ∀ V, Below w1.heap.size w1 V → Below w2.heap.size w2 V → Calls Try.prog 14 #[.slice Ao oo.length co, .string x] V fun e V' => e = .returned (.bool t) ∧ Below V.heap.size V V') := ⟨fun x t ht V _ hV => by
    have hlt : ∀ b, NoB b ∨ some b = (Value.slice Ao oo.length co).ownBlock → b < w2.heap.size := fun b h => (ho.lt b (h.resolve_left (fun h => h)).symm).2
    have h := has_any Ao oo.length co oo x _ V rfl (by omega) (fun b h => Nat.lt_of_lt_of_le (hlt b h) hV.size) (hso.below hV hlt)
    rwa [show decide (x ∈ oo) = t from Bool.eq_iff_iff.2 (by rw [decide_eq_true_eq]; exact ht)] at h⟩
  have HC : Asd (∀ x (t : Bool), (x ∈ cc ↔ t = true) → ∀ V, Below w1.heap.size w1 V → Below w2.heap.size w2 V → Calls Try.prog 14 #[.slice Ac cc.length ck, .string x] V fun e V' => e = .returned (.bool t) ∧ Below V.heap.size V V') := ⟨fun x t ht V _ hV => by
    have hlt : ∀ b, NoB b ∨ some b = (Value.slice Ac cc.length ck).ownBlock → b < w2.heap.size := fun b h => (hc.lt b (h.resolve_left (fun h => h)).symm).2
    have h := has_any Ac cc.length ck cc x _ V rfl (by omega) (fun b h => Nat.lt_of_lt_of_le (hlt b h) hV.size) (hsc.below hV hlt)
    rwa [show decide (x ∈ cc) = t from Bool.eq_iff_iff.2 (by rw [decide_eq_true_eq]; exact ht)] at h⟩
  have HSO : Asd (Sl rStr w2 (fun b => b < w2.heap.size) Ao oo) := ⟨hso.mono fun b h => (ho.lt b (h.resolve_left (fun h => h)).symm).2⟩
  generalize hone : oo.length = on at *
  generalize hcne : cc.length = cn at *
  have HON := Asd.mk hone
  have hs2 := hb2.size
  clear hone hcne ho hc hso hsc HORD hw1 hw2
  go_loopw [9] (fun i wr => ∃ j : Nat, j ≤ k ∧ i = .int .i64 (j : Nat) ∧ Below w2.heap.size w2 wr) (fun i _ => k - (intOf i).toNat)
  case atStart => exact ⟨0, Nat.zero_le _, rfl, Below.refl _ _⟩
  case round =>
    obtain ⟨j, hj, rfl, hnx⟩ := hrel
    by_cases hlt : j < k
    · obtain ⟨p, hp⟩ : ∃ p, l[j]? = some p := ⟨_, List.getElem?_eq_getElem (by have := HLL.out; omega)⟩
      have hny := below_call hb2 hnx
      obtain ⟨ad, cs, e1, _, ⟨A', c', rfl, hc', hnil, hsub⟩, hc0, hcj⟩ := (HROW.out.below hny (fun b h => h.2)).atN hp
      injection e1 with e1
      subst e1
      have g0 : wr.cell? ⟨g, j * 2, none⟩ = some (.string p.1) := by have h := hc0 _ rfl; rw [add_plain', Nat.zero_add] at h; exact h
      have hpm : p.1 ∈ l.map (·.1) := List.mem_map_of_mem (List.mem_of_getElem? hp)
      obtain ⟨hio, hic⟩ := HIN.out _ hpm
      have hj0 : (0 : Int) ≤ (j : Int) := Int.natCast_nonneg _
      have hj1 : (j : Int) < (k : Int) := by omega
      by_cases hw : W p.1 p.1
      · have hio' : p.1 ∈ oo ↔ false = true := by rw [hio]; simp [hw]
        have hic' : p.1 ∈ cc ↔ true = true := by rw [hic]; simp [hw]
        have hww : W p.1 p.1 ↔ true = true := by simp [hw]
        have HIO := Asd.mk hio'; have HIC := Asd.mk hic'; have HWW := Asd.mk hww
        clear hio hic hio' hic' hww hw hc0 hcj hp hsub hc' hnil hpm
        go_wp2_with (first
          | (go_at_call_of 14 (Value.slice Ao on co); refine (HO.out p.1 false (by simpa using HIO.out) _ hny hnx).mono ?_; rintro e wq ⟨rfl, hbq⟩; have hnx := below_call hnx hbq; have hny := below_call hny hbq)
          | (go_at_call_of 14 (Value.slice Ac cn ck); refine (HC.out p.1 true (by simpa using HIC.out) _ hny hnx).mono ?_; rintro e wq ⟨rfl, hbq⟩; have hnx := below_call hnx hbq; have hny := below_call hny hbq)
          | (go_at_call 15; refine (HBK.out p.1 p.1 true (by simpa using HWW.out) _ hny).mono ?_; rintro e wq ⟨rfl, hbq⟩; have hnx := below_call hnx hbq; have hny := below_call hny hbq))
        go_roundw
        case rel => exact ⟨j + 1, by omega, by go_num, by assumption⟩
        case measure => simp [intOf]; omega
      · have hio' : p.1 ∈ oo ↔ true = true := by rw [hio]; simp [hw]
        have hic' : p.1 ∈ cc ↔ false = true := by rw [hic]; simp [hw]
        have hww : W p.1 p.1 ↔ false = true := by simp [hw]
        have HIO := Asd.mk hio'; have HIC := Asd.mk hic'; have HWW := Asd.mk hww
        clear hio hic hio' hic' hww hw hc0 hcj hp hsub hc' hnil hpm
        go_wp2_with (first
          | (go_at_call_of 14 (Value.slice Ao on co); refine (HO.out p.1 true (by simpa using HIO.out) _ hny hnx).mono ?_; rintro e wq ⟨rfl, hbq⟩; have hnx := below_call hnx hbq; have hny := below_call hny hbq)
          | (go_at_call_of 14 (Value.slice Ac cn ck); refine (HC.out p.1 false (by simpa using HIC.out) _ hny hnx).mono ?_; rintro e wq ⟨rfl, hbq⟩; have hnx := below_call hnx hbq; have hny := below_call hny hbq)
          | (go_at_call 15; refine (HBK.out p.1 p.1 false (by simpa using HWW.out) _ hny).mono ?_; rintro e wq ⟨rfl, hbq⟩; have hnx := below_call hnx hbq; have hny := below_call hny hbq))
        go_roundw
        case rel => exact ⟨j + 1, by omega, by go_num, by assumption⟩
        case measure => simp [intOf]; omega
    · have hjk : j = k := by omega
      subst hjk
      clear HIN HC HO hcn
      go_wp2
      go_loopw [11, 12] (fun i _ wr => ∃ q : Nat, q ≤ on ∧ i = .int .i64 (q : Nat) ∧ Below w2.heap.size w2 wr) (fun i _ _ => on - (intOf i).toNat)
      case atStart => exact ⟨0, Nat.zero_le _, rfl, hnx⟩
      case round =>
        clear hnx
        obtain ⟨q, hq, rfl, hnx⟩ := hrel
        by_cases hlt : q < on
        · go_wp2
          obtain ⟨wz, hz⟩ : ∃ wz, wz = wr := ⟨_, rfl⟩
          subst hz
          go_loopw [12] (fun i wr => ∃ q2 : Nat, q ≤ q2 ∧ q2 ≤ on ∧ i = .int .i64 (q2 : Nat) ∧ Below w2.heap.size w2 wr) (fun i _ => on - (intOf i).toNat)
          case atStart => exact ⟨q, Nat.le_refl _, by omega, rfl, hnx⟩
          case round =>
            clear hnx
            obtain ⟨q2, hq2, hq3, rfl, hnx⟩ := hrel
            by_cases hlt2 : q2 < on
            · have hny := below_call hb2 hnx
              obtain ⟨ado, rfl, _, g0⟩ := (HSO.out.below hnx (fun _ h => h)).str (i := q) (by have := HON.out; omega)
              obtain ⟨ado', e1, _, g1⟩ := (HSO.out.below hnx (fun _ h => h)).str (i := q2) (by have := HON.out; omega)
              injection e1 with e1
              subst e1
              have hna := HOO.out q q2 _ _ hq2 (List.getElem?_eq_getElem (by have := HON.out; omega)) (List.getElem?_eq_getElem (by have := HON.out; omega))
              generalize oo[q]'(by have := HON.out; omega) = x at g0 hna
              generalize oo[q2]'(by have := HON.out; omega) = y at g1 hna
              have HNA : Asd (W x y ↔ false = true) := ⟨by simp [hna]⟩
              have hq0 : (0 : Int) ≤ (q : Int) := Int.natCast_nonneg _
              have hq1 : (q : Int) < (on : Int) := by omega
              have hq20 : (0 : Int) ≤ (q2 : Int) := Int.natCast_nonneg _
              have hq21 : (q2 : Int) < (on : Int) := by omega
              clear hna
              have HB2 := HBK.out x y false HNA.out wr.drew (below_drew' hny 1)
              have HB3 := HBK.out x y false HNA.out wr hny
              go_wp2
              go_region_with (first
                | (go_at_call 15; refine HB2.mono ?_; rintro e wq ⟨rfl, hbq⟩))
              all_goals
                go_wp2
                go_roundw
                case rel => exact ⟨q2 + 1, by omega, by omega, by go_num, below_call (below_drew' hnx 1) hbq⟩
                case measure => simp [intOf]; omega
            · go_wp2
              go_roundw
              case rel => exact ⟨q + 1, by omega, by go_num, hnx⟩
              case measure => simp [intOf]; omega
        · go_wp2_with (go_at_call 13; refine (awake17_any _).mono ?_; rintro e w7 ⟨rfl, hb7⟩)
          go_ret
          exact ⟨rfl, below_call (below_call hb1 (below_call hb2 hnx)) hb7⟩
end Go.Proofs.Ythfoaehjnoiniaa
