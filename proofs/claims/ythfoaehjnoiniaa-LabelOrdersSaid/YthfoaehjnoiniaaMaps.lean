/- Maps with string keys as lists of pairs: how the machine looks them up, writes them, ranges over them. No condition. -/
import Derived.Test.YthfoaehjnoiniaaBase
import Derived.Maps.Own
import Derived.Maps.OwnOps
namespace Go.Proofs.Ythfoaehjnoiniaa
open Go.RowKit
open Go.ChangeMaps (setBlock)
open Go.MapKept (IsKey run_checkKey run_findKey run_setObj_map)

theorem beq_bytes (a b : ByteArray) : (a == b) = decide (a = b) := by
  rw [Bool.eq_iff_iff]
  simp only [decide_eq_true_eq]
  rw [ByteArray.ext_iff]
  show ((a.data == b.data) = true) ↔ _
  simp

/-- Block b is a map whose entries read as m. -/
def SMap (w : World) (b : Nat) (m : List (ByteArray × Value)) : Prop :=
  ∃ es clock, w.heap[b]? = some (.map es clock) ∧ es.toList.map (fun e => (e.key, e.val)) = m.map (fun p => (Value.string p.1, p.2)) ∧ (∀ e ∈ es.toList, e.born < clock) ∧ (es.toList.map (·.born)).Nodup ∧ (m.map (·.1)).Nodup
def look (m : List (ByteArray × Value)) (k : ByteArray) : Option Value := (m.find? fun p => decide (k = p.1)).map (·.2)
def hasK (m : List (ByteArray × Value)) (k : ByteArray) : Bool := m.any fun p => decide (k = p.1)
theorem hasK_iff (m : List (ByteArray × Value)) (k : ByteArray) : hasK m k = true ↔ k ∈ m.map (·.1) := by
  unfold hasK
  simp only [List.any_eq_true, decide_eq_true_eq, List.mem_map]
  exact ⟨fun ⟨p, h, e⟩ => ⟨p, h, e.symm⟩, fun ⟨p, h, e⟩ => ⟨p, h, e.symm⟩⟩
def upd (m : List (ByteArray × Value)) (k : ByteArray) (v : Value) : List (ByteArray × Value) :=
  if hasK m k = true then m.map (fun p => if k = p.1 then (p.1, v) else p) else m ++ [(k, v)]

theorem look_upd (m : List (ByteArray × Value)) (k : ByteArray) (v : Value) (x : ByteArray) : look (upd m k v) x = if x = k then some v else look m x := by
  unfold look upd
  by_cases hk : hasK m k = true
  · rw [if_pos hk]
    rw [hasK_iff] at hk
    induction m with
    | nil => simp at hk
    | cons p m ih =>
      simp only [List.map_cons, List.find?_cons]
      by_cases hp : k = p.1
      · subst hp
        by_cases hx : x = p.1
        · subst hx; simp
        · rw [if_pos rfl]
          simp only [hx, decide_false, if_false]
          by_cases hkm : p.1 ∈ m.map (·.1)
          · have := ih hkm
            rw [if_neg hx] at this
            exact this
          · congr 2
            have : m.map (fun q => if p.1 = q.1 then (q.1, v) else q) = m := by
              conv => rhs; rw [← List.map_id m]
              refine List.map_congr_left fun q hq => ?_
              rw [if_neg]; rfl
              rintro e
              exact hkm (by rw [e]; exact List.mem_map_of_mem hq)
            rw [this]
      · rw [if_neg hp]
        have hkm : k ∈ m.map (·.1) := by
          simp only [List.map_cons, List.mem_cons] at hk
          rcases hk with h | h
          · exact absurd h hp
          · exact h
        by_cases hx : x = p.1
        · subst hx
          have : ¬ p.1 = k := fun e => hp e.symm
          simp [this]
        · simp only [hx, decide_false]
          exact ih hkm
  · rw [if_neg hk, List.find?_append]
    rw [hasK_iff] at hk
    by_cases hx : x = k
    · subst hx
      have : m.find? (fun p => decide (x = p.1)) = none := by
        rw [List.find?_eq_none]
        intro p hp
        simp only [decide_eq_true_eq]
        rintro rfl
        exact hk (List.mem_map_of_mem hp)
      simp [this]
    · rw [if_neg hx]
      cases h : m.find? (fun p => decide (x = p.1)) with
      | none => simp [hx]
      | some y => simp
theorem keys_upd (m : List (ByteArray × Value)) (k : ByteArray) (v : Value) : (upd m k v).map (·.1) = if hasK m k = true then m.map (·.1) else m.map (·.1) ++ [k] := by
  unfold upd
  by_cases hk : hasK m k = true
  · rw [if_pos hk, if_pos hk, List.map_map]
    refine List.map_congr_left fun p _ => ?_
    simp only [Function.comp]
    split <;> rfl
  · rw [if_neg hk, if_neg hk]; simp
theorem look_isSome (m : List (ByteArray × Value)) (k : ByteArray) : (look m k).isSome = true ↔ k ∈ m.map (·.1) := by
  unfold look
  simp only [Option.isSome_map, List.find?_isSome, decide_eq_true_eq, List.mem_map]
  exact ⟨fun ⟨p, h, e⟩ => ⟨p, h, e.symm⟩, fun ⟨p, h, e⟩ => ⟨p, h, e.symm⟩⟩

theorem findNow_str (k : ByteArray) : ∀ (es : List MapEntry) (m : List (ByteArray × Value)) (i : Nat), es.map (fun e => (e.key, e.val)) = m.map (fun p => (Value.string p.1, p.2)) →
    Instr.findNow .string (.string k) es i = some ((m.findIdx? fun p => decide (k = p.1)).map fun j => (i + j, (m[j]?.map (·.2)).getD undef))
  | [], [], i, _ => by simp [Instr.findNow]
  | [], _ :: _, _, h => by simp at h
  | _ :: _, [], _, h => by simp at h
  | e :: es, p :: m, i, h => by
    simp only [List.map_cons, List.cons.injEq, Prod.mk.injEq] at h
    obtain ⟨⟨h1, h2⟩, h3⟩ := h
    have ih := findNow_str k es m (i + 1) h3
    simp only [Instr.findNow, h1, Instr.sameNow, beq_bytes, List.findIdx?_cons]
    by_cases hk : k = p.1
    · simp [hk, h2]
    · simp only [hk, decide_false, ih, Bool.false_eq_true, if_false]
      cases m.findIdx? (fun p => decide (k = p.1)) <;> simp
      omega

theorem find_of_idx (m : List (ByteArray × Value)) (k : ByteArray) : look m k = (m.findIdx? fun p => decide (k = p.1)).map fun j => (m[j]?.map (·.2)).getD undef := by
  unfold look
  induction m with
  | nil => simp
  | cons p m ih =>
    simp only [List.find?_cons, List.findIdx?_cons]
    by_cases hk : k = p.1
    · simp [hk]
    · simp only [hk, decide_false, ih, Bool.false_eq_true, if_false]
      cases m.findIdx? (fun p => decide (k = p.1)) <;> simp

section
variable {w w' : World} {b : Nat} {m : List (ByteArray × Value)} {P : Program}
theorem SMap.lt (h : SMap w b m) : b < w.heap.size := by
  obtain ⟨es, clock, hb, _⟩ := h
  exact (Array.getElem?_eq_some_iff.1 hb).1
theorem SMap.grown {row : Option Nat} (h : SMap w b m) (hg : w.grownBy w' row) (hne : some b ≠ row) : SMap w' b m := by
  have hlt := h.lt
  obtain ⟨es, clock, hb, r⟩ := h
  exact ⟨es, clock, (hg.block b hlt hne).trans hb, r⟩
theorem SMap.call (h : SMap w b m) (hb : Below w.heap.size w w') : SMap w' b m := h.grown (grown_below hb none) (by simp)
theorem SMap.alloc (h : SMap w b m) (o : Obj) : SMap (w.alloc o) b m := h.grown (World.grownBy_alloc w o none) (by simp)
theorem SMap.drewN (h : SMap w b m) (n : Nat) : SMap (w.drewN n) b m := h
theorem SMap.set_ (h : SMap w b m) {p : Addr} (hp : b ≠ p.block) (u : Value) : SMap (w.setCell p u) b m := by
  obtain ⟨es, clock, hb, r⟩ := h
  exact ⟨es, clock, (Below.heap_setCell w p u b hp).trans hb, r⟩
theorem SMap.new (w : World) : SMap (w.alloc (.map #[] 0)) w.heap.size [] := ⟨#[], 0, heap_alloc_new w _, by simp, by simp, by simp, by simp⟩
theorem SMap.ne_blk (h : SMap w b m) {g : Nat} {t : TypeId} {cs : Array Value} (h' : Blk w g t cs) : b ≠ g := by
  rintro rfl
  obtain ⟨es, clock, hb, _⟩ := h
  unfold Blk at h'
  rw [hb] at h'
  cases h'
theorem SMap.ne_own (h : SMap w b m) {base : Nat} {e : TypeId} {size n : Nat} {v : Value} {xs : List Value} (h' : w.ownsRow base e size v n xs) : some b ≠ v.ownBlock := by
  rcases h'.2 with ⟨rfl, _⟩ | ⟨g', cap, cur, rfl, _, hh, _⟩
  · simp [Value.ownBlock]
  · intro he
    obtain ⟨es, clock, hb, _⟩ := h
    have : g' = b := by simpa [Value.ownBlock] using he.symm
    subst this
    rw [hh] at hb
    cases hb
theorem SMap.lookup (h : SMap w b m) {t kt et : TypeId} (ht : P.underlying t = some (.map kt et)) (hk : P.underlying kt = some .string) {z : Value} (hz : (zeroValue et).run P w = .ok z w) (k : ByteArray) :
    (Instr.lookup t (.map (some b)) (.string k) false).run P w = .ok ((look m k).getD z) w := by
  obtain ⟨es, clock, hb, hm, _⟩ := h
  have hf := run_findKey (w := w) hk (findNow_str k es.toList m 0 hm)
  have hc := run_checkKey (P := P) (w := w) (k := .string k) hk trivial es.isEmpty 9999
  rw [find_of_idx]
  simp only [Instr.lookup, Sem.run_bind, run_underlying ht, Result.andThen, Go.MapKept.run_getObj_map hb, Sem.run_pure, hc, hf]
  cases m.findIdx? (fun p => decide (k = p.1)) <;> simp [hz]
theorem SMap.lookup_ok (h : SMap w b m) {t kt et : TypeId} (ht : P.underlying t = some (.map kt et)) (hk : P.underlying kt = some .string) {z : Value} (hz : (zeroValue et).run P w = .ok z w) (k : ByteArray) :
    (Instr.lookup t (.map (some b)) (.string k) true).run P w = .ok (.tuple #[(look m k).getD z, .bool (look m k).isSome]) w := by
  obtain ⟨es, clock, hb, hm, _⟩ := h
  have hf := run_findKey (w := w) hk (findNow_str k es.toList m 0 hm)
  have hc := run_checkKey (P := P) (w := w) (k := .string k) hk trivial es.isEmpty 9999
  rw [find_of_idx]
  simp only [Instr.lookup, Sem.run_bind, run_underlying ht, Result.andThen, Go.MapKept.run_getObj_map hb, Sem.run_pure, hc, hf]
  cases m.findIdx? (fun p => decide (k = p.1)) <;> simp [hz, Result.andThen]
theorem sameBits_str (a : ByteArray) : Instr.sameBits 10000 (.string a) (.string a) = true := by
  simp [Instr.sameBits, beq_bytes]
theorem set_nodup_map {α β : Type} (f : α → β) (l : List α) (i : Nat) (x : α) (h : ∀ y, l[i]? = some y → f x = f y) : (l.set i x).map f = l.map f := by
  apply List.ext_getElem?
  intro j
  simp only [List.getElem?_map, List.getElem?_set]
  by_cases hij : i = j
  · subst hij
    rw [if_pos rfl]
    split
    · rename_i hlt
      rw [List.getElem?_eq_getElem hlt]
      simp [h _ (List.getElem?_eq_getElem hlt)]
    · rename_i hlt
      rw [List.getElem?_eq_none (by omega)]
  · rw [if_neg hij]
theorem upd_at (m : List (ByteArray × Value)) (k : ByteArray) (v : Value) (hn : (m.map (·.1)).Nodup) {j : Nat} (hj : m.findIdx? (fun p => decide (k = p.1)) = some j) : upd m k v = m.set j (k, v) ∧ m[j]?.map (·.1) = some k := by
  obtain ⟨hlt, hp, _⟩ := List.findIdx?_eq_some_iff_getElem.1 hj
  simp only [decide_eq_true_eq] at hp
  have hmem : hasK m k = true := by rw [hasK_iff, hp]; exact List.mem_map_of_mem (List.getElem_mem hlt)
  refine ⟨?_, by rw [List.getElem?_eq_getElem hlt]; simp [hp]⟩
  unfold upd
  rw [if_pos hmem]
  apply List.ext_getElem?
  intro i
  simp only [List.getElem?_map, List.getElem?_set]
  by_cases hij : j = i
  · subst hij
    rw [if_pos rfl, if_pos hlt, List.getElem?_eq_getElem hlt]
    simp [← hp]
  · rw [if_neg hij]
    cases hx : m[i]? with
    | none => rfl
    | some q =>
      simp only [Option.map_some]
      rw [if_neg]
      rintro e
      have hi : i < m.length := (List.getElem?_eq_some_iff.1 hx).1
      have hq : m[i] = q := by rw [List.getElem?_eq_getElem hi] at hx; exact Option.some.inj hx
      have := List.getElem_inj (xs := m.map (·.1)) (i := j) (j := i) (h₀ := by simpa using hlt) (h₁ := by simpa using hi) hn
      exact hij (this.1 (by simp [hq, ← hp, e]))
theorem upd_new (m : List (ByteArray × Value)) (k : ByteArray) (v : Value) (hj : m.findIdx? (fun p => decide (k = p.1)) = none) : upd m k v = m ++ [(k, v)] ∧ k ∉ m.map (·.1) := by
  have hn : k ∉ m.map (·.1) := by
    rw [List.findIdx?_eq_none_iff] at hj
    intro h
    obtain ⟨p, hp, rfl⟩ := List.mem_map.1 h
    have := hj p hp
    simp at this
  exact ⟨by unfold upd; rw [if_neg (fun h => hn ((hasK_iff m k).1 h))], hn⟩
theorem keys_nodup_upd (m : List (ByteArray × Value)) (k : ByteArray) (v : Value) (hn : (m.map (·.1)).Nodup) : ((upd m k v).map (·.1)).Nodup := by
  rw [keys_upd]
  split
  · exact hn
  · rename_i h
    rw [List.nodup_append]
    refine ⟨hn, by simp, fun a ha b hb e => h ?_⟩
    simp at hb
    rw [hasK_iff, ← hb, ← e]; exact ha
theorem SMap.update (h : SMap w b m) {t kt et : TypeId} (ht : P.underlying t = some (.map kt et)) (hk : P.underlying kt = some .string) (k : ByteArray) (v : Value) :
    ∃ w', (Instr.mapUpdate t (.map (some b)) (.string k) v).run P w = .ok () w' ∧ SMap w' b (upd m k v) ∧ w.grownBy w' (some b) := by
  obtain ⟨es, clock, hb, hm, hlt, hnd, hkn⟩ := h
  have hf := run_findKey (w := w) hk (findNow_str k es.toList m 0 hm)
  have hc := run_checkKey (P := P) (w := w) (k := .string k) hk trivial false 9999
  have hbl : b < w.heap.size := (Array.getElem?_eq_some_iff.1 hb).1
  have gro : ∀ o, w.grownBy { w with heap := w.heap.setIfInBounds b o } (some b) := fun o =>
    ⟨rfl, rfl, rfl, by simp, fun i hi hne => by
      have : b ≠ i := fun e => hne (by rw [e])
      simp [this]⟩
  cases hidx : m.findIdx? (fun p => decide (k = p.1)) with
  | none =>
    rw [hidx] at hf
    obtain ⟨hu, hnk⟩ := upd_new m k v hidx
    refine ⟨{ w with heap := w.heap.setIfInBounds b (.map (es.push { key := .string k, val := v, born := clock }) (clock + 1)) }, ?_, ?_, gro _⟩
    · simp only [Instr.mapUpdate, Sem.run_bind, run_underlying ht, Result.andThen, Go.MapKept.run_getObj_map hb, hc, hf, Option.map_none]
      exact run_setObj_map _ hb
    · refine ⟨es.push { key := .string k, val := v, born := clock }, clock + 1, by simp [hbl], ?_, ?_, ?_, keys_nodup_upd m k v hkn⟩
      · rw [hu]; simp [hm]
      · intro e he
        simp at he
        rcases he with he | rfl
        · have := hlt e (by simpa using he); omega
        · simp
      · simp only [Array.toList_push, List.map_append, List.map_cons, List.map_nil]
        rw [List.nodup_append]
        refine ⟨hnd, by simp, fun a ha b hb' e => ?_⟩
        simp at hb'
        subst hb'
        subst e
        obtain ⟨x, hx, hxe⟩ := List.mem_map.1 ha
        have := hlt x hx
        omega
  | some j =>
    rw [hidx] at hf
    obtain ⟨hu, hkj⟩ := upd_at m k v hkn hidx
    obtain ⟨hjl, _, _⟩ := List.findIdx?_eq_some_iff_getElem.1 hidx
    have hlen : es.size = m.length := by simpa using congrArg List.length hm
    have hkey : (es[j]?.map (·.key)) = some (.string k) := by
      have h1 := congrArg (fun l => l[j]?) hm
      simp only [List.getElem?_map, Array.getElem?_toList] at h1
      rw [List.getElem?_eq_getElem hjl] at hkj h1
      rw [Array.getElem?_eq_getElem (by omega)] at h1 ⊢
      simp at h1 hkj ⊢
      rw [h1.1, hkj]
    refine ⟨{ w with heap := w.heap.setIfInBounds b (.map (es.modify j fun e => { e with key := .string k, val := v }) clock) }, ?_, ?_, gro _⟩
    · simp only [Instr.mapUpdate, Sem.run_bind, run_underlying ht, Result.andThen, Go.MapKept.run_getObj_map hb, hc, hf, Option.map_some, Nat.zero_add, hkey, Option.getD_some, Instr.keyThatStays, sameBits_str, if_true, Sem.run_pure]
      exact run_setObj_map _ hb
    · have hmod : (es.modify j fun e => { e with key := .string k, val := v }).toList = es.toList.set j { (es[j]'(by omega)) with key := .string k, val := v } := by
        apply List.ext_getElem?
        intro i
        simp only [Array.getElem?_toList, Array.getElem?_modify, List.getElem?_set, Array.length_toList]
        by_cases hij : j = i
        · subst hij
          have : j < es.size := by omega
          simp [this]
        · simp [hij]
      refine ⟨es.modify j fun e => { e with key := .string k, val := v }, clock, by simp [hbl], ?_, ?_, ?_, keys_nodup_upd m k v hkn⟩
      · rw [hmod, hu, List.map_set, List.map_set, hm]
      · rw [hmod]
        intro e he
        rcases List.mem_or_eq_of_mem_set he with h | rfl
        · exact hlt e h
        · exact hlt (es[j]'(by omega)) (by simp)
      · rw [hmod, set_nodup_map]
        · exact hnd
        · intro y hy
          rw [Array.getElem?_toList, Array.getElem?_eq_getElem (by omega)] at hy
          injection hy with hy
          rw [← hy]
end

/-- What a map type says: its keys are strings; z: its elements' zero value. -/
structure MapT (P : Program) (t : TypeId) (z : Value) : Prop where
  out : ∃ kt et, P.underlying t = some (.map kt et) ∧ P.underlying kt = some .string ∧ ∀ w, (zeroValue et).run P w = .ok z w
section
variable {P : Program} {w : World} {ops : Array Oper} {rest : List Oper} {o : Oper} {a : Act} {Q : Exit → Act → World → Prop} {z : Value}
theorem wp_mapUpd {K : Act → World → Prop} (mo xo vo : Operand) (t : TypeId) (hop : o.op = Op.mapUpdate t mo xo vo) (T : MapT P t z)
    (b : Nat) (m : List (ByteArray × Value)) (k : ByteArray) (v : Value) (hm : a.eval mo = .map (some b)) (hx : a.eval xo = .string k) (hv : a.eval vo = v) (hs : SMap w b m)
    (hK : ∀ w', SMap w' b (upd m k v) → w.grownBy w' (some b) → K (a.put o.dst undef) w') : o.wp P a w K Q := by
  obtain ⟨kt, et, ht, hk, _⟩ := T.out
  obtain ⟨w', hrun, r1, r2⟩ := hs.update ht hk k v
  unfold Oper.wp
  simp [execOp, hop, hm, hx, hv, hrun, Result.andThen]
  exact hK w' r1 r2
theorem wp_look {K : Act → World → Prop} (mo xo : Operand) (t : TypeId) (hop : o.op = Op.lookup t mo xo false) (T : MapT P t z)
    (b : Nat) (m : List (ByteArray × Value)) (k : ByteArray) (hm : a.eval mo = .map (some b)) (hx : a.eval xo = .string k) (hs : SMap w b m)
    (hK : K (a.put o.dst ((look m k).getD z)) w) : o.wp P a w K Q := by
  obtain ⟨kt, et, ht, hk, hz⟩ := T.out
  have hrun := hs.lookup ht hk (hz w) k
  unfold Oper.wp
  simp [execOp, hop, hm, hx, hrun, Result.andThen]
  exact hK
theorem wp_look_ok {K : Act → World → Prop} (mo xo : Operand) (t : TypeId) (hop : o.op = Op.lookup t mo xo true) (T : MapT P t z)
    (b : Nat) (m : List (ByteArray × Value)) (k : ByteArray) (hm : a.eval mo = .map (some b)) (hx : a.eval xo = .string k) (hs : SMap w b m)
    (hK : K (a.put o.dst (.tuple #[(look m k).getD z, .bool (look m k).isSome])) w) : o.wp P a w K Q := by
  obtain ⟨kt, et, ht, hk, hz⟩ := T.out
  have hrun := hs.lookup_ok ht hk (hz w) k
  unfold Oper.wp
  simp [execOp, hop, hm, hx, hrun, Result.andThen]
  exact hK
/-- 'm[k] = v', 'm[k]' at the operation. -/
theorem wpList_mapUpd (hg : o.guard = none) (mo xo vo : Operand) (t : TypeId) (hop : o.op = Op.mapUpdate t mo xo vo) (T : MapT P t z)
    (b : Nat) (m : List (ByteArray × Value)) (k : ByteArray) (v : Value) (hm : a.eval mo = .map (some b)) (hx : a.eval xo = .string k) (hv : a.eval vo = v) (hs : SMap w b m)
    (hK : ∀ w', SMap w' b (upd m k v) → w.grownBy w' (some b) → wpList P ops Q rest (a.put o.dst undef) w') : wpList P ops Q (o :: rest) a w :=
  wpList_plain hg fun _ hK' => wp_mapUpd mo xo vo t hop T b m k v hm hx hv hs fun w' r1 r2 => hK' _ _ (hK w' r1 r2)
theorem wpList_look (hg : o.guard = none) (mo xo : Operand) (t : TypeId) (hop : o.op = Op.lookup t mo xo false) (T : MapT P t z)
    (b : Nat) (m : List (ByteArray × Value)) (k : ByteArray) (hm : a.eval mo = .map (some b)) (hx : a.eval xo = .string k) (hs : SMap w b m)
    (u : Value) (hu : (look m k).getD z = u) (hK : wpList P ops Q rest (a.put o.dst u) w) : wpList P ops Q (o :: rest) a w :=
  wpList_plain hg fun _ hK' => wp_look mo xo t hop T b m k hm hx hs (hK' _ _ (by rw [hu]; exact hK))
theorem wpList_look_ok (hg : o.guard = none) (mo xo : Operand) (t : TypeId) (hop : o.op = Op.lookup t mo xo true) (T : MapT P t z)
    (b : Nat) (m : List (ByteArray × Value)) (k : ByteArray) (hm : a.eval mo = .map (some b)) (hx : a.eval xo = .string k) (hs : SMap w b m)
    (u : Value) (f : Bool) (hu : (look m k).getD z = u) (hf : (look m k).isSome = f) (hK : wpList P ops Q rest (a.put o.dst (.tuple #[u, .bool f])) w) : wpList P ops Q (o :: rest) a w :=
  wpList_plain hg fun _ hK' => wp_look_ok mo xo t hop T b m k hm hx hs (hK' _ _ (by rw [hu, hf]; exact hK))
theorem step_mapUpd {K : Act → World → Prop} {EE : Prop} (hg : o.guard = none) (mo xo vo : Operand) (t : TypeId) (hop : o.op = Op.mapUpdate t mo xo vo) (T : MapT P t z)
    (b : Nat) (m : List (ByteArray × Value)) (k : ByteArray) (v : Value) (hm : a.eval mo = .map (some b)) (hx : a.eval xo = .string k) (hv : a.eval vo = v) (hs : SMap w b m)
    (hK : ∀ w', SMap w' b (upd m k v) → w.grownBy w' (some b) → K (a.put o.dst undef) w') : if Region.wanted o (yielded ops a.tmps) = true then Oper.wp P o a w K Q else EE := by
  have hw : Region.wanted o (yielded ops a.tmps) = true := by simp [Region.wanted, hg]
  rw [if_pos hw]
  exact wp_mapUpd mo xo vo t hop T b m k v hm hx hv hs hK
end
theorem MapT.len {P : Program} {t : TypeId} {z : Value} (T : MapT P t z) {w : World} {b : Nat} {m : List (ByteArray × Value)} (hs : SMap w b m) (ty : TypeId) :
    (Builtin.len_ #[t] ty #[.map (some b)]).run P w = .ok (.int .i64 m.length) w := by
  obtain ⟨kt, et, ht, _, _⟩ := T.out
  obtain ⟨es, clock, hb, hm, _⟩ := hs
  have hl : es.size = m.length := by simpa using congrArg List.length hm
  simp [Builtin.len_, run_underlying ht, Go.MapKept.run_getObj_map hb, Result.andThen, goInt, hl]
theorem SMap.nodup {w : World} {b : Nat} {m : List (ByteArray × Value)} (hs : SMap w b m) : (m.map (·.1)).Nodup := by
  obtain ⟨es, clock, hb, hm, _, _, h⟩ := hs
  exact h
theorem MapT.upd {P : Program} {t : TypeId} {z : Value} (T : MapT P t z) {w : World} {b : Nat} {m : List (ByteArray × Value)} (hs : SMap w b m) (k : ByteArray) (v : Value) :
    ∃ w', (Instr.mapUpdate t (.map (some b)) (.string k) v).run P w = .ok () w' ∧ SMap w' b (upd m k v) ∧ w.grownBy w' (some b) := by
  obtain ⟨kt, et, ht, hk, _⟩ := T.out
  exact hs.update ht hk k v
/-- The run of a lookup, for a region that draws. -/
theorem MapT.run {P : Program} {t : TypeId} {z : Value} (T : MapT P t z) {w : World} {b : Nat} {m : List (ByteArray × Value)} (hs : SMap w b m) (k : ByteArray) {u : Value} (hu : (look m k).getD z = u) :
    (Instr.lookup t (.map (some b)) (.string k) false).run P w = .ok u w := by
  obtain ⟨kt, et, ht, hk, hz⟩ := T.out
  rw [hs.lookup ht hk (hz w) k, hu]
end Go.Proofs.Ythfoaehjnoiniaa
