/- A map whose keys are pairs of numbers, read as a function of its key. -/
import Derived.Test.YtkbhmajcddmhnaaVGr1
import Derived.Laws.StructEq
import Derived.Laws.Tables
namespace Go.Proofs.Ytkbhmajcddmhnaa
open Go.RowKit
set_option linter.unusedVariables false
set_option linter.unusedSimpArgs false

/-- a pair of numbers -/
structure PK where
  a : Int
  b : Int
  deriving DecidableEq
def PK.val (p : PK) : Value := .agg #[.int .i64 p.a, .int .i64 p.b]
theorem PK.val_inj {p q : PK} (h : p.val = q.val) : p = q := by
  obtain ⟨a, b⟩ := p
  obtain ⟨c, d⟩ := q
  simp only [PK.val, Value.agg.injEq] at h
  have h1 := congrArg (fun x : Array Value => x[0]?) h
  have h2 := congrArg (fun x : Array Value => x[1]?) h
  simp at h1 h2
  rw [h1, h2]
noncomputable def pairIs (p : PK) (e : MapEntry) : Bool := @decide (e.key = p.val) (Classical.propDecidable _)
theorem pairIs_true {p : PK} {e : MapEntry} : pairIs p e = true ↔ e.key = p.val := by unfold pairIs; simp
theorem pairIs_false {p : PK} {e : MapEntry} : pairIs p e = false ↔ e.key ≠ p.val := by unfold pairIs; simp
def PairKeys (es : List MapEntry) : Prop := ∀ e ∈ es, ∃ q : PK, e.key = q.val
/-- block b is a map with pairs as keys that gives F p at p -/
def PMapIs (w : World) (b : Nat) (F : PK → Option Value) : Prop :=
  ∃ es clock, w.heap[b]? = some (.map es clock) ∧ PairKeys es.toList ∧ ∀ p, F p = (es.toList.find? (pairIs p)).map (·.val)
theorem PMapIs.ext {w w' : World} {b : Nat} {F : PK → Option Value} (h : PMapIs w b F) (e : Ext w w') : PMapIs w' b F :=
  let ⟨es, c, h1, h2⟩ := h; ⟨es, c, e.heap h1, h2⟩
theorem PMapIs.lt {w : World} {b : Nat} {F : PK → Option Value} (h : PMapIs w b F) : b < w.heap.size :=
  let ⟨_, _, h1, _⟩ := h; (Array.getElem?_eq_some_iff.1 h1).1
theorem PMapIs.same {w w' : World} {b : Nat} {F : PK → Option Value} (h : PMapIs w b F) (e : w'.heap[b]? = w.heap[b]?) : PMapIs w' b F :=
  let ⟨es, c, h1, h2⟩ := h; ⟨es, c, e.trans h1, h2⟩
theorem PMapIs.made (w : World) : PMapIs (w.alloc (.map #[] 0)) w.heap.size (fun _ => none) :=
  ⟨#[], 0, heap_alloc_new w _, by simp [PairKeys], fun p => rfl⟩

theorem pair_eq (p q : PK) (w : World) : (Op.equal 74 p.val q.val).run Try.prog w = .ok (decide (p = q)) w := by
  obtain ⟨a, b⟩ := p
  obtain ⟨c, d⟩ := q
  have u3 := Try.underlying3
  have a3 := Try.isAgg3
  have z3 := Try.sizeOf3
  unfold Op.equal PK.val Op.maxDepth
  rw [show (10000 : Nat) = 9999 + 1 from rfl, Op.equalIn]
  simp only [Sem.run_bind, run_underlying Try.underlying74, Result.andThen_ok]
  simp only [Std.Legacy.Range.forIn_eq_forIn_range', Std.Legacy.Range.size, Nat.sub_zero, Nat.add_sub_cancel, Nat.div_one, List.range'_succ, List.range'_zero, List.forIn_cons, List.forIn_nil]
  go_simp
  by_cases h1 : a = c <;> by_cases h2 : b = d <;> simp [h1, h2]
theorem int_check (e : Bool) (n : Nat) (a : Int) (w : World) : (Instr.checkKey e (n + 1) 3 (.int .i64 a)).run Try.prog w = .ok () w := by
  unfold Instr.checkKey
  simp [Sem.run_bind, run_underlying Try.underlying3]
theorem pair_check (e : Bool) (p : PK) (w : World) : (Instr.checkKey e 10000 74 p.val).run Try.prog w = .ok () w := by
  have hi := fun a w => int_check e 9998 a w
  have u3 := Try.underlying3
  have a3 := Try.isAgg3
  have z3 := Try.sizeOf3
  unfold PK.val
  rw [show (10000 : Nat) = 9999 + 1 from rfl, Instr.checkKey]
  simp only [Sem.run_bind, run_underlying Try.underlying74, Result.andThen_ok]
  simp only [Std.Legacy.Range.forIn_eq_forIn_range', Std.Legacy.Range.size, Nat.sub_zero, Nat.add_sub_cancel, Nat.div_one, List.range'_succ, List.range'_zero, List.forIn_cons, List.forIn_nil]
  rw [show (9999 : Nat) = 9998 + 1 from rfl]
  go_simp
theorem findAsking_pair (p : PK) (w : World) : ∀ (es : List MapEntry) (i : Nat), PairKeys es → (Instr.findAsking 74 p.val es i).run Try.prog w = .ok ((es.findIdx? (pairIs p)).bind fun j => (es[j]?).map fun e => (i + j, e.val)) w
  | [], i, _ => by simp [Instr.findAsking]
  | e :: es, i, h => by
    obtain ⟨q, hq⟩ := h e (by simp)
    have ih := findAsking_pair p w es (i + 1) (fun x hx => h x (by simp [hx]))
    unfold Instr.findAsking
    simp only [Sem.run_bind, hq, pair_eq, Result.andThen_ok]
    by_cases hpq : p = q
    · subst hpq
      have : pairIs p e = true := pairIs_true.2 hq
      simp [List.findIdx?_cons, this]
    · have : pairIs p e = false := pairIs_false.2 (by rw [hq]; exact fun e => hpq (PK.val_inj e).symm)
      simp only [hpq, decide_false, Bool.false_eq_true, if_false, ih, List.findIdx?_cons, this]
      cases hf : es.findIdx? (pairIs p) with
      | none => simp
      | some j =>
        simp only [Option.bind_some, Option.map_some, List.getElem?_cons_succ]
        cases es[j]? <;> simp
        omega
theorem findKey_pair (p : PK) (w : World) (es : List MapEntry) (h : PairKeys es) : (Instr.findKey 74 p.val es).run Try.prog w = .ok ((es.findIdx? (pairIs p)).bind fun j => (es[j]?).map fun e => (0 + j, e.val)) w := by
  unfold Instr.findKey
  simp only [Sem.run_bind, run_underlying Try.underlying74, Result.andThen_ok]
  cases es with
  | nil => simp [Instr.findNow]
  | cons e es =>
    have : Instr.findNow (.array 2 3) p.val (e :: es) 0 = none := by simp [Instr.findNow, Instr.sameNow]
    simp only [this]
    exact findAsking_pair p w (e :: es) 0 h
section
variable {t E : TypeId}
theorem run_lookup_pair {w : World} {b : Nat} {F : PK → Option Value} {z : Value} (h : PMapIs w b F) (ht : Try.prog.underlying t = some (.map 74 E)) (hz : (zeroValue E).run Try.prog w = .ok z w) (p : PK) :
    (Instr.lookup t (.map (some b)) p.val true).run Try.prog w = .ok (.tuple #[(F p).getD z, .bool (F p).isSome]) w ∧ (Instr.lookup t (.map (some b)) p.val false).run Try.prog w = .ok ((F p).getD z) w := by
  obtain ⟨es, clock, hb, hk, hF⟩ := h
  have hfind := findKey_pair p w es.toList hk
  have hget : (getObj b).run Try.prog w = .ok (.map es clock) w := by simp [getObj, Sem.run, hb]
  have hck := pair_check es.isEmpty p w
  unfold Instr.lookup
  simp only [Sem.run_bind, run_underlying ht, Result.andThen_ok, hget, Sem.run_pure, hck, hfind]
  rw [hF p, find_of_findIdx]
  cases hi : es.toList.findIdx? (pairIs p) with
  | none => simp [hz, Sem.run_bind]
  | some j =>
    simp only [Option.bind_some]
    cases es.toList[j]? <;> simp [hz, Sem.run_bind]
theorem pfind_modify (p : PK) (v : Value) : ∀ (l : List MapEntry) (j : Nat), l.findIdx? (pairIs p) = some j → ∀ q, ((l.modify j fun e => { e with key := p.val, val := v }).find? (pairIs q)).map (·.val) = if q = p then some v else (l.find? (pairIs q)).map (·.val)
  | [], j, h, q => by simp at h
  | e :: l, j, h, q => by
    rw [List.findIdx?_cons] at h
    cases hp : pairIs p e with
    | true =>
      rw [hp] at h
      simp only [if_true, Option.some.injEq] at h
      subst h
      rw [List.modify_zero_cons, List.find?_cons]
      by_cases hq : q = p
      · subst hq; simp [pairIs_true.2 (show ({ e with key := q.val, val := v } : MapEntry).key = q.val from rfl)]
      · have h1 : pairIs q { e with key := p.val, val := v } = false := pairIs_false.2 fun e => hq (PK.val_inj e).symm
        have h2 : pairIs q e = false := pairIs_false.2 (by rw [pairIs_true.1 hp]; exact fun e => hq (PK.val_inj e).symm)
        rw [h1, if_neg hq, List.find?_cons, h2]
    | false =>
      rw [hp] at h
      simp only [Bool.false_eq_true, if_false] at h
      cases hf : l.findIdx? (pairIs p) with
      | none => rw [hf] at h; cases h
      | some i =>
        rw [hf] at h
        simp only [Option.map_some, Option.some.injEq] at h
        subst h
        rw [List.modify_succ_cons, List.find?_cons, List.find?_cons]
        have ih := pfind_modify p v l i hf q
        cases hq : pairIs q e with
        | true =>
          have : q ≠ p := by intro e1; subst e1; rw [hp] at hq; cases hq
          simp [this]
        | false => simpa using ih

theorem pairKeys_modify (p : PK) (v : Value) : ∀ (l : List MapEntry) (j : Nat), PairKeys l → PairKeys (l.modify j fun e => { e with key := p.val, val := v })
  | [], j, h => by cases j <;> simp [PairKeys]
  | e :: l, 0, h => by
    rw [List.modify_zero_cons]
    intro x hx
    rcases List.mem_cons.1 hx with rfl | hx
    · exact ⟨p, rfl⟩
    · exact h x (List.mem_cons_of_mem _ hx)
  | e :: l, j + 1, h => by
    rw [List.modify_succ_cons]
    intro x hx
    rcases List.mem_cons.1 hx with rfl | hx
    · exact h _ (List.mem_cons_self ..)
    · exact pairKeys_modify p v l j (fun y hy => h y (List.mem_cons_of_mem _ hy)) x hx

theorem run_mapUpdate_pair {w : World} {b : Nat} {F : PK → Option Value} (h : PMapIs w b F) (ht : Try.prog.underlying t = some (.map 74 E)) (p : PK) (v : Value) :
    ∃ w', (Instr.mapUpdate t (.map (some b)) p.val v).run Try.prog w = .ok () w' ∧ PMapIs w' b (fun q => if q = p then some v else F q) ∧ w.grownBy w' (some b) := by
  obtain ⟨es, clock, hb, hk, hF⟩ := h
  have hblt : b < w.heap.size := (Array.getElem?_eq_some_iff.1 hb).1
  have hfk := findKey_pair p w es.toList hk
  have hget : (getObj b).run Try.prog w = .ok (.map es clock) w := by simp [getObj, Sem.run, hb]
  have hset : ∀ o, (setObj b o).run Try.prog w = .ok () { w with heap := w.heap.setIfInBounds b o } := by intro o; simp [setObj, Sem.run, hb]
  have hck := pair_check false p w
  have hgrown : ∀ o, w.grownBy { w with heap := w.heap.setIfInBounds b o } (some b) := fun o => ⟨rfl, rfl, rfl, by simp, fun i _ hi => by
    have hne : b ≠ i := fun e => hi (by rw [e])
    simp [Array.getElem?_setIfInBounds_ne hne]⟩
  have hnew : ∀ o, ({ w with heap := w.heap.setIfInBounds b o } : World).heap[b]? = some o := fun o => by simp [hblt]
  unfold Instr.mapUpdate
  simp only [Sem.run_bind, run_underlying ht, Result.andThen_ok, hget, hck, hfk]
  cases hi : es.toList.findIdx? (pairIs p) with
  | none =>
    simp only [Option.bind_none, hset]
    refine ⟨_, rfl, ⟨_, _, hnew _, ?_, ?_⟩, hgrown _⟩
    · intro e he
      simp only [Array.toList_push, List.mem_append, List.mem_singleton] at he
      rcases he with he | rfl
      · exact hk e he
      · exact ⟨p, rfl⟩
    · intro q
      simp only [Array.toList_push, List.find?_append]
      have hnone : es.toList.find? (pairIs p) = none := by rw [find_of_findIdx, hi]; rfl
      by_cases hq : q = p
      · subst hq
        simp [hnone, pairIs]
      · rw [if_neg hq, hF q]
        have : pairIs q { key := p.val, val := v, born := clock } = false := pairIs_false.2 fun e => hq (PK.val_inj e).symm
        cases hfq : es.toList.find? (pairIs q) <;> simp [List.find?_cons, this]
  | some j =>
    obtain ⟨hj, hpj, _⟩ := List.findIdx?_eq_some_iff_getElem.1 hi
    have hkey := pairIs_true.1 hpj
    have hel : es.toList[j]? = some es.toList[j] := List.getElem?_eq_getElem hj
    simp only [Option.bind_some, hel, Option.map_some, Nat.zero_add]
    have hstay : (Instr.keyThatStays (((es[j]?).map (·.key)).getD p.val) p.val).run Try.prog w = .ok p.val w := by
      have : es[j]? = some es.toList[j] := by rw [← Array.getElem?_toList]; exact hel
      rw [this]
      simp only [Option.map_some, Option.getD_some, hkey]
      have hsb : Instr.sameBits 10000 p.val p.val = true := by
        unfold PK.val
        rw [show (10000 : Nat) = 9998 + 1 + 1 from rfl]
        simp [Instr.sameBits]
      unfold Instr.keyThatStays
      simp [hsb]
    simp only [Sem.run_bind, hstay, Result.andThen_ok, hset]
    refine ⟨_, rfl, ⟨_, _, hnew _, ?_, ?_⟩, hgrown _⟩
    · rw [Array.toList_modify]
      exact pairKeys_modify p v _ j hk
    · intro q
      show (if q = p then some v else F q) = _
      rw [Array.toList_modify]
      have := pfind_modify p v es.toList j hi q
      rw [this, hF q]
end
end Go.Proofs.Ytkbhmajcddmhnaa
