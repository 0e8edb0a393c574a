/- A map with int keys, read as a function of its key (none: there is no entry). -/
import Derived.Test.YtcoelhpmkhimpaaBase
namespace Go.Proofs.Ytcoelhpmkhimpaa
open Go.RowKit
set_option linter.unusedVariables false
set_option linter.unusedSimpArgs false

def keyIs (p : Int) (e : MapEntry) : Bool := match e.key with | .int .i64 q => p == q | _ => false
def IntKeys (es : List MapEntry) : Prop := ∀ e ∈ es, ∃ q, e.key = .int .i64 q
/-- block b is a map with int keys that gives F p at p -/
def OMapIs (w : World) (b : Nat) (F : Int → Option Value) : Prop :=
  ∃ es clock, w.heap[b]? = some (.map es clock) ∧ IntKeys es.toList ∧ ∀ p, F p = (es.toList.find? (keyIs p)).map (·.val)
theorem OMapIs.ext {w w' : World} {b : Nat} {F : Int → Option Value} (h : OMapIs w b F) (e : Ext w w') : OMapIs w' b F :=
  let ⟨es, c, h1, h2⟩ := h; ⟨es, c, e.heap h1, h2⟩
theorem OMapIs.lt {w : World} {b : Nat} {F : Int → Option Value} (h : OMapIs w b F) : b < w.heap.size :=
  let ⟨_, _, h1, _⟩ := h; (Array.getElem?_eq_some_iff.1 h1).1
theorem OMapIs.same {w w' : World} {b : Nat} {F : Int → Option Value} (h : OMapIs w b F) (e : w'.heap[b]? = w.heap[b]?) : OMapIs w' b F :=
  let ⟨es, c, h1, h2⟩ := h; ⟨es, c, e.trans h1, h2⟩
theorem OMapIs.made (w : World) : OMapIs (w.alloc (.map #[] 0)) w.heap.size (fun _ => none) :=
  ⟨#[], 0, heap_alloc_new w _, by simp [IntKeys], fun p => rfl⟩

theorem findNow_int (p : Int) : ∀ (es : List MapEntry) (i : Nat), IntKeys es → Instr.findNow (.int .i64) (.int .i64 p) es i = some ((es.findIdx? (keyIs p)).bind fun j => (es[j]?).map fun e => (i + j, e.val))
  | [], i, _ => by simp [Instr.findNow]
  | e :: es, i, h => by
    obtain ⟨q, hq⟩ := h e (by simp)
    have ih := findNow_int p es (i + 1) (fun x hx => h x (by simp [hx]))
    unfold Instr.findNow
    simp only [Instr.sameNow, hq, if_true]
    by_cases hpq : p = q
    · subst hpq
      have : keyIs p e = true := by simp [keyIs, hq]
      simp [List.findIdx?_cons, this]
    · have hb : (p == q) = false := by simp [hpq]
      have : keyIs p e = false := by simp [keyIs, hq, hpq]
      simp only [hb, ih, List.findIdx?_cons, this]
      cases hf : es.findIdx? (keyIs p) with
      | none => simp
      | some j =>
        simp only [Option.bind_some, Option.map_some, Bool.false_eq_true, if_false, List.getElem?_cons_succ]
        cases es[j]? <;> simp
        omega

theorem find_of_findIdx {α : Type} (p : α → Bool) (l : List α) : l.find? p = (l.findIdx? p).bind fun j => l[j]? := by
  induction l with
  | nil => simp
  | cons x l ih =>
    rw [List.find?_cons, List.findIdx?_cons]
    cases h : p x with
    | true => simp
    | false =>
      simp only [Bool.false_eq_true, if_false, ih]
      cases l.findIdx? p <;> simp

section
variable {P : Program} {t K E : TypeId}
theorem run_lookup_int {w : World} {b : Nat} {F : Int → Option Value} {z : Value} (h : OMapIs w b F) (ht : P.underlying t = some (.map K E)) (hK : P.underlying K = some (.int .i64)) (hz : (zeroValue E).run P w = .ok z w) (p : Int) :
    (Instr.lookup t (.map (some b)) (.int .i64 p) true).run P w = .ok (.tuple #[(F p).getD z, .bool (F p).isSome]) w ∧ (Instr.lookup t (.map (some b)) (.int .i64 p) false).run P w = .ok ((F p).getD z) w := by
  obtain ⟨es, clock, hb, hk, hF⟩ := h
  have hfind := findNow_int p es.toList 0 hk
  have hget : (getObj b).run P w = .ok (.map es clock) w := by simp [getObj, Sem.run, hb]
  have hck : (Instr.checkKey es.isEmpty 10000 K (.int .i64 p)).run P w = .ok () w := by
    rw [show (10000 : Nat) = 9999 + 1 from rfl]
    unfold Instr.checkKey
    simp [Sem.run_bind, run_underlying hK]
  have hfk : (Instr.findKey K (.int .i64 p) es.toList).run P w = .ok ((es.toList.findIdx? (keyIs p)).bind fun j => (es.toList[j]?).map fun e => (0 + j, e.val)) w := by
    unfold Instr.findKey
    simp only [Sem.run_bind, run_underlying hK, Result.andThen_ok, hfind, Sem.run_pure]
  unfold Instr.lookup
  simp only [Sem.run_bind, run_underlying ht, Result.andThen_ok, hget, Sem.run_pure, hck, hfk]
  rw [hF p, find_of_findIdx]
  cases hi : es.toList.findIdx? (keyIs p) with
  | none => simp [hz, Sem.run_bind]
  | some j =>
    simp only [Option.bind_some]
    cases es.toList[j]? <;> simp [hz, Sem.run_bind]

theorem keyIs_key {p : Int} {e : MapEntry} (h : keyIs p e = true) : e.key = .int .i64 p := by
  unfold keyIs at h
  split at h
  · rename_i q hq
    rw [hq]
    have := beq_iff_eq.1 h
    rw [this]
  · cases h

theorem find_modify (p : Int) (v : Value) : ∀ (l : List MapEntry) (j : Nat), l.findIdx? (keyIs p) = some j → ∀ q, ((l.modify j fun e => { e with key := .int .i64 p, val := v }).find? (keyIs q)).map (·.val) = if q = p then some v else (l.find? (keyIs q)).map (·.val)
  | [], j, h, q => by simp at h
  | e :: l, j, h, q => by
    rw [List.findIdx?_cons] at h
    cases hp : keyIs p e with
    | true =>
      rw [hp] at h
      simp only [if_true, Option.some.injEq] at h
      subst h
      rw [List.modify_zero_cons, List.find?_cons]
      by_cases hq : q = p
      · subst hq; simp [keyIs]
      · have h1 : keyIs q { e with key := .int .i64 p, val := v } = false := by simp [keyIs, hq]
        have h2 : keyIs q e = false := by have := keyIs_key hp; simp [keyIs, this, hq]
        rw [h1, if_neg hq, List.find?_cons, h2]
    | false =>
      rw [hp] at h
      simp only [Bool.false_eq_true, if_false] at h
      cases hf : l.findIdx? (keyIs p) with
      | none => rw [hf] at h; cases h
      | some i =>
        rw [hf] at h
        simp only [Option.map_some, Option.some.injEq] at h
        subst h
        rw [List.modify_succ_cons, List.find?_cons, List.find?_cons]
        have ih := find_modify p v l i hf q
        cases hq : keyIs q e with
        | true =>
          have : q ≠ p := by intro e1; subst e1; rw [hp] at hq; cases hq
          simp [this]
        | false => simpa using ih

theorem intKeys_modify (p : Int) (v : Value) : ∀ (l : List MapEntry) (j : Nat), IntKeys l → IntKeys (l.modify j fun e => { e with key := .int .i64 p, val := v })
  | [], j, h => by cases j <;> simp [IntKeys]
  | e :: l, 0, h => by
    rw [List.modify_zero_cons]
    intro x hx
    rcases List.mem_cons.1 hx with rfl | hx
    · exact ⟨p, rfl⟩
    · exact h x (List.mem_cons_of_mem _ hx)
  | e :: l, j + 1, h => by
    rw [List.modify_succ_cons]
    intro x hx
    rcases List.mem_cons.1 hx with rfl | hx
    · exact h _ (List.mem_cons_self ..)
    · exact intKeys_modify p v l j (fun y hy => h y (List.mem_cons_of_mem _ hy)) x hx

theorem run_mapUpdate_int {w : World} {b : Nat} {F : Int → Option Value} (h : OMapIs w b F) (ht : P.underlying t = some (.map K E)) (hK : P.underlying K = some (.int .i64)) (p : Int) (v : Value) :
    ∃ w', (Instr.mapUpdate t (.map (some b)) (.int .i64 p) v).run P w = .ok () w' ∧ OMapIs w' b (fun q => if q = p then some v else F q) ∧ w.grownBy w' (some b) := by
  obtain ⟨es, clock, hb, hk, hF⟩ := h
  have hblt : b < w.heap.size := (Array.getElem?_eq_some_iff.1 hb).1
  have hfind := findNow_int p es.toList 0 hk
  have hget : (getObj b).run P w = .ok (.map es clock) w := by simp [getObj, Sem.run, hb]
  have hset : ∀ o, (setObj b o).run P w = .ok () { w with heap := w.heap.setIfInBounds b o } := by intro o; simp [setObj, Sem.run, hb]
  have hck : (Instr.checkKey false 10000 K (.int .i64 p)).run P w = .ok () w := by
    rw [show (10000 : Nat) = 9999 + 1 from rfl]
    unfold Instr.checkKey
    simp [Sem.run_bind, run_underlying hK]
  have hfk : (Instr.findKey K (.int .i64 p) es.toList).run P w = .ok ((es.toList.findIdx? (keyIs p)).bind fun j => (es.toList[j]?).map fun e => (0 + j, e.val)) w := by
    unfold Instr.findKey
    simp only [Sem.run_bind, run_underlying hK, Result.andThen_ok, hfind, Sem.run_pure]
  have hgrown : ∀ o, w.grownBy { w with heap := w.heap.setIfInBounds b o } (some b) := fun o => ⟨rfl, rfl, rfl, by simp, fun i _ hi => by
    have hne : b ≠ i := fun e => hi (by rw [e])
    simp [Array.getElem?_setIfInBounds_ne hne]⟩
  have hnew : ∀ o, ({ w with heap := w.heap.setIfInBounds b o } : World).heap[b]? = some o := fun o => by simp [hblt]
  unfold Instr.mapUpdate
  simp only [Sem.run_bind, run_underlying ht, Result.andThen_ok, hget, hck, hfk]
  cases hi : es.toList.findIdx? (keyIs p) with
  | none =>
    simp only [Option.bind_none, hset]
    refine ⟨_, rfl, ⟨_, _, hnew _, ?_, ?_⟩, hgrown _⟩
    · intro e he
      simp only [Array.toList_push, List.mem_append, List.mem_singleton] at he
      rcases he with he | rfl
      · exact hk e he
      · exact ⟨p, rfl⟩
    · intro q
      simp only [Array.toList_push, List.find?_append]
      have hnone : es.toList.find? (keyIs p) = none := by rw [find_of_findIdx, hi]; rfl
      by_cases hq : q = p
      · subst hq
        simp [hnone, keyIs]
      · rw [if_neg hq, hF q]
        have : keyIs q { key := .int .i64 p, val := v, born := clock } = false := by simp [keyIs, hq]
        cases hfq : es.toList.find? (keyIs q) <;> simp [List.find?_cons, this]
  | some j =>
    obtain ⟨hj, hpj, _⟩ := List.findIdx?_eq_some_iff_getElem.1 hi
    have hkey := keyIs_key hpj
    have hel : es.toList[j]? = some es.toList[j] := List.getElem?_eq_getElem hj
    simp only [Option.bind_some, hel, Option.map_some, Nat.zero_add]
    have hstay : (Instr.keyThatStays (((es[j]?).map (·.key)).getD (.int .i64 p)) (.int .i64 p)).run P w = .ok (.int .i64 p) w := by
      have : es[j]? = some es.toList[j] := by rw [← Array.getElem?_toList]; exact hel
      rw [this]
      simp only [Option.map_some, Option.getD_some, hkey]
      unfold Instr.keyThatStays
      rw [show (10000 : Nat) = 9999 + 1 from rfl]
      simp [Instr.sameBits]
    simp only [Sem.run_bind, hstay, Result.andThen_ok, hset]
    refine ⟨_, rfl, ⟨_, _, hnew _, ?_, ?_⟩, hgrown _⟩
    · rw [Array.toList_modify]
      exact intKeys_modify p v _ j hk
    · intro q
      show (if q = p then some v else F q) = _
      rw [Array.toList_modify]
      have := find_modify p v es.toList j hi q
      rw [this, hF q]
end
end Go.Proofs.Ytcoelhpmkhimpaa
