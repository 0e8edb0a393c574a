/- How many days an animal lasts, out of what the iterator yields; plain. And what a function with a range over a function leaves with. -/
import Derived.Test.YtcoelhpmkhimpaaGreatDoorDaysIt
namespace Go.Proofs.YtcoelhpmkhimpaaGreatDoor
open Go.RowKit
set_option linter.unusedVariables false
/-- so many days for sure, of steps on which it did not die -/
def sureOf : List DayStep → Nat
  | [] => 0
  | x :: l => if x.f = 0 then sureOf l + 1 else 0
def allSure (l : List DayStep) : Bool := l.all fun x => x.f == 0
theorem sure_snoc (l : List DayStep) (x : DayStep) : sureOf (l ++ [x]) = if (allSure l && x.f == 0) = true then sureOf l + 1 else sureOf l := by
  induction l with
  | nil => simp [sureOf, allSure]
  | cons y l ih =>
    have e : allSure (y :: l) = (y.f == 0 && allSure l) := rfl
    rw [e]
    simp only [List.cons_append, sureOf]
    by_cases hy : y.f = 0
    · rw [if_pos hy, ih, if_pos hy]
      have : (y.f == 0) = true := by simpa using hy
      rw [this, Bool.true_and]
      split <;> rfl
    · rw [if_neg hy, if_neg hy]
      have : (y.f == 0) = false := by simpa using hy
      rw [this, Bool.false_and, Bool.false_and, if_neg (by simp)]
theorem allSure_snoc (l : List DayStep) (x : DayStep) : allSure (l ++ [x]) = (allSure l && x.f == 0) := by simp [allSure]
theorem sure_le (l : List DayStep) : sureOf l ≤ l.length := by
  induction l with
  | nil => exact Nat.le_refl _
  | cons x l ih =>
    simp only [sureOf, List.length_cons]
    split <;> omega
theorem stepOf_f (s : Breed) (c : Camel) (m : March) (h : diesB s c m = false) : (stepOf s c m).f = if safeB s c m then 0 else 1 := by
  unfold stepOf
  rw [h]
  rfl
theorem seq_lasts {s : Breed} {m : March} : ∀ (k : Nat) (c : Camel) (xs : List DayStep), xs = seqOf s c (List.replicate k m) → (∀ x ∈ xs, x.f ≠ 2) → lastsOf s m c k = (sureOf xs, xs.length)
  | 0, c, xs, h, _ => by subst h; rfl
  | k + 1, c, xs, h, h2 => by
    rw [List.replicate_succ] at h
    unfold seqOf at h
    unfold lastsOf
    cases hd : diesB s c m with
    | true =>
      rw [hd, if_pos rfl] at h
      subst h
      exact absurd rfl (h2 _ (List.mem_singleton_self _))
    | false =>
      rw [hd, if_neg (by simp)] at h
      subst h
      have ih := seq_lasts k (nextOf s c m) _ rfl (fun x hx => h2 x (List.mem_cons_of_mem _ hx))
      rw [if_neg (by simp), ih]
      simp only [sureOf, List.length_cons, stepOf_f s c m hd]
      cases safeB s c m <;> simp
theorem seq_lasts_stop {s : Breed} {m : March} : ∀ (k : Nat) (c : Camel) (xs : List DayStep) (x : DayStep), xs ++ [x] <+: seqOf s c (List.replicate k m) → x.f = 2 → (∀ x ∈ xs, x.f ≠ 2) → lastsOf s m c k = (sureOf xs, xs.length)
  | 0, c, xs, x, h, _, _ => by
    have := h.length_le
    simp [seqOf] at this
  | k + 1, c, xs, x, h, hx, h2 => by
    rw [List.replicate_succ] at h
    unfold seqOf at h
    unfold lastsOf
    cases hd : diesB s c m with
    | true =>
      rw [hd, if_pos rfl] at h
      have hl := h.length_le
      have : xs = [] := by
        cases xs with
        | nil => rfl
        | cons y xs => simp at hl
      subst this
      rfl
    | false =>
      rw [hd, if_neg (by simp)] at h
      rw [if_neg (by simp)]
      cases xs with
      | nil =>
        obtain ⟨t, ht⟩ := h
        simp only [List.nil_append, List.cons_append, List.cons.injEq] at ht
        have := stepOf_f s c m hd
        rw [← ht.1, hx] at this
        split at this <;> cases this
      | cons y ys =>
        obtain ⟨t, ht⟩ := h
        simp only [List.cons_append, List.cons.injEq] at ht
        have ih := seq_lasts_stop k (nextOf s c m) ys x ⟨t, ht.2⟩ hx (fun z hz => h2 z (List.mem_cons_of_mem _ hz))
        rw [ih, ht.1]
        simp only [sureOf, List.length_cons, stepOf_f s c m hd]
        cases safeB s c m <;> simp
theorem seq_len (s : Breed) : ∀ (l : List March) (c : Camel), (seqOf s c l).length ≤ l.length
  | [], _ => Nat.le_refl _
  | m :: l, c => by
    unfold seqOf
    split
    · simp
    · simp only [List.length_cons]
      have := seq_len s l (nextOf s c m)
      omega
theorem marks_ret0 {F : Fence} {n : Nat} {P : Program} {fn : Func} {R : Ending → World → Prop} {tmps : Array Value} {w : World} {v : Value} (h : (results fn tmps).run P w = .ok v w) (hR : R (.returned v) w) : bodyPostM F n P fn R .ret { tmps := tmps, defers := [] } w := ⟨v, h, hR⟩
/-- one mark, whose block is a new one -/
theorem marks_ret1 {F : Fence} {n : Nat} {P : Program} {fn : Func} {R : Ending → World → Prop} {tmps : Array Value} {w : World} {v : Value} {D : Nat} (hD : w.heap[D]? = some (.deferred (some []))) (h : (results fn tmps).run P (w.putObj D (.deferred none)) = .ok v (w.putObj D (.deferred none))) (hR : R (.returned v) (w.putObj D (.deferred none))) :
    bodyPostM F n P fn R .ret { tmps := tmps, defers := [{ target := .collected D, args := #[] }] } w := ⟨by simp, .inl ⟨_, _, rfl, run_takeDeferred hD, v, h, hR⟩⟩
theorem ext_taken {w W : World} {D : Nat} (h : Ext w W) (hD : w.heap.size ≤ D) : Ext w (W.putObj D (.deferred none)) := by
  refine ⟨h.os, h.tape, h.output, by rw [World.putObj_size]; exact h.size, fun k hk => ?_⟩
  exact (World.putObj_heap_other (by omega)).trans (h.block k hk)
theorem taken_heap {W : World} {D b : Nat} {cs : Array Value} {t : TypeId} {f : Nat × Nat} (h : W.heap[b]? = some (.cells cs t f)) (hK : W.heap[D]? = some (.deferred (some []))) : (W.putObj D (.deferred none)).heap[b]? = some (.cells cs t f) := by
  refine (World.putObj_heap_other (fun e => ?_)).trans h
  subst e
  rw [hK] at h
  cases h
end Go.Proofs.YtcoelhpmkhimpaaGreatDoor
