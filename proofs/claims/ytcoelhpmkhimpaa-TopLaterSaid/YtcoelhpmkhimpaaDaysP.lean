/- The days of an animal out of what the iterator yields; plain. -/
import Derived.Test.YtcoelhpmkhimpaaLastsP
namespace Go.Proofs.Ytcoelhpmkhimpaa
open Go.RowKit
set_option linter.unusedVariables false
def fateOf : List DayStep → Int
  | [] => 0
  | x :: l => max x.f (fateOf l)
theorem fateOf_nonneg : ∀ (l : List DayStep), 0 ≤ fateOf l
  | [] => Int.le_refl _
  | x :: l => by
    have := fateOf_nonneg l
    unfold fateOf
    omega
theorem fateOf_snoc : ∀ (l : List DayStep) (x : DayStep), 0 ≤ x.f → fateOf (l ++ [x]) = max (fateOf l) x.f
  | [], x, h => by simp only [List.nil_append, fateOf]; omega
  | y :: l, x, h => by
    have := fateOf_snoc l x h
    simp only [List.cons_append, fateOf, this]
    omega
theorem fateOf_le : ∀ (l : List DayStep), (∀ x ∈ l, x.f = 0 ∨ x.f = 1) → fateOf l ≤ 1
  | [], _ => by unfold fateOf; omega
  | x :: l, h => by
    have h1 := fateOf_le l (fun y hy => h y (List.mem_cons_of_mem _ hy))
    have h2 := h x (List.mem_cons_self ..)
    unfold fateOf
    omega
theorem days_seq {s : Breed} : ∀ {l : List March} {c : Camel} {r : List Camel × Int}, daysOf s c l = some r → (seqOf s c l).map (·.c) = r.1 ∧ fateOf (seqOf s c l) = r.2 ∧ ∀ x ∈ seqOf s c l, x.f = 0 ∨ x.f = 1
  | [], c, r, h => by
    cases h
    exact ⟨rfl, rfl, fun x hx => by cases hx⟩
  | m :: l, c, r, h => by
    unfold daysOf at h
    unfold seqOf
    cases hd : diesB s c m with
    | true => rw [hd, if_pos rfl] at h; cases h
    | false =>
      rw [hd, if_neg (by simp)] at h
      rw [if_neg (by simp)]
      cases hr : daysOf s (nextOf s c m) l with
      | none => rw [hr] at h; cases h
      | some r' =>
        rw [hr] at h
        cases h
        obtain ⟨h1, h2, h3⟩ := days_seq hr
        have hf := stepOf_f s c m hd
        have hc : (stepOf s c m).c = nextOf s c m := by unfold stepOf; rw [hd]; rfl
        refine ⟨by simp [h1, hc], by simp only [fateOf, h2, hf], fun x hx => ?_⟩
        rcases List.mem_cons.1 hx with rfl | hx
        · rw [hf]
          split
          · exact .inl rfl
          · exact .inr rfl
        · exact h3 x hx
theorem days_len {s : Breed} : ∀ {l : List March} {c : Camel} {r : List Camel × Int}, daysOf s c l = some r → r.1.length = l.length
  | [], c, r, h => by cases h; rfl
  | m :: l, c, r, h => by
    unfold daysOf at h
    split at h
    · cases h
    · cases hr : daysOf s (nextOf s c m) l with
      | none => rw [hr] at h; cases h
      | some r' =>
        rw [hr] at h
        cases h
        simp [days_len hr]
def fateL (l : List DayStep) : Int := l.foldl (fun a x => max a x.f) 0
theorem fateL_snoc (l : List DayStep) (x : DayStep) : fateL (l ++ [x]) = max (fateL l) x.f := by simp [fateL]
theorem foldl_max (l : List DayStep) : ∀ a, 0 ≤ a → l.foldl (fun a x => max a x.f) a = max a (fateOf l) := by
  induction l with
  | nil => intro a h; simp only [List.foldl_nil, fateOf]; omega
  | cons x l ih =>
    intro a h
    rw [List.foldl_cons, ih _ (by omega)]
    have := fateOf_nonneg l
    show max (max a x.f) (fateOf l) = max a (max x.f (fateOf l))
    omega
theorem fateL_eq (l : List DayStep) : fateL l = fateOf l := by
  unfold fateL
  rw [foldl_max l 0 (by omega)]
  have := fateOf_nonneg l
  omega
def camelRows (l : List Camel) : List (List Value) := l.map Camel.cells
theorem camelRows_row (l : List Camel) : ∀ r ∈ camelRows l, r.length = 7 ∧ ∀ u ∈ r, u.oneCell' = true := by
  intro r hr
  obtain ⟨s, _, rfl⟩ := List.mem_map.1 hr
  refine ⟨rfl, fun u hu => ?_⟩
  simp only [Camel.cells, List.mem_cons, List.not_mem_nil, or_false] at hu
  rcases hu with rfl | rfl | rfl | rfl | rfl | rfl | rfl <;> rfl
theorem camelRows_append (l m : List Camel) : camelRows (l ++ m) = camelRows l ++ camelRows m := by simp [camelRows]
theorem camels_of_owns {w : World} {B : Nat} {e : TypeId} {v : Value} {l : List Camel} (h : Owns w B e 7 v (camelRows l)) : ∃ a c, v = .slice a l.length c ∧ From B a ∧ l.length ≤ c ∧ c ≤ maxLen ∧ CamelsAt w a l.length l := by
  obtain ⟨a, c, hv, h0, h1, h2, h3⟩ := h.slAt
  have e : (camelRows l).length = l.length := by simp [camelRows]
  rw [e] at hv h1 h3
  refine ⟨a, c, hv, h0, h1, h2, rfl, h3.congr fun i hi => ?_⟩
  simp [camelRows, List.getD, List.getElem?_map, List.getElem?_eq_getElem hi]
theorem info27 : (Try.prog.info? 27).map (fun i => (i.zero, i.size, i.bytes)) = some (some (.agg #[.int .i64 0, .int .i64 0, .int .i64 0, .int .i64 0, .int .i64 0, .int .i64 0, .bool false]), 7, 56) := by kernel_rfl
theorem elem49 : Elem Try.prog 49 27 7 := by
  obtain ⟨i, h1, h2, h3, h4⟩ := info_parts info27
  exact ⟨Try.underlying49, ⟨i, _, _, h1, h2, h3, h4, rfl, by decide⟩, by decide⟩
def dayRows (l : List March) : List (List Value) := l.map March.cells
theorem dayRows_row (l : List March) : ∀ r ∈ dayRows l, r.length = 8 ∧ ∀ u ∈ r, u.oneCell' = true := by
  intro r hr
  obtain ⟨s, _, rfl⟩ := List.mem_map.1 hr
  refine ⟨rfl, fun u hu => ?_⟩
  simp only [March.cells, List.mem_cons, List.not_mem_nil, or_false] at hu
  rcases hu with rfl | rfl | rfl | rfl | rfl | rfl | rfl | rfl <;> rfl
theorem dayRows_append (l m : List March) : dayRows (l ++ m) = dayRows l ++ dayRows m := by simp [dayRows]
theorem days_of_owns {w : World} {B : Nat} {e : TypeId} {v : Value} {l : List March} (h : Owns w B e 8 v (dayRows l)) : ∃ a c, v = .slice a l.length c ∧ From B a ∧ l.length ≤ c ∧ c ≤ maxLen ∧ DaysAt w a l.length l := by
  obtain ⟨a, c, hv, h0, h1, h2, h3⟩ := h.slAt
  have e : (dayRows l).length = l.length := by simp [dayRows]
  rw [e] at hv h1 h3
  refine ⟨a, c, hv, h0, h1, h2, rfl, h3.congr fun i hi => ?_⟩
  simp [dayRows, List.getD, List.getElem?_map, List.getElem?_eq_getElem hi]
end Go.Proofs.Ytcoelhpmkhimpaa
