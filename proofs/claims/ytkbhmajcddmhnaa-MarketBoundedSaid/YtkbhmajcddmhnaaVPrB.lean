/- Prices as a proof, decided. -/
import Derived.Test.YtkbhmajcddmhnaaVBound
import Derived.Test.YtkbhmajcddmhnaaVRefBound
namespace Go.Proofs.Ytkbhmajcddmhnaa
open Go.RowKit
set_option linter.unusedVariables false

def offB (f : Fair) (ps : List (List Int)) (i : Nat) (o : Offer) : Bool := !openB o f || decide (o.hi * pr ps i o.get ≤ o.units * pr ps i o.give)
def fairB (l : List Offer) (n : Nat) (ps : List (List Int)) (i : Nat) (f : Fair) : Bool :=
  (l.all fun o => offB f ps i o) && (!decide (i + 1 < n) || (List.range 5).all fun g => decide (pr ps (i + 1) (g : Nat) * (f.keeps.getD g ⟨0, 0⟩).hi ≤ 1000 * pr ps i (g : Nat)))
def pricedB (l : List Offer) (fs : List Fair) (ps : List (List Int)) : Bool :=
  decide (ps.length = fs.length) && ps.all rowOk && (List.range fs.length).all fun i => fairB l fs.length ps i (fs.getD i ⟨0, 0, []⟩)
theorem offB_iff {f : Fair} {ps : List (List Int)} {i : Nat} {o : Offer} : offB f ps i o = true ↔ OffOk f ps i o := by
  unfold offB OffOk
  cases openB o f <;> simp
theorem fairB_iff {l : List Offer} {n : Nat} {ps : List (List Int)} {i : Nat} {f : Fair} : fairB l n ps i f = true ↔ FairOk l n ps i f := by
  unfold fairB FairOk
  rw [Bool.and_eq_true, List.all_eq_true, Bool.or_eq_true]
  refine and_congr ⟨fun h k o hk => offB_iff.1 (h o (List.mem_of_getElem? hk)), fun h o ho => ?_⟩ ⟨fun h hi g hg => ?_, fun h => ?_⟩
  · obtain ⟨k, hk⟩ := List.mem_iff_getElem?.1 ho
    exact offB_iff.2 (h k o hk)
  · rcases h with h | h
    · simp at h; omega
    · have h2 := List.all_eq_true.1 h g (List.mem_range.2 hg)
      unfold RoadOk
      exact of_decide_eq_true h2
  · by_cases hi : i + 1 < n
    · exact .inr (List.all_eq_true.2 fun g hg => by have h2 := h hi g (List.mem_range.1 hg); unfold RoadOk at h2; exact decide_eq_true h2)
    · exact .inl (by simp; omega)
theorem pricedB_iff {l : List Offer} {fs : List Fair} {ps : List (List Int)} : pricedB l fs ps = true ↔ Priced l fs ps := by
  unfold pricedB Priced
  rw [Bool.and_eq_true, Bool.and_eq_true, decide_eq_true_eq, List.all_eq_true, List.all_eq_true, and_assoc]
  refine and_congr Iff.rfl (and_congr ⟨fun h i r hr => h r (List.mem_of_getElem? hr), fun h r hr => ?_⟩ ⟨fun h i f hf => ?_, fun h i hi => ?_⟩)
  · obtain ⟨k, hk⟩ := List.mem_iff_getElem?.1 hr
    exact h k r hk
  · have := h i (List.mem_range.2 (List.getElem?_eq_some_iff.1 hf).1)
    simp only [List.getD, hf, Option.getD_some] at this
    exact fairB_iff.1 this
  · have hi' := List.mem_range.1 hi
    simp only [List.getD, List.getElem?_eq_getElem hi', Option.getD_some]
    exact fairB_iff.2 (h i _ (List.getElem?_eq_getElem hi'))
/-- the bound, to be reckoned -/
def boundC (l : List Offer) (fs : List Fair) (xs : List Int) (want : Int) (ps : List (List Int)) : Int × Int :=
  if checkOf l fs ≠ 0 then (0, checkOf l fs) else
  if (stocksOk xs && inB want 0 4) = false then (0, 2) else
  if (pricedB l fs ps && decide (0 < pr ps (fs.length - 1) want)) = false then (0, 64) else
  (worthTo xs ps 5 / pr ps (fs.length - 1) want, 0)
theorem boundOf_eq (l : List Offer) (fs : List Fair) (xs : List Int) (want : Int) (ps : List (List Int)) : boundOf l fs xs want ps = boundC l fs xs want ps := by
  have e : PB (Priced l fs ps ∧ 0 < pr ps (fs.length - 1) want) = (pricedB l fs ps && decide (0 < pr ps (fs.length - 1) want)) := by
    rw [PB_and]
    congr 1
    · cases h : pricedB l fs ps with
      | true => exact PB_true (pricedB_iff.1 h)
      | false => exact PB_false fun h' => by rw [pricedB_iff.2 h'] at h; cases h
    · by_cases h : 0 < pr ps (fs.length - 1) want
      · rw [PB_true h, decide_eq_true h]
      · rw [PB_false h, decide_eq_false h]
  unfold boundOf boundC
  rw [e]
end Go.Proofs.Ytkbhmajcddmhnaa
