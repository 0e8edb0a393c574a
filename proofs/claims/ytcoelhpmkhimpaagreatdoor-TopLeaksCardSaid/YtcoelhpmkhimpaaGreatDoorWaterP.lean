/- Water, plain: draw by draw; and a function's three results, of which the first lies in a box. -/
import Derived.Test.YtcoelhpmkhimpaaGreatDoorFillC
import Derived.Test.YtcoelhpmkhimpaaGreatDoorWalkP
namespace Go.Proofs.YtcoelhpmkhimpaaGreatDoor
open Go.RowKit
set_option linter.unusedVariables false
set_option linter.unusedSimpArgs false
theorem results_cell_tmp2 {P : Program} {fn : Func} {p t u : Tmp} {ty : TypeId} (h : fn.results = #[.cell p ty, .tmp t, .tmp u]) (tmps : Array Value) (w : World) (g : Nat) (T : TypeId) (cs : Array Value) (fr : Nat × Nat) (d : TypeDesc)
    (hp : tmps.getD p undef = .pointer (some ⟨g, 0, none⟩)) (hg : w.heap[g]? = some (.cells cs T fr))
    (hu : P.underlying ty = some d) (hd : (match d with | .struct _ | .array _ _ => true | _ => false) = true) (hi : (P.info? ty).map (·.size) = some cs.size) :
    (results fn tmps).run P w = .ok (.tuple #[.agg cs, tmps.getD t undef, tmps.getD u undef]) w := by
  have hp' : tmps[p]?.getD undef = .pointer (some ⟨g, 0, none⟩) := by simpa using hp
  simp [results, h, hp', asAddr, run_loadVar_row w g T ty cs fr d hg hu hd hi]
def shiftE {α : Type} (k : Nat) : Except Nat α → Except Nat α
  | .error j => .error (k + j)
  | .ok r => .ok r
theorem shiftE_zero {α : Type} (x : Except Nat α) : shiftE 0 x = x := by
  cases x
  · simp [shiftE]
  · rfl
theorem draws_step {n k : Nat} {d : Int} {l : List Draw} {x : Draw} (h : l[k]? = some x) : drawsOk n d (l.drop k) = (inB x.well 0 (n - 1) && inB x.day d 100000 && inB x.water 0 1000000000 && drawsOk n x.day (l.drop (k + 1))) := by
  rw [drop_at h]
  rfl
theorem drawn_skip {w : Well} {well day e : Int} {h : Span} {l : List Draw} {k : Nat} {x : Draw} (hx : l[k]? = some x) (hs : x.well ≠ well ∨ day ≤ x.day) : shiftE k (drawnOf w well day h e (l.drop k)) = shiftE (k + 1) (drawnOf w well day h e (l.drop (k + 1))) := by
  rw [drop_at hx]
  conv => lhs; unfold drawnOf
  rw [if_pos hs]
  cases drawnOf w well day h e (l.drop (k + 1)) with
  | error j => simp only [shiftE]; congr 1; omega
  | ok r => rfl
theorem drawn_take {w : Well} {well day e : Int} {h : Span} {l : List Draw} {k : Nat} {x : Draw} (hx : l[k]? = some x) (hs : ¬(x.well ≠ well ∨ day ≤ x.day)) :
    shiftE k (drawnOf w well day h e (l.drop k)) = if (filledOf w h (x.day - e)).hi < x.water then .error k else shiftE (k + 1) (drawnOf w well day ⟨max 0 ((filledOf w h (x.day - e)).lo - x.water), (filledOf w h (x.day - e)).hi - x.water⟩ x.day (l.drop (k + 1))) := by
  rw [drop_at hx]
  conv => lhs; unfold drawnOf
  rw [if_neg hs]
  by_cases h0 : (filledOf w h (x.day - e)).hi < x.water
  · rw [if_pos h0, if_pos h0]
    rfl
  · rw [if_neg h0, if_neg h0]
    cases drawnOf w well day ⟨max 0 ((filledOf w h (x.day - e)).lo - x.water), (filledOf w h (x.day - e)).hi - x.water⟩ x.day (l.drop (k + 1)) with
    | error j => simp only [shiftE]; congr 1; omega
    | ok r => rfl
theorem drawsOk_mem {n : Nat} : ∀ {d : Int} {l : List Draw}, drawsOk n d l = true → ∀ x ∈ l, (0 ≤ x.well ∧ x.well < n) ∧ d ≤ x.day ∧ x.day ≤ 100000 ∧ 0 ≤ x.water ∧ x.water ≤ 1000000000
  | d, [], _, x, hx => by cases hx
  | d, y :: l, h, x, hx => by
    simp only [drawsOk, Bool.and_eq_true] at h
    obtain ⟨⟨⟨h1, h2⟩, h3⟩, h4⟩ := h
    have h1 := inB_is h1
    have h2 := inB_is h2
    have h3 := inB_is h3
    rcases List.mem_cons.1 hx with rfl | hx
    · exact ⟨by omega, by omega, by omega, by omega, by omega⟩
    · have := drawsOk_mem h4 x hx
      exact ⟨this.1, by omega, this.2.2⟩
theorem draws_sorted {n : Nat} : ∀ {d : Int} {l : List Draw} {k : Nat} {x : Draw}, drawsOk n d l = true → l[k]? = some x → ∀ y ∈ l.drop (k + 1), x.day ≤ y.day
  | d, [], k, x, _, hx => by simp at hx
  | d, z :: l, 0, x, h, hx => by
    simp only [List.getElem?_cons_zero, Option.some.injEq] at hx
    subst hx
    simp only [drawsOk, Bool.and_eq_true] at h
    intro y hy
    exact (drawsOk_mem h.2 y (by simpa using hy)).2.1
  | d, z :: l, k + 1, x, h, hx => by
    simp only [drawsOk, Bool.and_eq_true] at h
    intro y hy
    exact draws_sorted h.2 (show l[k]? = some x by simpa using hx) y (by simpa using hy)
end Go.Proofs.YtcoelhpmkhimpaaGreatDoor
