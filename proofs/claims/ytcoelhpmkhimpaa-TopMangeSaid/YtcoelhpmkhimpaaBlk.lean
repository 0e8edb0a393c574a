/- Rows of cells in a block of their own, which may be written. -/
import Derived.Test.YtcoelhpmkhimpaaOwn
import Derived.Test.YtcoelhpmkhimpaaRngB
namespace Go.Proofs.Ytcoelhpmkhimpaa
open Go.RowKit
set_option linter.unusedVariables false
set_option linter.unusedSimpArgs false

def RowBlock (w : World) (b : Nat) (t : TypeId) (sz : Nat) (rows : List (List Value)) : Prop :=
  (∀ r ∈ rows, r.length = sz) ∧ ∃ cs : Array Value, w.heap[b]? = some (.cells cs t (0, 0)) ∧ ∀ (k : Nat) (r : List Value) (j : Nat) (v : Value), rows[k]? = some r → r[j]? = some v → cs[k * sz + j]? = some v
section
variable {w w' : World} {b : Nat} {t : TypeId} {sz : Nat} {rows : List (List Value)}
theorem RowBlock.same (h : RowBlock w b t sz rows) (e : w'.heap[b]? = w.heap[b]?) : RowBlock w' b t sz rows :=
  ⟨h.1, let ⟨cs, h1, h2⟩ := h.2; ⟨cs, e.trans h1, h2⟩⟩
theorem RowBlock.lt (h : RowBlock w b t sz rows) : b < w.heap.size := let ⟨_, h1, _⟩ := h.2; heap_lt h1
theorem RowBlock.ext (h : RowBlock w b t sz rows) (e : Ext w w') : RowBlock w' b t sz rows := h.same (e.block b h.lt)
theorem RowBlock.cell (h : RowBlock w b t sz rows) {k j : Nat} {r : List Value} {v : Value} (hr : rows[k]? = some r) (hv : r[j]? = some v) : w.cell? ⟨b, k * sz + j, none⟩ = some v := by
  obtain ⟨_, cs, h1, h2⟩ := h
  rw [cell_of_row w b (k * sz + j) cs t (0, 0) h1]
  exact h2 k r j v hr hv
theorem RowBlock.free (h : RowBlock w b t sz rows) (j : Nat) : w.frozen? ⟨b, j, none⟩ = false := by
  obtain ⟨_, cs, h1, h2⟩ := h
  exact frozen_of_row w b j cs t h1
theorem RowBlock.slAt (h : RowBlock w b t sz rows) : SlAt w sz (some ⟨b, 0, none⟩) rows.length (fun k => rows.getD k []) := fun hn =>
  ⟨b, 0, rfl, fun k hk j v hv => by
    rw [Nat.zero_add]
    refine h.cell (r := rows.getD k []) ?_ hv
    simp [List.getD, List.getElem?_eq_getElem hk]⟩
theorem RowBlock.set (h : RowBlock w b t sz rows) {k j : Nat} {r : List Value} (hr : rows[k]? = some r) (hj : j < sz) (v : Value) : RowBlock (w.setCell ⟨b, k * sz + j, none⟩ v) b t sz (rows.set k (r.set j v)) := by
  obtain ⟨h0, cs, h1, h2⟩ := h
  refine ⟨fun x hx => ?_, cs.setIfInBounds (k * sz + j) v, ?_, fun k' r' j' v' hr' hv' => ?_⟩
  · rcases List.mem_or_eq_of_mem_set hx with hx | hx
    · exact h0 x hx
    · rw [hx, List.length_set]
      exact h0 r (List.mem_of_getElem? hr)
  · rw [heap_setCell_box, h1]
    rfl
  · have hrl := h0 r (List.mem_of_getElem? hr)
    obtain ⟨u, hu⟩ : ∃ u, r[j]? = some u := ⟨_, List.getElem?_eq_getElem (by omega)⟩
    have hin := (Array.getElem?_eq_some_iff.1 (h2 k r j u hr hu)).1
    have hkl := (List.getElem?_eq_some_iff.1 hr).1
    rw [Array.getElem?_setIfInBounds]
    by_cases hkk : k = k'
    · subst hkk
      rw [List.getElem?_set_self hkl] at hr'
      cases hr'
      by_cases hjj : j = j'
      · subst hjj
        rw [List.getElem?_set_self (by omega)] at hv'
        cases hv'
        simp [hin]
      · rw [List.getElem?_set_ne hjj] at hv'
        rw [if_neg (by omega)]
        exact h2 k r j' v' hr hv'
    · rw [List.getElem?_set_ne hkk] at hr'
      have hj' : j' < sz := by
        have := h0 r' (List.mem_of_getElem? hr')
        have := (List.getElem?_eq_some_iff.1 hv').1
        omega
      rw [if_neg ?_]
      · exact h2 k' r' j' v' hr' hv'
      · intro e
        rcases Nat.lt_or_ge k k' with hh | hh
        · have := Nat.mul_le_mul_right sz (show k + 1 ≤ k' by omega)
          rw [Nat.add_mul] at this
          omega
        · have := Nat.mul_le_mul_right sz (show k' + 1 ≤ k by omega)
          rw [Nat.add_mul] at this
          omega
end
theorem Owns.block {w : World} {base : Nat} {e : TypeId} {sz : Nat} {v : Value} {rows : List (List Value)} (h : Owns w base e sz v rows) (hn : 0 < rows.length) :
    ∃ b c, v = .slice (some ⟨b, 0, none⟩) rows.length c ∧ rows.length ≤ c ∧ c ≤ maxLen ∧ base ≤ b ∧ RowBlock w b e sz rows := by
  obtain ⟨ho, hr⟩ := h
  rcases ho.2 with ⟨rfl, h0⟩ | ⟨g, cap, cur, rfl, hg, hh, hn', hcap, _, hc⟩
  · omega
  · refine ⟨g, cap, rfl, hn', hcap, hg, hr, cur, hh, fun k r j u hk hu => ?_⟩
    have hjs : j < sz := by
      have := hr r (List.mem_of_getElem? hk)
      have := (List.getElem?_eq_some_iff.1 hu).1
      omega
    have e := flatten_get hr k j r hk hjs
    have hkl := (List.getElem?_eq_some_iff.1 hk).1
    have hm := Nat.mul_le_mul_right sz (show k + 1 ≤ rows.length by omega)
    rw [Nat.add_mul] at hm
    rw [← hc, List.getElem?_take_of_lt (by omega), hu] at e
    rw [← Array.getElem?_toList]
    exact e
end Go.Proofs.Ytcoelhpmkhimpaa
