/- Contract of layer 3: the other end of a leg. -/
import Derived.Test.YtcoelhpmkhimpaaGreatDoorLeadsIt
import Derived.Test.YtcoelhpmkhimpaaGreatDoorLastsP
namespace Go.Proofs.YtcoelhpmkhimpaaGreatDoor
open Go.RowKit
set_option linter.unusedVariables false
set_option linter.unusedSimpArgs false
attribute [local go_sem] Oper.semAt_some
theorem leads_mem {w : Int} {x : Lead} : ∀ {l : List Leg} {i : Nat}, x ∈ leadsFrom w i l → ∃ f k, x.i = i + k ∧ l[k]? = some f ∧ (if w = f.frm then x.o = f.to else w = f.to ∧ x.o = f.frm)
  | [], i, h => by cases h
  | f :: l, i, h => by
    have tl : x ∈ leadsFrom w (i + 1) l → ∃ g k, x.i = i + k ∧ (f :: l)[k]? = some g ∧ (if w = g.frm then x.o = g.to else w = g.to ∧ x.o = g.frm) := fun h => by
      obtain ⟨g, k, h1, h2, h3⟩ := leads_mem h
      exact ⟨g, k + 1, by omega, by simpa using h2, h3⟩
    unfold leadsFrom at h
    by_cases h1 : w = f.frm
    · rw [if_pos h1] at h
      rcases List.mem_cons.1 h with rfl | h
      · exact ⟨f, 0, rfl, rfl, by rw [if_pos h1]⟩
      · exact tl h
    · rw [if_neg h1] at h
      by_cases h2 : w = f.to
      · rw [if_pos h2] at h
        rcases List.mem_cons.1 h with rfl | h
        · exact ⟨f, 0, rfl, rfl, by rw [if_neg h1]; exact ⟨h2, rfl⟩⟩
        · exact tl h
      · rw [if_neg h2] at h
        exact tl h
theorem leads_has {w : Int} {f : Leg} : ∀ {l : List Leg} {i k : Nat}, l[k]? = some f → (w = f.frm ∨ w = f.to) → ∃ x ∈ leadsFrom w i l, x.i = i + k
  | [], i, k, h, _ => by simp at h
  | g :: l, i, 0, h, hw => by
    simp only [List.getElem?_cons_zero, Option.some.injEq] at h
    subst h
    unfold leadsFrom
    by_cases h1 : w = g.frm
    · rw [if_pos h1]
      exact ⟨_, List.mem_cons_self .., rfl⟩
    · rw [if_neg h1, if_pos (hw.resolve_left h1)]
      exact ⟨_, List.mem_cons_self .., rfl⟩
  | g :: l, i, k + 1, h, hw => by
    obtain ⟨x, hx, hi⟩ := leads_has (i := i + 1) (show l[k]? = some f by simpa using h) hw
    refine ⟨x, ?_, by omega⟩
    unfold leadsFrom
    split
    · exact List.mem_cons_of_mem _ hx
    · split
      · exact List.mem_cons_of_mem _ hx
      · exact hx
theorem end_found {l : Land} {w g : Int} {x : Lead} (h : x ∈ leadsFrom w 0 l.legs) (hg : (x.i : Int) = g) : endOf l g w = x.o := by
  obtain ⟨f, k, h1, h2, h3⟩ := leads_mem h
  have hk := (List.getElem?_eq_some_iff.1 h2).1
  have e : l.legs.getD g.toNat zleg = f := by
    rw [List.getD_eq_getElem?_getD, show g.toNat = k by omega, h2]
    rfl
  unfold endOf
  rw [if_pos (by omega), e]
  by_cases q : w = f.frm
  · rw [if_pos q] at h3 ⊢
    exact h3.symm
  · rw [if_neg q] at h3 ⊢
    rw [if_pos h3.1]
    exact h3.2.symm
theorem end_none {l : Land} {w g : Int} (h : ∀ x ∈ leadsFrom w 0 l.legs, (x.i : Int) ≠ g) : endOf l g w = -1 := by
  unfold endOf
  by_cases hg : 0 ≤ g ∧ g < l.legs.length
  · rw [if_pos hg]
    have e : l.legs[g.toNat]? = some (l.legs.getD g.toNat zleg) := by
      rw [List.getD_eq_getElem?_getD, List.getElem?_eq_getElem (show g.toNat < l.legs.length by omega)]
      rfl
    have no : ¬(w = (l.legs.getD g.toNat zleg).frm ∨ w = (l.legs.getD g.toNat zleg).to) := fun hw => by
      obtain ⟨x, hx, hi⟩ := leads_has (i := 0) e hw
      exact h x hx (by omega)
    rw [if_neg (fun q => no (.inl q)), if_neg (fun q => no (.inr q))]
  · rw [if_neg hg]
structure EndI (w : World) (g : Int) (pre : List Lead) (V : World) : Prop where
  ext : Ext w V
  lg : V.heap[w.heap.size + 1]? = some (.cells #[.int .i64 g] 3 (0, 0))
  r : V.heap[w.heap.size + 1 + 1]? = some (.cells #[.int .i64 0] 3 (0, 0))
  ne : ∀ x ∈ pre, (x.i : Int) ≠ g
def EndX (w : World) (g : Int) (c : Code) (pre : List Lead) (V : World) : Prop := ∃ p x, pre = p ++ [x] ∧ (x.i : Int) = g ∧ c = .ret ∧ Ext w V ∧ V.heap[w.heap.size + 1 + 1]? = some (.cells #[.int .i64 x.o] 3 (0, 0))
theorem EndI.f {w : World} {g : Int} {lo : Nat} {pre : List Lead} {A B : World} (h : EndI w g pre A) (h2 : w.heap.size ≤ lo) (k : ButF (fun _ => False) lo A B) : EndI w g pre B :=
  ⟨ButF.ext h.ext k (fun b hb => hb.elim) h2, k.cells h.lg id, k.cells h.r id, h.ne⟩
theorem EndX.f {w : World} {g : Int} {lo : Nat} {c : Code} {pre : List Lead} {A B : World} (h : EndX w g c pre A) (h2 : w.heap.size ≤ lo) (k : ButF (fun _ => False) lo A B) : EndX w g c pre B := by
  obtain ⟨p, x, e1, e2, e3, h, r⟩ := h
  exact ⟨p, x, e1, e2, e3, ButF.ext h k (fun b hb => hb.elim) h2, k.cells r id⟩
theorem kpO_set' {O : Nat → Prop} (W : World) {b i : Nat} (v : Value) (hO : O b) : KpO O W (W.setCell ⟨b, i, none⟩ v) :=
  ⟨by simp [World.setCell], fun k o hk _ hn => (Below.heap_setCell _ _ _ _ (fun e => hn (by simp only at e; rw [e]; exact hO))).trans hk⟩
end Go.Proofs.YtcoelhpmkhimpaaGreatDoor
