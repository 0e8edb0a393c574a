/- The iterator over the legs of a well: its contract. -/
import Derived.Test.YtcoelhpmkhimpaaGreatDoorWDays
import Derived.Test.YtcoelhpmkhimpaaGreatDoorDaysIt
namespace Go.Proofs.YtcoelhpmkhimpaaGreatDoor
open Go.RowKit
set_option linter.unusedVariables false
set_option linter.unusedSimpArgs false
attribute [local go_sem] Oper.semAt_some
/-- the legs' cells; what the slices of gates hold is left open -/
def LegCells (w : World) (a : Option Addr) (n : Nat) (l : List Leg) : Prop :=
  l.length = n ∧ (0 < n → ∃ b off, a = some ⟨b, off, none⟩ ∧ ∀ k f, l[k]? = some f → ∃ ka kn kc, Cells w b (off + k * 5) [.int .i64 f.frm, .int .i64 f.to, .int .i64 f.long.lo, .int .i64 f.long.hi, .slice ka kn kc])
theorem LegsAt.cells {w : World} {a : Option Addr} {n : Nat} {l : List Leg} (h : LegsAt w a n l) : LegCells w a n l :=
  ⟨h.1, fun hn => let ⟨b, off, ha, hc⟩ := h.2 hn; ⟨b, off, ha, fun k f hf => let ⟨ka, kn, kc, h1, _⟩ := hc k f hf; ⟨ka, kn, kc, h1⟩⟩⟩
theorem LegCells.ext {w w' : World} {a : Option Addr} {n : Nat} {l : List Leg} (h : LegCells w a n l) (e : Ext w w') : LegCells w' a n l :=
  ⟨h.1, fun hn => let ⟨b, off, ha, hc⟩ := h.2 hn; ⟨b, off, ha, fun k f hf => let ⟨ka, kn, kc, h1⟩ := hc k f hf; ⟨ka, kn, kc, h1.ext e⟩⟩⟩
theorem LegCells.kpO {O : Nat → Prop} {A B : World} {a : Option Addr} {n : Nat} {l : List Leg} (h : LegCells A a n l) (k : KpO O A B) (hn : ∀ x, a = some x → ¬O x.block) : LegCells B a n l :=
  ⟨h.1, fun h0 => let ⟨b, off, ha, hc⟩ := h.2 h0; ⟨b, off, ha, fun i f hf => let ⟨ka, kn, kc, h1⟩ := hc i f hf; ⟨ka, kn, kc, fun j v hv => k.cell (h1 j v hv) (show ¬O b from hn _ ha)⟩⟩⟩
theorem LegCells.get {w : World} {a : Option Addr} {n : Nat} {l : List Leg} (h : LegCells w a n l) (k : Nat) (hk : k < n) :
    ∃ b off x ka kn kc, a = some ⟨b, off, none⟩ ∧ l[k]? = some x ∧ b < w.heap.size ∧ w.cell? ⟨b, off + k * 5, none⟩ = some (.int .i64 x.frm) ∧ w.cell? ⟨b, off + k * 5 + 1, none⟩ = some (.int .i64 x.to) ∧ w.cell? ⟨b, off + k * 5 + 2, none⟩ = some (.int .i64 x.long.lo) ∧ w.cell? ⟨b, off + k * 5 + 3, none⟩ = some (.int .i64 x.long.hi)
      ∧ w.cell? ⟨b, off + k * 5 + 4, none⟩ = some (.slice ka kn kc) := by
  obtain ⟨hl, h⟩ := h
  obtain ⟨b, off, ha, hc⟩ := h (by omega)
  obtain ⟨x, hx⟩ : ∃ x, l[k]? = some x := ⟨l[k], by simp⟩
  obtain ⟨ka, kn, kc, h1⟩ := hc k x hx
  have h0 := h1 0 _ rfl
  simp only [Nat.add_zero] at h0
  exact ⟨b, off, x, ka, kn, kc, ha, hx, block_lt_of_cell h0, h0, h1 1 _ rfl, h1 2 _ rfl, h1 3 _ rfl, h1 4 _ rfl⟩
structure Lead where
  i : Nat
  o : Int
def Lead.enc (x : Lead) : Array Value := #[.int .i64 x.i, .int .i64 x.o]
def leadsFrom (w : Int) : Nat → List Leg → List Lead
  | _, [] => []
  | i, x :: l => if w = x.frm then ⟨i, x.to⟩ :: leadsFrom w (i + 1) l else if w = x.to then ⟨i, x.frm⟩ :: leadsFrom w (i + 1) l else leadsFrom w (i + 1) l
theorem leads_drop {w : Int} {l : List Leg} {k : Nat} {x : Leg} (h : l[k]? = some x) : leadsFrom w k (l.drop k) = if w = x.frm then ⟨k, x.to⟩ :: leadsFrom w (k + 1) (l.drop (k + 1)) else if w = x.to then ⟨k, x.frm⟩ :: leadsFrom w (k + 1) (l.drop (k + 1)) else leadsFrom w (k + 1) (l.drop (k + 1)) := by
  have hk := (List.getElem?_eq_some_iff.1 h).1
  have e : l.drop k = x :: l.drop (k + 1) := by
    rw [List.drop_eq_getElem_cons hk]
    congr 1
    have := List.getElem?_eq_getElem hk
    rw [h] at this
    exact (Option.some.inj this).symm
  rw [e]
  rfl
end Go.Proofs.YtcoelhpmkhimpaaGreatDoor
