/- Herds and meetings in memory. -/
import Derived.Test.YtcoelhpmkhimpaaData
import Derived.Test.YtcoelhpmkhimpaaMangeP
namespace Go.Proofs.Ytcoelhpmkhimpaa
open Go.RowKit
set_option linter.unusedVariables false
def zmark : Mark := ⟨0, 0⟩
def zmeet : Meet := ⟨0, 0, 0, false⟩
def Mark.cells (s : Mark) : List Value := [.int .i64 s.spot, .int .i64 s.sign]
def Mark.val (s : Mark) : Value := .agg #[.int .i64 s.spot, .int .i64 s.sign]
theorem Mark.val_eq (s : Mark) : s.val = .agg s.cells.toArray := rfl
def MarksAt (w : World) (a : Option Addr) (n : Nat) (l : List Mark) : Prop := l.length = n ∧ SlAt w 2 a n fun i => (l.getD i zmark).cells
theorem MarksAt.ext {w w' : World} {a : Option Addr} {n : Nat} {l : List Mark} (h : MarksAt w a n l) (e : Ext w w') : MarksAt w' a n l := ⟨h.1, h.2.ext e⟩
theorem MarksAt.same {w w' : World} {a : Option Addr} {n : Nat} {l : List Mark} (h : MarksAt w a n l) (hb : ∀ x, a = some x → w'.heap[x.block]? = w.heap[x.block]?) : MarksAt w' a n l := ⟨h.1, h.2.same hb⟩
theorem MarksAt.get {w : World} {a : Option Addr} {n : Nat} {l : List Mark} (h : MarksAt w a n l) (k : Nat) (hk : k < n) :
    ∃ b off x, a = some ⟨b, off, none⟩ ∧ l[k]? = some x ∧ b < w.heap.size ∧ w.cell? ⟨b, off + k * 2, none⟩ = some (.int .i64 x.spot) ∧ w.cell? ⟨b, off + k * 2 + 1, none⟩ = some (.int .i64 x.sign) := by
  obtain ⟨hl, h⟩ := h
  obtain ⟨b, off, ha, hc⟩ := h (by omega)
  have h0 := hc k hk 0 _ rfl
  simp only [Nat.add_zero] at h0
  exact ⟨b, off, _, ha, by simp [List.getD, hl, hk], block_lt_of_cell h0, h0, hc k hk 1 _ rfl⟩
def Meet.cells (s : Meet) : List Value := [.int .i64 s.a, .int .i64 s.b, .int .i64 s.day, .bool s.close]
def Meet.val (s : Meet) : Value := .agg #[.int .i64 s.a, .int .i64 s.b, .int .i64 s.day, .bool s.close]
theorem Meet.val_eq (s : Meet) : s.val = .agg s.cells.toArray := rfl
def MeetsAt (w : World) (a : Option Addr) (n : Nat) (l : List Meet) : Prop := l.length = n ∧ SlAt w 4 a n fun i => (l.getD i zmeet).cells
theorem MeetsAt.ext {w w' : World} {a : Option Addr} {n : Nat} {l : List Meet} (h : MeetsAt w a n l) (e : Ext w w') : MeetsAt w' a n l := ⟨h.1, h.2.ext e⟩
theorem MeetsAt.same {w w' : World} {a : Option Addr} {n : Nat} {l : List Meet} (h : MeetsAt w a n l) (hb : ∀ x, a = some x → w'.heap[x.block]? = w.heap[x.block]?) : MeetsAt w' a n l := ⟨h.1, h.2.same hb⟩
theorem MeetsAt.get {w : World} {a : Option Addr} {n : Nat} {l : List Meet} (h : MeetsAt w a n l) (k : Nat) (hk : k < n) :
    ∃ b off x, a = some ⟨b, off, none⟩ ∧ l[k]? = some x ∧ b < w.heap.size ∧ w.cell? ⟨b, off + k * 4, none⟩ = some (.int .i64 x.a) ∧ w.cell? ⟨b, off + k * 4 + 1, none⟩ = some (.int .i64 x.b) ∧ w.cell? ⟨b, off + k * 4 + 2, none⟩ = some (.int .i64 x.day) ∧ w.cell? ⟨b, off + k * 4 + 3, none⟩ = some (.bool x.close) := by
  obtain ⟨hl, h⟩ := h
  obtain ⟨b, off, ha, hc⟩ := h (by omega)
  have h0 := hc k hk 0 _ rfl
  simp only [Nat.add_zero] at h0
  exact ⟨b, off, _, ha, by simp [List.getD, hl, hk], block_lt_of_cell h0, h0, hc k hk 1 _ rfl, hc k hk 2 _ rfl, hc k hk 3 _ rfl⟩
/-- a slice of animals: each one holds a slice of marks -/
def AnimalsAt (w : World) (a : Option Addr) (n : Nat) (l : List Animal) : Prop :=
  l.length = n ∧ (0 < n → ∃ b off, a = some ⟨b, off, none⟩ ∧ ∀ k f, l[k]? = some f → ∃ ka kn kc, Cells w b (off + k * 5) [.int .i64 f.id, .int .i64 f.mother, .int .i64 f.born.lo, .int .i64 f.born.hi, .slice ka kn kc] ∧ kn ≤ kc ∧ kc ≤ maxLen ∧ MarksAt w ka kn f.marks)
theorem AnimalsAt.ext {w w' : World} {a : Option Addr} {n : Nat} {l : List Animal} (h : AnimalsAt w a n l) (e : Ext w w') : AnimalsAt w' a n l :=
  ⟨h.1, fun hn => let ⟨b, off, ha, hc⟩ := h.2 hn; ⟨b, off, ha, fun k f hf => let ⟨ka, kn, kc, h1, h2, h3, h4⟩ := hc k f hf; ⟨ka, kn, kc, h1.ext e, h2, h3, h4.ext e⟩⟩⟩
theorem AnimalsAt.get {w : World} {a : Option Addr} {n : Nat} {l : List Animal} (h : AnimalsAt w a n l) (k : Nat) (hk : k < n) :
    ∃ b off x ka kn kc, a = some ⟨b, off, none⟩ ∧ l[k]? = some x ∧ b < w.heap.size ∧ w.cell? ⟨b, off + k * 5, none⟩ = some (.int .i64 x.id) ∧ w.cell? ⟨b, off + k * 5 + 1, none⟩ = some (.int .i64 x.mother) ∧ w.cell? ⟨b, off + k * 5 + 2, none⟩ = some (.int .i64 x.born.lo) ∧ w.cell? ⟨b, off + k * 5 + 3, none⟩ = some (.int .i64 x.born.hi)
      ∧ w.cell? ⟨b, off + k * 5 + 4, none⟩ = some (.slice ka kn kc) ∧ kn ≤ kc ∧ kc ≤ maxLen ∧ MarksAt w ka kn x.marks := by
  obtain ⟨hl, h⟩ := h
  obtain ⟨b, off, ha, hc⟩ := h (by omega)
  obtain ⟨x, hx⟩ : ∃ x, l[k]? = some x := ⟨l[k], by simp⟩
  obtain ⟨ka, kn, kc, h1, h2, h3, h4⟩ := hc k x hx
  have h0 := h1 0 _ rfl
  simp only [Nat.add_zero] at h0
  exact ⟨b, off, x, ka, kn, kc, ha, hx, block_lt_of_cell h0, h0, h1 1 _ rfl, h1 2 _ rfl, h1 3 _ rfl, h1 4 _ rfl, h2, h3, h4⟩
end Go.Proofs.Ytcoelhpmkhimpaa
