/- The data of layers 1 and 3 as cells and as values; slices of them read as lists. Printed by wip/tools/gendata.py. No function of the program is named here. -/
import Derived.Test.YtcoelhpmkhimpaaGreatDoorBase
import Derived.Test.YtcoelhpmkhimpaaGreatDoorWay
namespace Go.Proofs.YtcoelhpmkhimpaaGreatDoor
open Go.RowKit
set_option linter.unusedVariables false
def zstop : Stop := ⟨0, 0, ⟨0, 0⟩, ⟨0, 0⟩⟩
def zdraw : Draw := ⟨0, 0, 0⟩
def zcamel : Camel := ⟨⟨0, 0⟩, ⟨0, 0⟩, ⟨0, 0⟩, false⟩
def zday : March := ⟨0, 0, ⟨0, 0⟩, ⟨0, 0⟩, ⟨0, 0⟩⟩
def Gate.cells (s : Gate) : List Value := [.int .i64 s.opens.lo, .int .i64 s.opens.hi, .int .i64 s.shuts.lo, .int .i64 s.shuts.hi]
def Gate.val (s : Gate) : Value := .agg #[.int .i64 s.opens.lo, .int .i64 s.opens.hi, .int .i64 s.shuts.lo, .int .i64 s.shuts.hi]
theorem Gate.val_eq (s : Gate) : s.val = .agg s.cells.toArray := rfl
def GatesAt (w : World) (a : Option Addr) (n : Nat) (l : List Gate) : Prop := l.length = n ∧ SlAt w 4 a n fun i => (l.getD i zg).cells
theorem GatesAt.ext {w w' : World} {a : Option Addr} {n : Nat} {l : List Gate} (h : GatesAt w a n l) (e : Ext w w') : GatesAt w' a n l := ⟨h.1, h.2.ext e⟩
theorem GatesAt.same {w w' : World} {a : Option Addr} {n : Nat} {l : List Gate} (h : GatesAt w a n l) (hb : ∀ x, a = some x → w'.heap[x.block]? = w.heap[x.block]?) : GatesAt w' a n l := ⟨h.1, h.2.same hb⟩
theorem GatesAt.get {w : World} {a : Option Addr} {n : Nat} {l : List Gate} (h : GatesAt w a n l) (k : Nat) (hk : k < n) :
    ∃ b off x, a = some ⟨b, off, none⟩ ∧ l[k]? = some x ∧ b < w.heap.size ∧ w.cell? ⟨b, off + k * 4, none⟩ = some (.int .i64 x.opens.lo) ∧ w.cell? ⟨b, off + k * 4 + 1, none⟩ = some (.int .i64 x.opens.hi) ∧ w.cell? ⟨b, off + k * 4 + 2, none⟩ = some (.int .i64 x.shuts.lo) ∧ w.cell? ⟨b, off + k * 4 + 3, none⟩ = some (.int .i64 x.shuts.hi) := by
  obtain ⟨hl, h⟩ := h
  obtain ⟨b, off, ha, hc⟩ := h (by omega)
  have h0 := hc k hk 0 _ rfl
  simp only [Nat.add_zero] at h0
  exact ⟨b, off, _, ha, by simp [List.getD, hl, hk], block_lt_of_cell h0, h0, hc k hk 1 _ rfl, hc k hk 2 _ rfl, hc k hk 3 _ rfl⟩
def Well.cells (s : Well) : List Value := [.int .i64 s.x, .int .i64 s.y, .int .i64 s.depth, .int .i64 s.yield.lo, .int .i64 s.yield.hi, .int .i64 s.room, .int .i64 s.has.lo, .int .i64 s.has.hi, .int .i64 s.owner]
def Well.val (s : Well) : Value := .agg #[.int .i64 s.x, .int .i64 s.y, .int .i64 s.depth, .int .i64 s.yield.lo, .int .i64 s.yield.hi, .int .i64 s.room, .int .i64 s.has.lo, .int .i64 s.has.hi, .int .i64 s.owner]
theorem Well.val_eq (s : Well) : s.val = .agg s.cells.toArray := rfl
def WellsAt (w : World) (a : Option Addr) (n : Nat) (l : List Well) : Prop := l.length = n ∧ SlAt w 9 a n fun i => (l.getD i zw).cells
theorem WellsAt.ext {w w' : World} {a : Option Addr} {n : Nat} {l : List Well} (h : WellsAt w a n l) (e : Ext w w') : WellsAt w' a n l := ⟨h.1, h.2.ext e⟩
theorem WellsAt.same {w w' : World} {a : Option Addr} {n : Nat} {l : List Well} (h : WellsAt w a n l) (hb : ∀ x, a = some x → w'.heap[x.block]? = w.heap[x.block]?) : WellsAt w' a n l := ⟨h.1, h.2.same hb⟩
theorem WellsAt.get {w : World} {a : Option Addr} {n : Nat} {l : List Well} (h : WellsAt w a n l) (k : Nat) (hk : k < n) :
    ∃ b off x, a = some ⟨b, off, none⟩ ∧ l[k]? = some x ∧ b < w.heap.size ∧ w.cell? ⟨b, off + k * 9, none⟩ = some (.int .i64 x.x) ∧ w.cell? ⟨b, off + k * 9 + 1, none⟩ = some (.int .i64 x.y) ∧ w.cell? ⟨b, off + k * 9 + 2, none⟩ = some (.int .i64 x.depth) ∧ w.cell? ⟨b, off + k * 9 + 3, none⟩ = some (.int .i64 x.yield.lo) ∧ w.cell? ⟨b, off + k * 9 + 4, none⟩ = some (.int .i64 x.yield.hi) ∧ w.cell? ⟨b, off + k * 9 + 5, none⟩ = some (.int .i64 x.room) ∧ w.cell? ⟨b, off + k * 9 + 6, none⟩ = some (.int .i64 x.has.lo) ∧ w.cell? ⟨b, off + k * 9 + 7, none⟩ = some (.int .i64 x.has.hi) ∧ w.cell? ⟨b, off + k * 9 + 8, none⟩ = some (.int .i64 x.owner) := by
  obtain ⟨hl, h⟩ := h
  obtain ⟨b, off, ha, hc⟩ := h (by omega)
  have h0 := hc k hk 0 _ rfl
  simp only [Nat.add_zero] at h0
  exact ⟨b, off, _, ha, by simp [List.getD, hl, hk], block_lt_of_cell h0, h0, hc k hk 1 _ rfl, hc k hk 2 _ rfl, hc k hk 3 _ rfl, hc k hk 4 _ rfl, hc k hk 5 _ rfl, hc k hk 6 _ rfl, hc k hk 7 _ rfl, hc k hk 8 _ rfl⟩
def Stop.cells (s : Stop) : List Value := [.int .i64 s.leg, .int .i64 s.well, .int .i64 s.leaves.lo, .int .i64 s.leaves.hi, .int .i64 s.arrives.lo, .int .i64 s.arrives.hi]
def Stop.val (s : Stop) : Value := .agg #[.int .i64 s.leg, .int .i64 s.well, .int .i64 s.leaves.lo, .int .i64 s.leaves.hi, .int .i64 s.arrives.lo, .int .i64 s.arrives.hi]
theorem Stop.val_eq (s : Stop) : s.val = .agg s.cells.toArray := rfl
def StopsAt (w : World) (a : Option Addr) (n : Nat) (l : List Stop) : Prop := l.length = n ∧ SlAt w 6 a n fun i => (l.getD i zstop).cells
theorem StopsAt.ext {w w' : World} {a : Option Addr} {n : Nat} {l : List Stop} (h : StopsAt w a n l) (e : Ext w w') : StopsAt w' a n l := ⟨h.1, h.2.ext e⟩
theorem StopsAt.same {w w' : World} {a : Option Addr} {n : Nat} {l : List Stop} (h : StopsAt w a n l) (hb : ∀ x, a = some x → w'.heap[x.block]? = w.heap[x.block]?) : StopsAt w' a n l := ⟨h.1, h.2.same hb⟩
theorem StopsAt.get {w : World} {a : Option Addr} {n : Nat} {l : List Stop} (h : StopsAt w a n l) (k : Nat) (hk : k < n) :
    ∃ b off x, a = some ⟨b, off, none⟩ ∧ l[k]? = some x ∧ b < w.heap.size ∧ w.cell? ⟨b, off + k * 6, none⟩ = some (.int .i64 x.leg) ∧ w.cell? ⟨b, off + k * 6 + 1, none⟩ = some (.int .i64 x.well) ∧ w.cell? ⟨b, off + k * 6 + 2, none⟩ = some (.int .i64 x.leaves.lo) ∧ w.cell? ⟨b, off + k * 6 + 3, none⟩ = some (.int .i64 x.leaves.hi) ∧ w.cell? ⟨b, off + k * 6 + 4, none⟩ = some (.int .i64 x.arrives.lo) ∧ w.cell? ⟨b, off + k * 6 + 5, none⟩ = some (.int .i64 x.arrives.hi) := by
  obtain ⟨hl, h⟩ := h
  obtain ⟨b, off, ha, hc⟩ := h (by omega)
  have h0 := hc k hk 0 _ rfl
  simp only [Nat.add_zero] at h0
  exact ⟨b, off, _, ha, by simp [List.getD, hl, hk], block_lt_of_cell h0, h0, hc k hk 1 _ rfl, hc k hk 2 _ rfl, hc k hk 3 _ rfl, hc k hk 4 _ rfl, hc k hk 5 _ rfl⟩
def Draw.cells (s : Draw) : List Value := [.int .i64 s.well, .int .i64 s.day, .int .i64 s.water]
def Draw.val (s : Draw) : Value := .agg #[.int .i64 s.well, .int .i64 s.day, .int .i64 s.water]
theorem Draw.val_eq (s : Draw) : s.val = .agg s.cells.toArray := rfl
def DrawsAt (w : World) (a : Option Addr) (n : Nat) (l : List Draw) : Prop := l.length = n ∧ SlAt w 3 a n fun i => (l.getD i zdraw).cells
theorem DrawsAt.ext {w w' : World} {a : Option Addr} {n : Nat} {l : List Draw} (h : DrawsAt w a n l) (e : Ext w w') : DrawsAt w' a n l := ⟨h.1, h.2.ext e⟩
theorem DrawsAt.same {w w' : World} {a : Option Addr} {n : Nat} {l : List Draw} (h : DrawsAt w a n l) (hb : ∀ x, a = some x → w'.heap[x.block]? = w.heap[x.block]?) : DrawsAt w' a n l := ⟨h.1, h.2.same hb⟩
theorem DrawsAt.get {w : World} {a : Option Addr} {n : Nat} {l : List Draw} (h : DrawsAt w a n l) (k : Nat) (hk : k < n) :
    ∃ b off x, a = some ⟨b, off, none⟩ ∧ l[k]? = some x ∧ b < w.heap.size ∧ w.cell? ⟨b, off + k * 3, none⟩ = some (.int .i64 x.well) ∧ w.cell? ⟨b, off + k * 3 + 1, none⟩ = some (.int .i64 x.day) ∧ w.cell? ⟨b, off + k * 3 + 2, none⟩ = some (.int .i64 x.water) := by
  obtain ⟨hl, h⟩ := h
  obtain ⟨b, off, ha, hc⟩ := h (by omega)
  have h0 := hc k hk 0 _ rfl
  simp only [Nat.add_zero] at h0
  exact ⟨b, off, _, ha, by simp [List.getD, hl, hk], block_lt_of_cell h0, h0, hc k hk 1 _ rfl, hc k hk 2 _ rfl⟩
def Breed.cells (s : Breed) : List Value := [.int .i64 s.full, .int .i64 s.fed, .int .i64 s.rest.lo, .int .i64 s.rest.hi, .int .i64 s.heat.lo, .int .i64 s.heat.hi, .int .i64 s.toil.lo, .int .i64 s.toil.hi, .int .i64 s.burn.lo, .int .i64 s.burn.hi, .int .i64 s.rub.lo, .int .i64 s.rub.hi, .int .i64 s.milk.lo, .int .i64 s.milk.hi, .int .i64 s.heal, .int .i64 s.strong.lo, .int .i64 s.strong.hi]
def Breed.val (s : Breed) : Value := .agg #[.int .i64 s.full, .int .i64 s.fed, .int .i64 s.rest.lo, .int .i64 s.rest.hi, .int .i64 s.heat.lo, .int .i64 s.heat.hi, .int .i64 s.toil.lo, .int .i64 s.toil.hi, .int .i64 s.burn.lo, .int .i64 s.burn.hi, .int .i64 s.rub.lo, .int .i64 s.rub.hi, .int .i64 s.milk.lo, .int .i64 s.milk.hi, .int .i64 s.heal, .int .i64 s.strong.lo, .int .i64 s.strong.hi]
theorem Breed.val_eq (s : Breed) : s.val = .agg s.cells.toArray := rfl
def Camel.cells (s : Camel) : List Value := [.int .i64 s.water.lo, .int .i64 s.water.hi, .int .i64 s.fat.lo, .int .i64 s.fat.hi, .int .i64 s.sore.lo, .int .i64 s.sore.hi, .bool s.milks]
def Camel.val (s : Camel) : Value := .agg #[.int .i64 s.water.lo, .int .i64 s.water.hi, .int .i64 s.fat.lo, .int .i64 s.fat.hi, .int .i64 s.sore.lo, .int .i64 s.sore.hi, .bool s.milks]
theorem Camel.val_eq (s : Camel) : s.val = .agg s.cells.toArray := rfl
def CamelsAt (w : World) (a : Option Addr) (n : Nat) (l : List Camel) : Prop := l.length = n ∧ SlAt w 7 a n fun i => (l.getD i zcamel).cells
theorem CamelsAt.ext {w w' : World} {a : Option Addr} {n : Nat} {l : List Camel} (h : CamelsAt w a n l) (e : Ext w w') : CamelsAt w' a n l := ⟨h.1, h.2.ext e⟩
theorem CamelsAt.same {w w' : World} {a : Option Addr} {n : Nat} {l : List Camel} (h : CamelsAt w a n l) (hb : ∀ x, a = some x → w'.heap[x.block]? = w.heap[x.block]?) : CamelsAt w' a n l := ⟨h.1, h.2.same hb⟩
theorem CamelsAt.get {w : World} {a : Option Addr} {n : Nat} {l : List Camel} (h : CamelsAt w a n l) (k : Nat) (hk : k < n) :
    ∃ b off x, a = some ⟨b, off, none⟩ ∧ l[k]? = some x ∧ b < w.heap.size ∧ w.cell? ⟨b, off + k * 7, none⟩ = some (.int .i64 x.water.lo) ∧ w.cell? ⟨b, off + k * 7 + 1, none⟩ = some (.int .i64 x.water.hi) ∧ w.cell? ⟨b, off + k * 7 + 2, none⟩ = some (.int .i64 x.fat.lo) ∧ w.cell? ⟨b, off + k * 7 + 3, none⟩ = some (.int .i64 x.fat.hi) ∧ w.cell? ⟨b, off + k * 7 + 4, none⟩ = some (.int .i64 x.sore.lo) ∧ w.cell? ⟨b, off + k * 7 + 5, none⟩ = some (.int .i64 x.sore.hi) ∧ w.cell? ⟨b, off + k * 7 + 6, none⟩ = some (.bool x.milks) := by
  obtain ⟨hl, h⟩ := h
  obtain ⟨b, off, ha, hc⟩ := h (by omega)
  have h0 := hc k hk 0 _ rfl
  simp only [Nat.add_zero] at h0
  exact ⟨b, off, _, ha, by simp [List.getD, hl, hk], block_lt_of_cell h0, h0, hc k hk 1 _ rfl, hc k hk 2 _ rfl, hc k hk 3 _ rfl, hc k hk 4 _ rfl, hc k hk 5 _ rfl, hc k hk 6 _ rfl⟩
def March.cells (s : March) : List Value := [.int .i64 s.hours, .int .i64 s.load, .int .i64 s.heat.lo, .int .i64 s.heat.hi, .int .i64 s.grass.lo, .int .i64 s.grass.hi, .int .i64 s.drinks.lo, .int .i64 s.drinks.hi]
def March.val (s : March) : Value := .agg #[.int .i64 s.hours, .int .i64 s.load, .int .i64 s.heat.lo, .int .i64 s.heat.hi, .int .i64 s.grass.lo, .int .i64 s.grass.hi, .int .i64 s.drinks.lo, .int .i64 s.drinks.hi]
theorem March.val_eq (s : March) : s.val = .agg s.cells.toArray := rfl
def DaysAt (w : World) (a : Option Addr) (n : Nat) (l : List March) : Prop := l.length = n ∧ SlAt w 8 a n fun i => (l.getD i zday).cells
theorem DaysAt.ext {w w' : World} {a : Option Addr} {n : Nat} {l : List March} (h : DaysAt w a n l) (e : Ext w w') : DaysAt w' a n l := ⟨h.1, h.2.ext e⟩
theorem DaysAt.same {w w' : World} {a : Option Addr} {n : Nat} {l : List March} (h : DaysAt w a n l) (hb : ∀ x, a = some x → w'.heap[x.block]? = w.heap[x.block]?) : DaysAt w' a n l := ⟨h.1, h.2.same hb⟩
theorem DaysAt.get {w : World} {a : Option Addr} {n : Nat} {l : List March} (h : DaysAt w a n l) (k : Nat) (hk : k < n) :
    ∃ b off x, a = some ⟨b, off, none⟩ ∧ l[k]? = some x ∧ b < w.heap.size ∧ w.cell? ⟨b, off + k * 8, none⟩ = some (.int .i64 x.hours) ∧ w.cell? ⟨b, off + k * 8 + 1, none⟩ = some (.int .i64 x.load) ∧ w.cell? ⟨b, off + k * 8 + 2, none⟩ = some (.int .i64 x.heat.lo) ∧ w.cell? ⟨b, off + k * 8 + 3, none⟩ = some (.int .i64 x.heat.hi) ∧ w.cell? ⟨b, off + k * 8 + 4, none⟩ = some (.int .i64 x.grass.lo) ∧ w.cell? ⟨b, off + k * 8 + 5, none⟩ = some (.int .i64 x.grass.hi) ∧ w.cell? ⟨b, off + k * 8 + 6, none⟩ = some (.int .i64 x.drinks.lo) ∧ w.cell? ⟨b, off + k * 8 + 7, none⟩ = some (.int .i64 x.drinks.hi) := by
  obtain ⟨hl, h⟩ := h
  obtain ⟨b, off, ha, hc⟩ := h (by omega)
  have h0 := hc k hk 0 _ rfl
  simp only [Nat.add_zero] at h0
  exact ⟨b, off, _, ha, by simp [List.getD, hl, hk], block_lt_of_cell h0, h0, hc k hk 1 _ rfl, hc k hk 2 _ rfl, hc k hk 3 _ rfl, hc k hk 4 _ rfl, hc k hk 5 _ rfl, hc k hk 6 _ rfl, hc k hk 7 _ rfl⟩
/-- a slice of legs: each one holds a slice of gates -/
def LegsAt (w : World) (a : Option Addr) (n : Nat) (l : List Leg) : Prop :=
  l.length = n ∧ (0 < n → ∃ b off, a = some ⟨b, off, none⟩ ∧ ∀ k f, l[k]? = some f → ∃ ka kn kc, Cells w b (off + k * 5) [.int .i64 f.frm, .int .i64 f.to, .int .i64 f.long.lo, .int .i64 f.long.hi, .slice ka kn kc] ∧ kn ≤ kc ∧ kc ≤ maxLen ∧ GatesAt w ka kn f.gates)
theorem LegsAt.ext {w w' : World} {a : Option Addr} {n : Nat} {l : List Leg} (h : LegsAt w a n l) (e : Ext w w') : LegsAt w' a n l :=
  ⟨h.1, fun hn => let ⟨b, off, ha, hc⟩ := h.2 hn; ⟨b, off, ha, fun k f hf => let ⟨ka, kn, kc, h1, h2, h3, h4⟩ := hc k f hf; ⟨ka, kn, kc, h1.ext e, h2, h3, h4.ext e⟩⟩⟩
theorem LegsAt.get {w : World} {a : Option Addr} {n : Nat} {l : List Leg} (h : LegsAt w a n l) (k : Nat) (hk : k < n) :
    ∃ b off x ka kn kc, a = some ⟨b, off, none⟩ ∧ l[k]? = some x ∧ b < w.heap.size ∧ w.cell? ⟨b, off + k * 5, none⟩ = some (.int .i64 x.frm) ∧ w.cell? ⟨b, off + k * 5 + 1, none⟩ = some (.int .i64 x.to) ∧ w.cell? ⟨b, off + k * 5 + 2, none⟩ = some (.int .i64 x.long.lo) ∧ w.cell? ⟨b, off + k * 5 + 3, none⟩ = some (.int .i64 x.long.hi)
      ∧ w.cell? ⟨b, off + k * 5 + 4, none⟩ = some (.slice ka kn kc) ∧ kn ≤ kc ∧ kc ≤ maxLen ∧ GatesAt w ka kn x.gates := by
  obtain ⟨hl, h⟩ := h
  obtain ⟨b, off, ha, hc⟩ := h (by omega)
  obtain ⟨x, hx⟩ : ∃ x, l[k]? = some x := ⟨l[k], by simp⟩
  obtain ⟨ka, kn, kc, h1, h2, h3, h4⟩ := hc k x hx
  have h0 := h1 0 _ rfl
  simp only [Nat.add_zero] at h0
  exact ⟨b, off, x, ka, kn, kc, ha, hx, block_lt_of_cell h0, h0, h1 1 _ rfl, h1 2 _ rfl, h1 3 _ rfl, h1 4 _ rfl, h2, h3, h4⟩
end Go.Proofs.YtcoelhpmkhimpaaGreatDoor
