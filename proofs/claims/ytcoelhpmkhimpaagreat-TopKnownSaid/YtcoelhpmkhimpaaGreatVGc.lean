/- The data of layers 1 and 3 as cells and as values; slices of them read as lists. Printed by wip/tools/gendata.py. No function of the program is named here. -/
import Derived.Test.YtcoelhpmkhimpaaGreatVBase
import Derived.Test.YtcoelhpmkhimpaaGreatVGa
namespace Go.Proofs.YtcoelhpmkhimpaaGreat
open Go.RowKit
set_option linter.unusedVariables false
def zstop : Stop := ⟨0, 0, ⟨0, 0⟩, ⟨0, 0⟩⟩
def zdraw : Draw := ⟨0, 0, 0⟩
def zcamel : Camel := ⟨⟨0, 0⟩, ⟨0, 0⟩, ⟨0, 0⟩, false⟩
def zday : March := ⟨0, 0, ⟨0, 0⟩, ⟨0, 0⟩, ⟨0, 0⟩⟩
def Gate.cells (s : Gate) : List Value := [.int .i64 s.opens.lo, .int .i64 s.opens.hi, .int .i64 s.shuts.lo, .int .i64 s.shuts.hi]
def Gate.val (s : Gate) : Value := .agg #[.int .i64 s.opens.lo, .int .i64 s.opens.hi, .int .i64 s.shuts.lo, .int .i64 s.shuts.hi]
theorem Gate.val_eq (s : Gate) : s.val = .agg s.cells.toArray := rfl
def GatesAt (w : World) (a : Option Addr) (n : Nat) (l : List Gate) : Prop := l.length = n ∧ SlAt w 4 a n fun i => (l.getD i zg).cells
theorem GatesAt.ext {w w' : World} {a : Option Addr} {n : Nat} {l : List Gate} (h : GatesAt w a n l) (e : Ext w w') : GatesAt w' a n l := ⟨h.1, h.2.ext e⟩
theorem GatesAt.same {w w' : World} {a : Option Addr} {n : Nat} {l : List Gate} (h : GatesAt w a n l) (hb : ∀ x, a = some x → w'.heap[x.block]? = w.heap[x.block]?) : GatesAt w' a n l := ⟨h.1, h.2.same hb⟩
theorem GatesAt.get {w : World} {a : Option Addr} {n : Nat} {l : List Gate} (h : GatesAt w a n l) (k : Nat) (hk : k < n) :
    ∃ b off x, a = some ⟨b, off, none⟩ ∧ l[k]? = some x ∧ b < w.heap.size ∧ w.cell? ⟨b, off + k * 4, none⟩ = some (.int .i64 x.opens.lo) ∧ w.cell? ⟨b, off + k * 4 + 1, none⟩ = some (.int .i64 x.opens.hi) ∧ w.cell? ⟨b, off + k * 4 + 2, none⟩ = some (.int .i64 x.shuts.lo) ∧ w.cell? ⟨b, off + k * 4 + 3, none⟩ = some (.int .i64 x.shuts.hi) := by
  obtain ⟨hl, h⟩ := h
  obtain ⟨b, off, ha, hc⟩ := h (by omega)
  have h0 := hc k hk 0 _ rfl
  simp only [Nat.add_zero] at h0
  exact ⟨b, off, _, ha, by simp [List.getD, hl, hk], block_lt_of_cell h0, h0, hc k hk 1 _ rfl, hc k hk 2 _ rfl, hc k hk 3 _ rfl⟩
def Well.cells (s : Well) : List Value := [.int .i64 s.x, .int .i64 s.y, .int .i64 s.depth, .int .i64 s.yield.lo, .int .i64 s.yield.hi, .int .i64 s.room, .int .i64 s.has.lo, .int .i64 s.has.hi, .int .i64 s.owner]
def Well.val (s : Well) : Value := .agg #[.int .i64 s.x, .int .i64 s.y, .int .i64 s.depth, .int .i64 s.yield.lo, .int .i64 s.yield.hi, .int .i64 s.room, .int .i64 s.has.lo, .int .i64 s.has.hi, .int .i64 s.owner]
theorem Well.val_eq (s : Well) : s.val = .agg s.cells.toArray := rfl
def WellsAt (w : World) (a : Option Addr) (n : Nat) (l : List Well) : Prop := l.length = n ∧ SlAt w 9 a n fun i => (l.getD i zw).cells
theorem WellsAt.ext {w w' : World} {a : Option Addr} {n : Nat} {l : List Well} (h : WellsAt w a n l) (e : Ext w w') : WellsAt w' a n l := ⟨h.1, h.2.ext e⟩
theorem WellsAt.same {w w' : World} {a : Option Addr} {n : Nat} {l : List Well} (h : WellsAt w a n l) (hb : ∀ x, a = some x → w'.heap[x.block]? = w.heap[x.block]?) : WellsAt w' a n l := ⟨h.1, h.2.same hb⟩
theorem WellsAt.get {w : World} {a : Option Addr} {n : Nat} {l : List Well} (h : WellsAt w a n l) (k : Nat) (hk : k < n) :
    ∃ b off x, a = some ⟨b, off, none⟩ ∧ l[k]? = some x ∧ b < w.heap.size ∧ w.cell? ⟨b, off + k * 9, none⟩ = some (.int .i64 x.x) ∧ w.cell? ⟨b, off + k * 9 + 1, none⟩ = some (.int .i64 x.y) ∧ w.cell? ⟨b, off + k * 9 + 2, none⟩ = some (.int .i64 x.depth) ∧ w.cell? ⟨b, off + k * 9 + 3, none⟩ = some (.int .i64 x.yield.lo) ∧ w.cell? ⟨b, off + k * 9 + 4, none⟩ = some (.int .i64 x.yield.hi) ∧ w.cell? ⟨b, off + k * 9 + 5, none⟩ = some (.int .i64 x.room) ∧ w.cell? ⟨b, off + k * 9 + 6, none⟩ = some (.int .i64 x.has.lo) ∧ w.cell? ⟨b, off + k * 9 + 7, none⟩ = some (.int .i64 x.has.hi) ∧ w.cell? ⟨b, off + k * 9 + 8, none⟩ = some (.int .i64 x.owner) := by
  obtain ⟨hl, h⟩ := h
  obtain ⟨b, off, ha, hc⟩ := h (by omega)
  have h0 := hc k hk 0 _ rfl
  simp only [Nat.add_zero] at h0
  exact ⟨b, off, _, ha, by simp [List.getD, hl, hk], block_lt_of_cell h0, h0, hc k hk 1 _ rfl, hc k hk 2 _ rfl, hc k hk 3 _ rfl, hc k hk 4 _ rfl, hc k hk 5 _ rfl, hc k hk 6 _ rfl, hc k hk 7 _ rfl, hc k hk 8 _ rfl⟩
def Stop.cells (s : Stop) : List Value := [.int .i64 s.leg, .int .i64 s.well, .int .i64 s.leaves.lo, .int .i64 s.leaves.hi, .int .i64 s.arrives.lo, .int .i64 s.arrives.hi]
def Stop.val (s : Stop) : Value := .agg #[.int .i64 s.leg, .int .i64 s.well, .int .i64 s.leaves.lo, .int .i64 s.leaves.hi, .int .i64 s.arrives.lo, .int .i64 s.arrives.hi]
theorem Stop.val_eq (s : Stop) : s.val = .agg s.cells.toArray := rfl
def StopsAt (w : World) (a : Option Addr) (n : Nat) (l : List Stop) : Prop := l.length = n ∧ SlAt w 6 a n fun i => (l.getD i zstop).cells
theorem StopsAt.ext {w w' : World} {a : Option Addr} {n : Nat} {l : List Stop} (h : StopsAt w a n l) (e : Ext w w') : StopsAt w' a n l := ⟨h.1, h.2.ext e⟩
theorem StopsAt.same {w w' : World} {a : Option Addr} {n : Nat} {l : List Stop} (h : StopsAt w a n l) (hb : ∀ x, a = some x → w'.heap[x.block]? = w.heap[x.block]?) : StopsAt w' a n l := ⟨h.1, h.2.same hb⟩
theorem StopsAt.get {w : World} {a : Option Addr} {n : Nat} {l : List Stop} (h : StopsAt w a n l) (k : Nat) (hk : k < n) :
    ∃ b off x, a = some ⟨b, off, none⟩ ∧ l[k]? = some x ∧ b < w.heap.size ∧ w.cell? ⟨b, off + k * 6, none⟩ = some (.int .i64 x.leg) ∧ w.cell? ⟨b, off + k * 6 + 1, none⟩ = some (.int .i64 x.well) ∧ w.cell? ⟨b, off + k * 6 + 2, none⟩ = some (.int .i64 x.leaves.lo) ∧ w.cell? ⟨b, off + k * 6 + 3, none⟩ = some (.int .i64 x.leaves.hi) ∧ w.cell? ⟨b, off + k * 6 + 4, none⟩ = some (.int .i64 x.arrives.lo) ∧ w.cell? ⟨b, off + k * 6 + 5, none⟩ = some (.int .i64 x.arrives.hi) := by
  obtain ⟨hl, h⟩ := h
  obtain ⟨b, off, ha, hc⟩ := h (by omega)
  have h0 := hc k hk 0 _ rfl
  simp only [Nat.add_zero] at h0
  exact ⟨b, off, _, ha, by simp [List.getD, hl, hk], block_lt_of_cell h0, h0, hc k hk 1 _ rfl, hc k hk 2 _ rfl, hc k hk 3 _ rfl, hc k hk 4 _ rfl, hc k hk 5 _ rfl⟩
def Draw.cells (s : Draw) : List Value := [.int .i64 s.well, .int .i64 s.day, .int .i64 s.water]
def Draw.val (s : Draw) : Value := .agg #[.int .i64 s.well, .int .i64 s.day, .int .i64 s.water]
theorem Draw.val_eq (s : Draw) : s.val = .agg s.cells.toArray := rfl
def DrawsAt (w : World) (a : Option Addr) (n : Nat) (l : List Draw) : Prop := l.length = n ∧ SlAt w 3 a n fun i => (l.getD i zdraw).cells
theorem DrawsAt.ext {w w' : World} {a : Option Addr} {n : Nat} {l : List Draw} (h : DrawsAt w a n l) (e : Ext w w') : DrawsAt w' a n l := ⟨h.1, h.2.ext e⟩
theorem DrawsAt.same {w w' : World} {a : Option Addr} {n : Nat} {l : List Draw} (h : DrawsAt w a n l) (hb : ∀ x, a = some x → w'.heap[x.block]? = w.heap[x.block]?) : DrawsAt w' a n l := ⟨h.1, h.2.same hb⟩
theorem DrawsAt.get {w : World} {a : Option Addr} {n : Nat} {l : List Draw} (h : DrawsAt w a n l) (k : Nat) (hk : k < n) :
    ∃ b off x, a = some ⟨b, off, none⟩ ∧ l[k]? = some x ∧ b < w.heap.size ∧ w.cell? ⟨b, off + k * 3, none⟩ = some (.int .i64 x.well) ∧ w.cell? ⟨b, off + k * 3 + 1, none⟩ = some (.int .i64 x.day) ∧ w.cell? ⟨b, off + k * 3 + 2, none⟩ = some (.int .i64 x.water) := by
  obtain ⟨hl, h⟩ := h
  obtain ⟨b, off, ha, hc⟩ := h (by omega)
  have h0 := hc k hk 0 _ rfl
  simp only [Nat.add_zero] at h0
  exact ⟨b, off, _, ha, by simp [List.getD, hl, hk], block_lt_of_cell h0, h0, hc k hk 1 _ rfl, hc k hk 2 _ rfl⟩
def Breed.cells (s : Breed) : List Value := [.int .i64 s.full, .int .i64 s.fed, .int .i64 s.rest.lo, .int .i64 s.rest.hi, .int .i64 s.heat.lo, .int .i64 s.heat.hi, .int .i64 s.toil.lo, .int .i64 s.toil.hi, .int .i64 s.burn.lo, .int .i64 s.burn.hi, .int .i64 s.rub.lo, .int .i64 s.rub.hi, .int .i64 s.milk.lo, .int .i64 s.milk.hi, .int .i64 s.heal, .int .i64 s.strong.lo, .int .i64 s.strong.hi]
def Breed.val (s : Breed) : Value := .agg #[.int .i64 s.full, .int .i64 s.fed, .int .i64 s.rest.lo, .int .i64 s.rest.hi, .int .i64 s.heat.lo, .int .i64 s.heat.hi, .int .i64 s.toil.lo, .int .i64 s.toil.hi, .int .i64 s.burn.lo, .int .i64 s.burn.hi, .int .i64 s.rub.lo, .int .i64 s.rub.hi, .int .i64 s.milk.lo, .int .i64 s.milk.hi, .int .i64 s.heal, .int .i64 s.strong.lo, .int .i64 s.strong.hi]
theorem Breed.val_eq (s : Breed) : s.val = .agg s.cells.toArray := rfl
def Camel.cells (s : Camel) : List Value := [.int .i64 s.water.lo, .int .i64 s.water.hi, .int .i64 s.fat.lo, .int .i64 s.fat.hi, .int .i64 s.sore.lo, .int .i64 s.sore.hi, .bool s.milks]
def Camel.val (s : Camel) : Value := .agg #[.int .i64 s.water.lo, .int .i64 s.water.hi, .int .i64 s.fat.lo, .int .i64 s.fat.hi, .int .i64 s.sore.lo, .int .i64 s.sore.hi, .bool s.milks]
theorem Camel.val_eq (s : Camel) : s.val = .agg s.cells.toArray := rfl
def CamelsAt (w : World) (a : Option Addr) (n : Nat) (l : List Camel) : Prop := l.length = n ∧ SlAt w 7 a n fun i => (l.getD i zcamel).cells
theorem CamelsAt.ext {w w' : World} {a : Option Addr} {n : Nat} {l : List Camel} (h : CamelsAt w a n l) (e : Ext w w') : CamelsAt w' a n l := ⟨h.1, h.2.ext e⟩
theorem CamelsAt.same {w w' : World} {a : Option Addr} {n : Nat} {l : List Camel} (h : CamelsAt w a n l) (hb : ∀ x, a = some x → w'.heap[x.block]? = w.heap[x.block]?) : CamelsAt w' a n l := ⟨h.1, h.2.same hb⟩
theorem CamelsAt.get {w : World} {a : Option Addr} {n : Nat} {l : List Camel} (h : CamelsAt w a n l) (k : Nat) (hk : k < n) :
    ∃ b off x, a = some ⟨b, off, none⟩ ∧ l[k]? = some x ∧ b < w.heap.size ∧ w.cell? ⟨b, off + k * 7, none⟩ = some (.int .i64 x.water.lo) ∧ w.cell? ⟨b, off + k * 7 + 1, none⟩ = some (.int .i64 x.water.hi) ∧ w.cell? ⟨b, off + k * 7 + 2, none⟩ = some (.int .i64 x.fat.lo) ∧ w.cell? ⟨b, off + k * 7 + 3, none⟩ = some (.int .i64 x.fat.hi) ∧ w.cell? ⟨b, off + k * 7 + 4, none⟩ = some (.int .i64 x.sore.lo) ∧ w.cell? ⟨b, off + k * 7 + 5, none⟩ = some (.int .i64 x.sore.hi) ∧ w.cell? ⟨b, off + k * 7 + 6, none⟩ = some (.bool x.milks) := by
  obtain ⟨hl, h⟩ := h
  obtain ⟨b, off, ha, hc⟩ := h (by omega)
  have h0 := hc k hk 0 _ rfl
  simp only [Nat.add_zero] at h0
  exact ⟨b, off, _, ha, by simp [List.getD, hl, hk], block_lt_of_cell h0, h0, hc k hk 1 _ rfl, hc k hk 2 _ rfl, hc k hk 3 _ rfl, hc k hk 4 _ rfl, hc k hk 5 _ rfl, hc k hk 6 _ rfl⟩
def March.cells (s : March) : List Value := [.int .i64 s.hours, .int .i64 s.load, .int .i64 s.heat.lo, .int .i64 s.heat.hi, .int .i64 s.grass.lo, .int .i64 s.grass.hi, .int .i64 s.drinks.lo, .int .i64 s.drinks.hi]
def March.val (s : March) : Value := .agg #[.int .i64 s.hours, .int .i64 s.load, .int .i64 s.heat.lo, .int .i64 s.heat.hi, .int .i64 s.grass.lo, .int .i64 s.grass.hi, .int .i64 s.drinks.lo, .int .i64 s.drinks.hi]
theorem March.val_eq (s : March) : s.val = .agg s.cells.toArray := rfl
def DaysAt (w : World) (a : Option Addr) (n : Nat) (l : List March) : Prop := l.length = n ∧ SlAt w 8 a n fun i => (l.getD i zday).cells
theorem DaysAt.ext {w w' : World} {a : Option Addr} {n : Nat} {l : List March} (h : DaysAt w a n l) (e : Ext w w') : DaysAt w' a n l := ⟨h.1, h.2.ext e⟩
theorem DaysAt.same {w w' : World} {a : Option Addr} {n : Nat} {l : List March} (h : DaysAt w a n l) (hb : ∀ x, a = some x → w'.heap[x.block]? = w.heap[x.block]?) : DaysAt w' a n l := ⟨h.1, h.2.same hb⟩
theorem DaysAt.get {w : World} {a : Option Addr} {n : Nat} {l : List March} (h : DaysAt w a n l) (k : Nat) (hk : k < n) :
    ∃ b off x, a = some ⟨b, off, none⟩ ∧ l[k]? = some x ∧ b < w.heap.size ∧ w.cell? ⟨b, off + k * 8, none⟩ = some (.int .i64 x.hours) ∧ w.cell? ⟨b, off + k * 8 + 1, none⟩ = some (.int .i64 x.load) ∧ w.cell? ⟨b, off + k * 8 + 2, none⟩ = some (.int .i64 x.heat.lo) ∧ w.cell? ⟨b, off + k * 8 + 3, none⟩ = some (.int .i64 x.heat.hi) ∧ w.cell? ⟨b, off + k * 8 + 4, none⟩ = some (.int .i64 x.grass.lo) ∧ w.cell? ⟨b, off + k * 8 + 5, none⟩ = some (.int .i64 x.grass.hi) ∧ w.cell? ⟨b, off + k * 8 + 6, none⟩ = some (.int .i64 x.drinks.lo) ∧ w.cell? ⟨b, off + k * 8 + 7, none⟩ = some (.int .i64 x.drinks.hi) := by
  obtain ⟨hl, h⟩ := h
  obtain ⟨b, off, ha, hc⟩ := h (by omega)
  have h0 := hc k hk 0 _ rfl
  simp only [Nat.add_zero] at h0
  exact ⟨b, off, _, ha, by simp [List.getD, hl, hk], block_lt_of_cell h0, h0, hc k hk 1 _ rfl, hc k hk 2 _ rfl, hc k hk 3 _ rfl, hc k hk 4 _ rfl, hc k hk 5 _ rfl, hc k hk 6 _ rfl, hc k hk 7 _ rfl⟩
/-- a slice of legs: each one holds a slice of gates -/
def LegsAt (w : World) (a : Option Addr) (n : Nat) (l : List Leg) : Prop :=
  l.length = n ∧ (0 < n → ∃ b off, a = some ⟨b, off, none⟩ ∧ ∀ k f, l[k]? = some f → ∃ ka kn kc, Cells w b (off + k * 5) [.int .i64 f.frm, .int .i64 f.to, .int .i64 f.long.lo, .int .i64 f.long.hi, .slice ka kn kc] ∧ kn ≤ kc ∧ kc ≤ maxLen ∧ GatesAt w ka kn f.gates)
theorem LegsAt.ext {w w' : World} {a : Option Addr} {n : Nat} {l : List Leg} (h : LegsAt w a n l) (e : Ext w w') : LegsAt w' a n l :=
  ⟨h.1, fun hn => let ⟨b, off, ha, hc⟩ := h.2 hn; ⟨b, off, ha, fun k f hf => let ⟨ka, kn, kc, h1, h2, h3, h4⟩ := hc k f hf; ⟨ka, kn, kc, h1.ext e, h2, h3, h4.ext e⟩⟩⟩
theorem LegsAt.get {w : World} {a : Option Addr} {n : Nat} {l : List Leg} (h : LegsAt w a n l) (k : Nat) (hk : k < n) :
    ∃ b off x ka kn kc, a = some ⟨b, off, none⟩ ∧ l[k]? = some x ∧ b < w.heap.size ∧ w.cell? ⟨b, off + k * 5, none⟩ = some (.int .i64 x.frm) ∧ w.cell? ⟨b, off + k * 5 + 1, none⟩ = some (.int .i64 x.to) ∧ w.cell? ⟨b, off + k * 5 + 2, none⟩ = some (.int .i64 x.long.lo) ∧ w.cell? ⟨b, off + k * 5 + 3, none⟩ = some (.int .i64 x.long.hi)
      ∧ w.cell? ⟨b, off + k * 5 + 4, none⟩ = some (.slice ka kn kc) ∧ kn ≤ kc ∧ kc ≤ maxLen ∧ GatesAt w ka kn x.gates := by
  obtain ⟨hl, h⟩ := h
  obtain ⟨b, off, ha, hc⟩ := h (by omega)
  obtain ⟨x, hx⟩ : ∃ x, l[k]? = some x := ⟨l[k], by simp⟩
  obtain ⟨ka, kn, kc, h1, h2, h3, h4⟩ := hc k x hx
  have h0 := h1 0 _ rfl
  simp only [Nat.add_zero] at h0
  exact ⟨b, off, x, ka, kn, kc, ha, hx, block_lt_of_cell h0, h0, h1 1 _ rfl, h1 2 _ rfl, h1 3 _ rfl, h1 4 _ rfl, h2, h3, h4⟩
end Go.Proofs.YtcoelhpmkhimpaaGreat

/- Contracts of slices.ContainsFunc, slices.IndexFunc. Printed by wip/tools/gev.py. -/
namespace Go.Proofs.YtcoelhpmkhimpaaGreat
open Go.RowKit
set_option linter.unusedVariables false

/-! ### over int, closure 94 -/
set_option maxHeartbeats 400000 in
theorem indexFunc_int94 (a : Option Addr) (n cap q0 q1 : Nat) (l : List Int) (p : Int → Bool) (w : World) (hl : IntsAt .i64 w a n l) (hn : n ≤ 1000000000)
    (hp : ∀ o, o ∈ l → ∀ W, Ext w W → Calls Tryz.prog 111 #[.int .i64 o, .pointer (some ⟨q0, 0, none⟩), .pointer (some ⟨q1, 0, none⟩)] W fun e W' => e = .returned (.bool (p o)) ∧ Ext W W') :
    Calls Tryz.prog 112 #[.slice a n cap, .func (.func 111) #[] #[.pointer (some ⟨q0, 0, none⟩), .pointer (some ⟨q1, 0, none⟩)]] w fun e w' =>
      e = .returned (.int .i64 (idxI p l)) ∧ Ext w w' := by
  have Hp := Lib.hid hp
  have Hl := Lib.hid hl
  clear hp hl
  go_enter Tryz.func112, Tryz.ntmps112
  go_wp2_with fail
  go_loopw [5, 8] (fun i5 i8 wr => ∃ k : Nat, k ≤ n ∧ i8 = .int .i64 k ∧ Ext w wr ∧ ∀ (j : Nat) (y : Int), j < k → l[j]? = some y → p y = false) (fun _ i8 _ => n - (intOf i8).toNat)
  case atStart => exact ⟨0, Nat.zero_le _, rfl, Ext.refl _, fun j y h => by omega⟩
  case round =>
    obtain ⟨k, hk, rfl, hx, hall⟩ := hrel
    have Hall := Lib.hid hall
    clear hall
    by_cases hlt : k < n
    · obtain ⟨b, off, x, rfl, hxk, hb, c0⟩ := (Hl.out.ext hx).get k hlt
      have Hxk := Lib.hid hxk
      clear hxk
      have hc := Hp.out x (List.mem_of_getElem? Hxk.out) wr hx
      have Hc := Lib.hid hc
      clear hc
      cases hpx : p x with
      | true =>
        have Hpx := Lib.hid hpx
        rw [hpx] at Hc
        clear hpx
        go_wp2_with (go_at_call 111; refine Hc.out.mono ?_; rintro e w' ⟨rfl, hb⟩)
        go_ret
        exact ⟨ret_int (idxI_some Hxk.out Hpx.out Hall.out).symm, hx.trans (by assumption)⟩
      | false =>
        have Hpx := Lib.hid hpx
        rw [hpx] at Hc
        clear hpx
        go_wp2_with (go_at_call 111; refine Hc.out.mono ?_; rintro e w' ⟨rfl, hb⟩)
        go_roundw
        case rel => exact ⟨k + 1, by omega, by go_num, hx.trans (by assumption), fun j y hj hy => by
            rcases Nat.lt_or_ge j k with h | h
            · exact Hall.out j y h hy
            · have e : j = k := by omega
              subst e
              have := Hxk.out
              rw [hy] at this
              cases this
              exact Hpx.out⟩
        case measure => simp [intOf]; omega
    · go_wp2_with fail
      go_ret
      refine ⟨ret_int ?_, hx⟩
      refine (idxI_none (fun j y hy => Hall.out j y ?_ hy)).symm
      have h1 := Hl.out.1
      rcases Nat.lt_or_ge j l.length with h | h
      · omega
      · simp [List.getElem?_eq_none h] at hy

theorem contains_int94 (a : Option Addr) (n cap q0 q1 : Nat) (l : List Int) (p : Int → Bool) (w : World) (hl : IntsAt .i64 w a n l) (hn : n ≤ 1000000000)
    (hp : ∀ o, o ∈ l → ∀ W, Ext w W → Calls Tryz.prog 111 #[.int .i64 o, .pointer (some ⟨q0, 0, none⟩), .pointer (some ⟨q1, 0, none⟩)] W fun e W' => e = .returned (.bool (p o)) ∧ Ext W W') :
    Calls Tryz.prog 82 #[.slice a n cap, .func (.func 111) #[] #[.pointer (some ⟨q0, 0, none⟩), .pointer (some ⟨q1, 0, none⟩)]] w fun e w' =>
      e = .returned (.bool (l.any p)) ∧ Ext w w' := by
  have Hc := Lib.hid (indexFunc_int94 a n cap q0 q1 l p w hl hn hp)
  clear hp hl
  go_enter Tryz.func82, Tryz.ntmps82
  go_wp2_with (go_at_call 112; refine Hc.out.mono ?_; rintro e w' ⟨rfl, hb⟩)
  go_ret
  exact ⟨ret_bool (idxI_ge p l), by assumption⟩


/-! ### over int, closure 111 -/
set_option maxHeartbeats 400000 in
theorem indexFunc_int111 (a : Option Addr) (n cap q0 q1 : Nat) (l : List Int) (p : Int → Bool) (w : World) (hl : IntsAt .i64 w a n l) (hn : n ≤ 1000000000)
    (hp : ∀ o, o ∈ l → ∀ W, Ext w W → Calls Tryz.prog 115 #[.int .i64 o, .pointer (some ⟨q0, 0, none⟩), .pointer (some ⟨q1, 0, none⟩)] W fun e W' => e = .returned (.bool (p o)) ∧ Ext W W') :
    Calls Tryz.prog 112 #[.slice a n cap, .func (.func 115) #[] #[.pointer (some ⟨q0, 0, none⟩), .pointer (some ⟨q1, 0, none⟩)]] w fun e w' =>
      e = .returned (.int .i64 (idxI p l)) ∧ Ext w w' := by
  have Hp := Lib.hid hp
  have Hl := Lib.hid hl
  clear hp hl
  go_enter Tryz.func112, Tryz.ntmps112
  go_wp2_with fail
  go_loopw [5, 8] (fun i5 i8 wr => ∃ k : Nat, k ≤ n ∧ i8 = .int .i64 k ∧ Ext w wr ∧ ∀ (j : Nat) (y : Int), j < k → l[j]? = some y → p y = false) (fun _ i8 _ => n - (intOf i8).toNat)
  case atStart => exact ⟨0, Nat.zero_le _, rfl, Ext.refl _, fun j y h => by omega⟩
  case round =>
    obtain ⟨k, hk, rfl, hx, hall⟩ := hrel
    have Hall := Lib.hid hall
    clear hall
    by_cases hlt : k < n
    · obtain ⟨b, off, x, rfl, hxk, hb, c0⟩ := (Hl.out.ext hx).get k hlt
      have Hxk := Lib.hid hxk
      clear hxk
      have hc := Hp.out x (List.mem_of_getElem? Hxk.out) wr hx
      have Hc := Lib.hid hc
      clear hc
      cases hpx : p x with
      | true =>
        have Hpx := Lib.hid hpx
        rw [hpx] at Hc
        clear hpx
        go_wp2_with (go_at_call 115; refine Hc.out.mono ?_; rintro e w' ⟨rfl, hb⟩)
        go_ret
        exact ⟨ret_int (idxI_some Hxk.out Hpx.out Hall.out).symm, hx.trans (by assumption)⟩
      | false =>
        have Hpx := Lib.hid hpx
        rw [hpx] at Hc
        clear hpx
        go_wp2_with (go_at_call 115; refine Hc.out.mono ?_; rintro e w' ⟨rfl, hb⟩)
        go_roundw
        case rel => exact ⟨k + 1, by omega, by go_num, hx.trans (by assumption), fun j y hj hy => by
            rcases Nat.lt_or_ge j k with h | h
            · exact Hall.out j y h hy
            · have e : j = k := by omega
              subst e
              have := Hxk.out
              rw [hy] at this
              cases this
              exact Hpx.out⟩
        case measure => simp [intOf]; omega
    · go_wp2_with fail
      go_ret
      refine ⟨ret_int ?_, hx⟩
      refine (idxI_none (fun j y hy => Hall.out j y ?_ hy)).symm
      have h1 := Hl.out.1
      rcases Nat.lt_or_ge j l.length with h | h
      · omega
      · simp [List.getElem?_eq_none h] at hy

theorem contains_int111 (a : Option Addr) (n cap q0 q1 : Nat) (l : List Int) (p : Int → Bool) (w : World) (hl : IntsAt .i64 w a n l) (hn : n ≤ 1000000000)
    (hp : ∀ o, o ∈ l → ∀ W, Ext w W → Calls Tryz.prog 115 #[.int .i64 o, .pointer (some ⟨q0, 0, none⟩), .pointer (some ⟨q1, 0, none⟩)] W fun e W' => e = .returned (.bool (p o)) ∧ Ext W W') :
    Calls Tryz.prog 82 #[.slice a n cap, .func (.func 115) #[] #[.pointer (some ⟨q0, 0, none⟩), .pointer (some ⟨q1, 0, none⟩)]] w fun e w' =>
      e = .returned (.bool (l.any p)) ∧ Ext w w' := by
  have Hc := Lib.hid (indexFunc_int111 a n cap q0 q1 l p w hl hn hp)
  clear hp hl
  go_enter Tryz.func82, Tryz.ntmps82
  go_wp2_with (go_at_call 112; refine Hc.out.mono ?_; rintro e w' ⟨rfl, hb⟩)
  go_ret
  exact ⟨ret_bool (idxI_ge p l), by assumption⟩


/-! ### over span, closure 113 -/
set_option maxHeartbeats 400000 in
theorem indexFunc_span113 (a : Option Addr) (n cap q0 q1 : Nat) (l : List Span) (p : Span → Bool) (w : World) (hl : SpansAt w a n l) (hn : n ≤ 1000000000)
    (hp : ∀ o, o ∈ l → ∀ W, Ext w W → Calls Tryz.prog 114 #[o.val, .pointer (some ⟨q0, 0, none⟩), .pointer (some ⟨q1, 0, none⟩)] W fun e W' => e = .returned (.bool (p o)) ∧ Ext W W') :
    Calls Tryz.prog 117 #[.slice a n cap, .func (.func 114) #[] #[.pointer (some ⟨q0, 0, none⟩), .pointer (some ⟨q1, 0, none⟩)]] w fun e w' =>
      e = .returned (.int .i64 (idxI p l)) ∧ Ext w w' := by
  have Hp := Lib.hid hp
  have Hl := Lib.hid hl
  clear hp hl
  go_enter Tryz.func117, Tryz.ntmps117
  go_wp2_with fail
  go_loopw [5, 8] (fun i5 i8 wr => ∃ k : Nat, k ≤ n ∧ i8 = .int .i64 k ∧ Ext w wr ∧ ∀ (j : Nat) (y : Span), j < k → l[j]? = some y → p y = false) (fun _ i8 _ => n - (intOf i8).toNat)
  case atStart => exact ⟨0, Nat.zero_le _, rfl, Ext.refl _, fun j y h => by omega⟩
  case round =>
    obtain ⟨k, hk, rfl, hx, hall⟩ := hrel
    have Hall := Lib.hid hall
    clear hall
    by_cases hlt : k < n
    · obtain ⟨b, off, x, rfl, hxk, hb, c0, c1⟩ := (Hl.out.ext hx).get k hlt
      have Hxk := Lib.hid hxk
      clear hxk
      have hc := Hp.out x (List.mem_of_getElem? Hxk.out) wr hx
      have Hc := Lib.hid hc
      clear hc
      cases hpx : p x with
      | true =>
        have Hpx := Lib.hid hpx
        rw [hpx] at Hc
        clear hpx
        go_wp2_with (go_at_call 114; refine Hc.out.mono ?_; rintro e w' ⟨rfl, hb⟩)
        go_ret
        exact ⟨ret_int (idxI_some Hxk.out Hpx.out Hall.out).symm, hx.trans (by assumption)⟩
      | false =>
        have Hpx := Lib.hid hpx
        rw [hpx] at Hc
        clear hpx
        go_wp2_with (go_at_call 114; refine Hc.out.mono ?_; rintro e w' ⟨rfl, hb⟩)
        go_roundw
        case rel => exact ⟨k + 1, by omega, by go_num, hx.trans (by assumption), fun j y hj hy => by
            rcases Nat.lt_or_ge j k with h | h
            · exact Hall.out j y h hy
            · have e : j = k := by omega
              subst e
              have := Hxk.out
              rw [hy] at this
              cases this
              exact Hpx.out⟩
        case measure => simp [intOf]; omega
    · go_wp2_with fail
      go_ret
      refine ⟨ret_int ?_, hx⟩
      refine (idxI_none (fun j y hy => Hall.out j y ?_ hy)).symm
      have h1 := Hl.out.1
      rcases Nat.lt_or_ge j l.length with h | h
      · omega
      · simp [List.getElem?_eq_none h] at hy

theorem contains_span113 (a : Option Addr) (n cap q0 q1 : Nat) (l : List Span) (p : Span → Bool) (w : World) (hl : SpansAt w a n l) (hn : n ≤ 1000000000)
    (hp : ∀ o, o ∈ l → ∀ W, Ext w W → Calls Tryz.prog 114 #[o.val, .pointer (some ⟨q0, 0, none⟩), .pointer (some ⟨q1, 0, none⟩)] W fun e W' => e = .returned (.bool (p o)) ∧ Ext W W') :
    Calls Tryz.prog 98 #[.slice a n cap, .func (.func 114) #[] #[.pointer (some ⟨q0, 0, none⟩), .pointer (some ⟨q1, 0, none⟩)]] w fun e w' =>
      e = .returned (.bool (l.any p)) ∧ Ext w w' := by
  have Hc := Lib.hid (indexFunc_span113 a n cap q0 q1 l p w hl hn hp)
  clear hp hl
  go_enter Tryz.func98, Tryz.ntmps98
  go_wp2_with (go_at_call 117; refine Hc.out.mono ?_; rintro e w' ⟨rfl, hb⟩)
  go_ret
  exact ⟨ret_bool (idxI_ge p l), by assumption⟩


/-! ### over span, closure 133 -/
set_option maxHeartbeats 400000 in
theorem indexFunc_span133 (a : Option Addr) (n cap q0 q1 : Nat) (l : List Span) (p : Span → Bool) (w : World) (hl : SpansAt w a n l) (hn : n ≤ 1000000000)
    (hp : ∀ o, o ∈ l → ∀ W, Ext w W → Calls Tryz.prog 125 #[o.val, .pointer (some ⟨q0, 0, none⟩), .pointer (some ⟨q1, 0, none⟩)] W fun e W' => e = .returned (.bool (p o)) ∧ Ext W W') :
    Calls Tryz.prog 117 #[.slice a n cap, .func (.func 125) #[] #[.pointer (some ⟨q0, 0, none⟩), .pointer (some ⟨q1, 0, none⟩)]] w fun e w' =>
      e = .returned (.int .i64 (idxI p l)) ∧ Ext w w' := by
  have Hp := Lib.hid hp
  have Hl := Lib.hid hl
  clear hp hl
  go_enter Tryz.func117, Tryz.ntmps117
  go_wp2_with fail
  go_loopw [5, 8] (fun i5 i8 wr => ∃ k : Nat, k ≤ n ∧ i8 = .int .i64 k ∧ Ext w wr ∧ ∀ (j : Nat) (y : Span), j < k → l[j]? = some y → p y = false) (fun _ i8 _ => n - (intOf i8).toNat)
  case atStart => exact ⟨0, Nat.zero_le _, rfl, Ext.refl _, fun j y h => by omega⟩
  case round =>
    obtain ⟨k, hk, rfl, hx, hall⟩ := hrel
    have Hall := Lib.hid hall
    clear hall
    by_cases hlt : k < n
    · obtain ⟨b, off, x, rfl, hxk, hb, c0, c1⟩ := (Hl.out.ext hx).get k hlt
      have Hxk := Lib.hid hxk
      clear hxk
      have hc := Hp.out x (List.mem_of_getElem? Hxk.out) wr hx
      have Hc := Lib.hid hc
      clear hc
      cases hpx : p x with
      | true =>
        have Hpx := Lib.hid hpx
        rw [hpx] at Hc
        clear hpx
        go_wp2_with (go_at_call 125; refine Hc.out.mono ?_; rintro e w' ⟨rfl, hb⟩)
        go_ret
        exact ⟨ret_int (idxI_some Hxk.out Hpx.out Hall.out).symm, hx.trans (by assumption)⟩
      | false =>
        have Hpx := Lib.hid hpx
        rw [hpx] at Hc
        clear hpx
        go_wp2_with (go_at_call 125; refine Hc.out.mono ?_; rintro e w' ⟨rfl, hb⟩)
        go_roundw
        case rel => exact ⟨k + 1, by omega, by go_num, hx.trans (by assumption), fun j y hj hy => by
            rcases Nat.lt_or_ge j k with h | h
            · exact Hall.out j y h hy
            · have e : j = k := by omega
              subst e
              have := Hxk.out
              rw [hy] at this
              cases this
              exact Hpx.out⟩
        case measure => simp [intOf]; omega
    · go_wp2_with fail
      go_ret
      refine ⟨ret_int ?_, hx⟩
      refine (idxI_none (fun j y hy => Hall.out j y ?_ hy)).symm
      have h1 := Hl.out.1
      rcases Nat.lt_or_ge j l.length with h | h
      · omega
      · simp [List.getElem?_eq_none h] at hy

theorem contains_span133 (a : Option Addr) (n cap q0 q1 : Nat) (l : List Span) (p : Span → Bool) (w : World) (hl : SpansAt w a n l) (hn : n ≤ 1000000000)
    (hp : ∀ o, o ∈ l → ∀ W, Ext w W → Calls Tryz.prog 125 #[o.val, .pointer (some ⟨q0, 0, none⟩), .pointer (some ⟨q1, 0, none⟩)] W fun e W' => e = .returned (.bool (p o)) ∧ Ext W W') :
    Calls Tryz.prog 98 #[.slice a n cap, .func (.func 125) #[] #[.pointer (some ⟨q0, 0, none⟩), .pointer (some ⟨q1, 0, none⟩)]] w fun e w' =>
      e = .returned (.bool (l.any p)) ∧ Ext w w' := by
  have Hc := Lib.hid (indexFunc_span133 a n cap q0 q1 l p w hl hn hp)
  clear hp hl
  go_enter Tryz.func98, Tryz.ntmps98
  go_wp2_with (go_at_call 117; refine Hc.out.mono ?_; rintro e w' ⟨rfl, hb⟩)
  go_ret
  exact ⟨ret_bool (idxI_ge p l), by assumption⟩


/-! ### over well, closure 100 -/
set_option maxHeartbeats 400000 in
theorem indexFunc_well100 (a : Option Addr) (n cap : Nat) (l : List Well) (p : Well → Bool) (w : World) (hl : WellsAt w a n l) (hn : n ≤ 1000000000)
    (hp : ∀ o, o ∈ l → ∀ W, Ext w W → Calls Tryz.prog 120 #[o.val] W fun e W' => e = .returned (.bool (p o)) ∧ Ext W W') :
    Calls Tryz.prog 126 #[.slice a n cap, .func (.func 120) #[] #[]] w fun e w' =>
      e = .returned (.int .i64 (idxI p l)) ∧ Ext w w' := by
  have Hp := Lib.hid hp
  have Hl := Lib.hid hl
  clear hp hl
  go_enter Tryz.func126, Tryz.ntmps126
  go_wp2_with fail
  go_loopw [5, 8] (fun i5 i8 wr => ∃ k : Nat, k ≤ n ∧ i8 = .int .i64 k ∧ Ext w wr ∧ ∀ (j : Nat) (y : Well), j < k → l[j]? = some y → p y = false) (fun _ i8 _ => n - (intOf i8).toNat)
  case atStart => exact ⟨0, Nat.zero_le _, rfl, Ext.refl _, fun j y h => by omega⟩
  case round =>
    obtain ⟨k, hk, rfl, hx, hall⟩ := hrel
    have Hall := Lib.hid hall
    clear hall
    by_cases hlt : k < n
    · obtain ⟨b, off, x, rfl, hxk, hb, c0, c1, c2, c3, c4, c5, c6, c7, c8⟩ := (Hl.out.ext hx).get k hlt
      have Hxk := Lib.hid hxk
      clear hxk
      have hc := Hp.out x (List.mem_of_getElem? Hxk.out) wr hx
      have Hc := Lib.hid hc
      clear hc
      cases hpx : p x with
      | true =>
        have Hpx := Lib.hid hpx
        rw [hpx] at Hc
        clear hpx
        go_wp2_with (go_at_call 120; refine Hc.out.mono ?_; rintro e w' ⟨rfl, hb⟩)
        go_ret
        exact ⟨ret_int (idxI_some Hxk.out Hpx.out Hall.out).symm, hx.trans (by assumption)⟩
      | false =>
        have Hpx := Lib.hid hpx
        rw [hpx] at Hc
        clear hpx
        go_wp2_with (go_at_call 120; refine Hc.out.mono ?_; rintro e w' ⟨rfl, hb⟩)
        go_roundw
        case rel => exact ⟨k + 1, by omega, by go_num, hx.trans (by assumption), fun j y hj hy => by
            rcases Nat.lt_or_ge j k with h | h
            · exact Hall.out j y h hy
            · have e : j = k := by omega
              subst e
              have := Hxk.out
              rw [hy] at this
              cases this
              exact Hpx.out⟩
        case measure => simp [intOf]; omega
    · go_wp2_with fail
      go_ret
      refine ⟨ret_int ?_, hx⟩
      refine (idxI_none (fun j y hy => Hall.out j y ?_ hy)).symm
      have h1 := Hl.out.1
      rcases Nat.lt_or_ge j l.length with h | h
      · omega
      · simp [List.getElem?_eq_none h] at hy

theorem contains_well100 (a : Option Addr) (n cap : Nat) (l : List Well) (p : Well → Bool) (w : World) (hl : WellsAt w a n l) (hn : n ≤ 1000000000)
    (hp : ∀ o, o ∈ l → ∀ W, Ext w W → Calls Tryz.prog 120 #[o.val] W fun e W' => e = .returned (.bool (p o)) ∧ Ext W W') :
    Calls Tryz.prog 119 #[.slice a n cap, .func (.func 120) #[] #[]] w fun e w' =>
      e = .returned (.bool (l.any p)) ∧ Ext w w' := by
  have Hc := Lib.hid (indexFunc_well100 a n cap l p w hl hn hp)
  clear hp hl
  go_enter Tryz.func119, Tryz.ntmps119
  go_wp2_with (go_at_call 126; refine Hc.out.mono ?_; rintro e w' ⟨rfl, hb⟩)
  go_ret
  exact ⟨ret_bool (idxI_ge p l), by assumption⟩


/-! ### over leg, closure 103 -/
set_option maxHeartbeats 400000 in
theorem indexFunc_leg103 (a : Option Addr) (n cap q0 : Nat) (l : List Leg) (p : Leg → Bool) (w : World) (hl : LegsAt w a n l) (hn : n ≤ 1000000000)
    (hp : ∀ o, o ∈ l → ∀ W ka kn kc, Ext w W → kn ≤ kc → kc ≤ maxLen → GatesAt W ka kn o.gates → Calls Tryz.prog 123 #[.agg #[.int .i64 o.frm, .int .i64 o.to, .int .i64 o.long.lo, .int .i64 o.long.hi, .slice ka kn kc], .pointer (some ⟨q0, 0, none⟩)] W fun e W' => e = .returned (.bool (p o)) ∧ Ext W W') :
    Calls Tryz.prog 127 #[.slice a n cap, .func (.func 123) #[] #[.pointer (some ⟨q0, 0, none⟩)]] w fun e w' =>
      e = .returned (.int .i64 (idxI p l)) ∧ Ext w w' := by
  have Hp := Lib.hid hp
  have Hl := Lib.hid hl
  clear hp hl
  go_enter Tryz.func127, Tryz.ntmps127
  go_wp2_with fail
  go_loopw [5, 8] (fun i5 i8 wr => ∃ k : Nat, k ≤ n ∧ i8 = .int .i64 k ∧ Ext w wr ∧ ∀ (j : Nat) (y : Leg), j < k → l[j]? = some y → p y = false) (fun _ i8 _ => n - (intOf i8).toNat)
  case atStart => exact ⟨0, Nat.zero_le _, rfl, Ext.refl _, fun j y h => by omega⟩
  case round =>
    obtain ⟨k, hk, rfl, hx, hall⟩ := hrel
    have Hall := Lib.hid hall
    clear hall
    by_cases hlt : k < n
    · obtain ⟨b, off, x, ka, kn, kc, rfl, hxk, hb, c0, c1, c2, c3, c4, h1, h2, h3⟩ := (Hl.out.ext hx).get k hlt
      have Hxk := Lib.hid hxk
      clear hxk
      have hc := Hp.out x (List.mem_of_getElem? Hxk.out) wr ka kn kc hx h1 h2 h3
      have Hc := Lib.hid hc
      clear hc
      cases hpx : p x with
      | true =>
        have Hpx := Lib.hid hpx
        rw [hpx] at Hc
        clear hpx
        go_wp2_with (go_at_call 123; refine Hc.out.mono ?_; rintro e w' ⟨rfl, hb⟩)
        go_ret
        exact ⟨ret_int (idxI_some Hxk.out Hpx.out Hall.out).symm, hx.trans (by assumption)⟩
      | false =>
        have Hpx := Lib.hid hpx
        rw [hpx] at Hc
        clear hpx
        go_wp2_with (go_at_call 123; refine Hc.out.mono ?_; rintro e w' ⟨rfl, hb⟩)
        go_roundw
        case rel => exact ⟨k + 1, by omega, by go_num, hx.trans (by assumption), fun j y hj hy => by
            rcases Nat.lt_or_ge j k with h | h
            · exact Hall.out j y h hy
            · have e : j = k := by omega
              subst e
              have := Hxk.out
              rw [hy] at this
              cases this
              exact Hpx.out⟩
        case measure => simp [intOf]; omega
    · go_wp2_with fail
      go_ret
      refine ⟨ret_int ?_, hx⟩
      refine (idxI_none (fun j y hy => Hall.out j y ?_ hy)).symm
      have h1 := Hl.out.1
      rcases Nat.lt_or_ge j l.length with h | h
      · omega
      · simp [List.getElem?_eq_none h] at hy

theorem contains_leg103 (a : Option Addr) (n cap q0 : Nat) (l : List Leg) (p : Leg → Bool) (w : World) (hl : LegsAt w a n l) (hn : n ≤ 1000000000)
    (hp : ∀ o, o ∈ l → ∀ W ka kn kc, Ext w W → kn ≤ kc → kc ≤ maxLen → GatesAt W ka kn o.gates → Calls Tryz.prog 123 #[.agg #[.int .i64 o.frm, .int .i64 o.to, .int .i64 o.long.lo, .int .i64 o.long.hi, .slice ka kn kc], .pointer (some ⟨q0, 0, none⟩)] W fun e W' => e = .returned (.bool (p o)) ∧ Ext W W') :
    Calls Tryz.prog 122 #[.slice a n cap, .func (.func 123) #[] #[.pointer (some ⟨q0, 0, none⟩)]] w fun e w' =>
      e = .returned (.bool (l.any p)) ∧ Ext w w' := by
  have Hc := Lib.hid (indexFunc_leg103 a n cap q0 l p w hl hn hp)
  clear hp hl
  go_enter Tryz.func122, Tryz.ntmps122
  go_wp2_with (go_at_call 127; refine Hc.out.mono ?_; rintro e w' ⟨rfl, hb⟩)
  go_ret
  exact ⟨ret_bool (idxI_ge p l), by assumption⟩

end Go.Proofs.YtcoelhpmkhimpaaGreat

/- Contracts of 'from' and 'ordered'. Printed by wip/tools/genfrom.py. -/
namespace Go.Proofs.YtcoelhpmkhimpaaGreat
open Go.RowKit
set_option linter.unusedVariables false
set_option linter.unusedSimpArgs false
theorem inB_not (x lo hi : Int) : (!inB x lo hi) = (decide (x < lo) || decide (hi < x)) := by
  unfold inB
  by_cases h1 : lo ≤ x <;> by_cases h2 : x ≤ hi <;> simp [h1, h2] <;> omega
theorem alloc_at (W : World) (o : Obj) (b : Nat) (hb : b = W.heap.size) : (W.alloc o).heap[b]? = some o := by rw [hb]; exact heap_alloc_new W o
/-- a slice of integers that has just been built -/
theorem ints_built {w : World} {b : Nat} {l : List Int} (hb : w.heap[b]? = some (.cells (l.map (Value.int .i64)).toArray 3 (0, 0))) : IntsAt .i64 w (some ⟨b, 0, none⟩) l.length l := by
  refine ⟨rfl, fun _ => ⟨b, 0, rfl, fun k hk j v hv => ?_⟩⟩
  cases j with
  | zero =>
    cases hv
    rw [cell_of_row w b _ _ 3 (0, 0) hb, List.getElem?_toArray]
    simp [List.getD, hk]
  | succ j => simp at hv
theorem spans_built {w : World} {b : Nat} {l : List Span} (hb : w.heap[b]? = some (.cells (l.flatMap Span.cells).toArray 27 (0, 0))) : SpansAt w (some ⟨b, 0, none⟩) l.length l := by
  refine ⟨rfl, fun _ => ⟨b, 0, rfl, fun k hk j v hv => ?_⟩⟩
  have hj : j < 2 := by have := (List.getElem?_eq_some_iff.1 hv).1; simpa [Span.cells] using this
  have key : ∀ (l : List Span) (k : Nat), k < l.length → (l.flatMap Span.cells)[k * 2 + j]? = (l.getD k zs).cells[j]? := by
    intro l
    induction l with
    | nil => intro k hk; simp at hk
    | cons x r ih =>
      intro k hk
      cases k with
      | zero =>
        simp only [List.flatMap_cons, Nat.zero_mul, Nat.zero_add]
        rw [List.getElem?_append_left (by simp [Span.cells]; omega)]
        rfl
      | succ k =>
        simp only [List.flatMap_cons]
        rw [List.getElem?_append_right (by simp [Span.cells]; omega)]
        have h2 := ih k (by simpa using hk)
        rw [show (k + 1) * 2 + j - x.cells.length = k * 2 + j by simp [Span.cells]; omega]
        simpa [List.getD] using h2
  rw [cell_of_row w b _ _ 27 (0, 0) hb, Nat.zero_add, List.getElem?_toArray, key l k hk]
  exact hv
theorem spanOk_not (s : Span) (lo hi : Int) : (!spanOk s lo hi) = (decide (s.hi < s.lo) || !(inB s.lo lo hi && inB s.hi lo hi)) := by
  unfold spanOk inB
  by_cases h1 : lo ≤ s.lo <;> by_cases h2 : s.lo ≤ s.hi <;> by_cases h3 : s.hi ≤ hi <;> by_cases h4 : s.hi < s.lo <;> by_cases h5 : s.lo ≤ hi <;> by_cases h6 : lo ≤ s.hi <;> simp [h1, h2, h3, h4, h5, h6] <;> omega

theorem fromFnW_any (x lo hi : Int) (c d : Nat) (w : World) (hc : w.cell? ⟨c, 0, none⟩ = some (.int .i64 lo)) (hd : w.cell? ⟨d, 0, none⟩ = some (.int .i64 hi)) :
    Calls Tryz.prog 111 #[.int .i64 x, .pointer (some ⟨c, 0, none⟩), .pointer (some ⟨d, 0, none⟩)] w fun e w' => e = .returned (.bool (!inB x lo hi)) ∧ Ext w w' := by
  rw [inB_not]
  by_cases h1 : x < lo
  · have b1 : decide (x < lo) = true := decide_eq_true h1
    go_enter Tryz.func111, Tryz.ntmps111
    go_wp2_with fail
    go_ret
    exact ⟨ret_bool (by rw [b1]; rfl), Ext.refl _⟩
  · have b1 : decide (x < lo) = false := decide_eq_false h1
    by_cases h2 : hi < x
    · have b2 : decide (hi < x) = true := decide_eq_true h2
      go_enter Tryz.func111, Tryz.ntmps111
      go_wp2_with fail
      go_ret
      exact ⟨rfl, Ext.refl _⟩
    · have b2 : decide (hi < x) = false := decide_eq_false h2
      go_enter Tryz.func111, Tryz.ntmps111
      go_wp2_with fail
      go_ret
      exact ⟨rfl, Ext.refl _⟩
theorem fromW_any (lo hi : Int) (a : Option Addr) (n cap : Nat) (l : List Int) (w : World) (hl : IntsAt .i64 w a n l) (hn : n ≤ 1000) :
    Calls Tryz.prog 79 #[.int .i64 lo, .int .i64 hi, .slice a n cap] w fun e w' => e = .returned (.bool (l.all fun x => inB x lo hi)) ∧ Ext w w' := by
  have hx1 : Ext w ((w.alloc (.cells #[.int .i64 lo] 3)).alloc (.cells #[.int .i64 hi] 3)) := ((Ext.refl _).alloc _).alloc _
  have hb1 := heap_alloc_new w (.cells #[.int .i64 lo] 3)
  have hb2 := heap_alloc_new (w.alloc (.cells #[.int .i64 lo] 3)) (.cells #[.int .i64 hi] 3)
  rw [show (w.alloc (.cells #[.int .i64 lo] 3)).heap.size = w.heap.size + 1 by simp] at hb2
  have hb1' := ((Ext.refl (w.alloc (.cells #[.int .i64 lo] 3))).alloc (.cells #[.int .i64 hi] 3)).heap hb1
  have c1 := ((Ext.refl _).box hb1').1 0
  have c2 := ((Ext.refl _).box hb2).1 0
  have hc := contains_int94 a n cap w.heap.size (w.heap.size + 1) l (fun x => !inB x lo hi) _ (hl.ext hx1) (by omega) (fun o _ W hW => fromFnW_any o lo hi _ _ W (hW.cell c1) (hW.cell c2))
  have Hc := Lib.hid hc
  have Hx1 := Lib.hid hx1
  clear hc hx1
  clear hl hb1 hb2 hb1' c1 c2
  go_enter Tryz.func79, Tryz.ntmps79
  go_wp2_with (go_at_call 82; refine Hc.out.mono ?_; rintro e w3 ⟨rfl, hx3⟩)
  go_ret
  exact ⟨ret_bool (any_not (fun x => inB x lo hi) l), Hx1.out.trans hx3⟩
theorem fromW1 {lo hi x : Int} {r : Bool} {w : World} {b : Nat} (hb : w.heap[b]? = some (.cells #[.int .i64 x] 3 (0, 0))) (hr : inB x lo hi = r) : Calls Tryz.prog 79 #[.int .i64 lo, .int .i64 hi, .slice (some ⟨b, 0, none⟩) 1 1] w fun e w' => e = .returned (.bool r) ∧ Ext w w' := by
  have := fromW_any lo hi (some ⟨b, 0, none⟩) 1 1 [x] w (ints_built (l := [x]) hb) (by omega)
  subst hr
  simpa using this
theorem fromW2 {lo hi x y : Int} {r : Bool} {w : World} {b : Nat} (hb : w.heap[b]? = some (.cells #[.int .i64 x, .int .i64 y] 3 (0, 0))) (hr : (inB x lo hi && inB y lo hi) = r) : Calls Tryz.prog 79 #[.int .i64 lo, .int .i64 hi, .slice (some ⟨b, 0, none⟩) 2 2] w fun e w' => e = .returned (.bool r) ∧ Ext w w' := by
  have := fromW_any lo hi (some ⟨b, 0, none⟩) 2 2 [x, y] w (ints_built (l := [x, y]) hb) (by omega)
  subst hr
  simpa using this
theorem ordFnW_any (s : Span) (lo hi : Int) (c d : Nat) (w : World) (hc : w.cell? ⟨c, 0, none⟩ = some (.int .i64 lo)) (hd : w.cell? ⟨d, 0, none⟩ = some (.int .i64 hi)) :
    Calls Tryz.prog 125 #[s.val, .pointer (some ⟨c, 0, none⟩), .pointer (some ⟨d, 0, none⟩)] w fun e w' => e = .returned (.bool (!spanOk s lo hi)) ∧ Ext w w' := by
  obtain ⟨a, b⟩ := s
  rw [spanOk_not]
  unfold Span.val
  simp only
  have hcb : c < w.heap.size := block_lt_of_cell hc
  have hdb : d < w.heap.size := block_lt_of_cell hd
  by_cases h1 : b < a
  · have b1 : decide (b < a) = true := decide_eq_true h1
    go_enter Tryz.func125, Tryz.ntmps125
    go_wp2_with fail
    go_ret
    exact ⟨ret_bool (by rw [b1]; rfl), (Ext.refl _).alloc _⟩
  · have b1 : decide (b < a) = false := decide_eq_false h1
    obtain ⟨P, hP⟩ : ∃ P, (inB a lo hi && inB b lo hi) = P := ⟨_, rfl⟩
    rw [b1, hP]
    have HP := Lib.hid hP
    clear hP h1
    go_enter Tryz.func125, Tryz.ntmps125
    go_wp2_with (go_at_call 79; refine (fromW2 (alloc_at _ _ _ (by simp)) HP.out).mono ?_; rintro e w3 ⟨rfl, hx3⟩)
    go_ret
    exact ⟨rfl, (((Ext.refl _).alloc _).alloc _).trans hx3⟩
theorem ordW_any (lo hi : Int) (a : Option Addr) (n cap : Nat) (l : List Span) (w : World) (hl : SpansAt w a n l) (hn : n ≤ 1000) :
    Calls Tryz.prog 110 #[.int .i64 lo, .int .i64 hi, .slice a n cap] w fun e w' => e = .returned (.bool (l.all fun x => spanOk x lo hi)) ∧ Ext w w' := by
  have hx1 : Ext w ((w.alloc (.cells #[.int .i64 lo] 3)).alloc (.cells #[.int .i64 hi] 3)) := ((Ext.refl _).alloc _).alloc _
  have hb1 := heap_alloc_new w (.cells #[.int .i64 lo] 3)
  have hb2 := heap_alloc_new (w.alloc (.cells #[.int .i64 lo] 3)) (.cells #[.int .i64 hi] 3)
  rw [show (w.alloc (.cells #[.int .i64 lo] 3)).heap.size = w.heap.size + 1 by simp] at hb2
  have hb1' := ((Ext.refl (w.alloc (.cells #[.int .i64 lo] 3))).alloc (.cells #[.int .i64 hi] 3)).heap hb1
  have c1 := ((Ext.refl _).box hb1').1 0
  have c2 := ((Ext.refl _).box hb2).1 0
  have hc := contains_span133 a n cap w.heap.size (w.heap.size + 1) l (fun x => !spanOk x lo hi) _ (hl.ext hx1) (by omega) (fun o _ W hW => ordFnW_any o lo hi _ _ W (hW.cell c1) (hW.cell c2))
  have Hc := Lib.hid hc
  have Hx1 := Lib.hid hx1
  clear hc hx1
  clear hl hb1 hb2 hb1' c1 c2
  go_enter Tryz.func110, Tryz.ntmps110
  go_wp2_with (go_at_call 98; refine Hc.out.mono ?_; rintro e w3 ⟨rfl, hx3⟩)
  go_ret
  exact ⟨ret_bool (any_not (fun x => spanOk x lo hi) l), Hx1.out.trans hx3⟩
theorem ordW1 {lo hi x0 x1 : Int} {r : Bool} {w : World} {b : Nat} (hb : w.heap[b]? = some (.cells #[.int .i64 x0, .int .i64 x1] 27 (0, 0))) (hr : spanOk ⟨x0, x1⟩ lo hi = r) : Calls Tryz.prog 110 #[.int .i64 lo, .int .i64 hi, .slice (some ⟨b, 0, none⟩) 1 1] w fun e w' => e = .returned (.bool r) ∧ Ext w w' := by
  have := ordW_any lo hi (some ⟨b, 0, none⟩) 1 1 [⟨x0, x1⟩] w (spans_built (l := [⟨x0, x1⟩]) hb) (by omega)
  subst hr
  simpa using this
theorem ordW2 {lo hi x0 x1 y0 y1 : Int} {r : Bool} {w : World} {b : Nat} (hb : w.heap[b]? = some (.cells #[.int .i64 x0, .int .i64 x1, .int .i64 y0, .int .i64 y1] 27 (0, 0))) (hr : (spanOk ⟨x0, x1⟩ lo hi && spanOk ⟨y0, y1⟩ lo hi) = r) : Calls Tryz.prog 110 #[.int .i64 lo, .int .i64 hi, .slice (some ⟨b, 0, none⟩) 2 2] w fun e w' => e = .returned (.bool r) ∧ Ext w w' := by
  have := ordW_any lo hi (some ⟨b, 0, none⟩) 2 2 [⟨x0, x1⟩, ⟨y0, y1⟩] w (spans_built (l := [⟨x0, x1⟩, ⟨y0, y1⟩]) hb) (by omega)
  subst hr
  simpa using this


theorem fromFnC_any (x lo hi : Int) (c d : Nat) (w : World) (hc : w.cell? ⟨c, 0, none⟩ = some (.int .i64 lo)) (hd : w.cell? ⟨d, 0, none⟩ = some (.int .i64 hi)) :
    Calls Tryz.prog 115 #[.int .i64 x, .pointer (some ⟨c, 0, none⟩), .pointer (some ⟨d, 0, none⟩)] w fun e w' => e = .returned (.bool (!inB x lo hi)) ∧ Ext w w' := by
  rw [inB_not]
  by_cases h1 : x < lo
  · have b1 : decide (x < lo) = true := decide_eq_true h1
    go_enter Tryz.func115, Tryz.ntmps115
    go_wp2_with fail
    go_ret
    exact ⟨ret_bool (by rw [b1]; rfl), Ext.refl _⟩
  · have b1 : decide (x < lo) = false := decide_eq_false h1
    by_cases h2 : hi < x
    · have b2 : decide (hi < x) = true := decide_eq_true h2
      go_enter Tryz.func115, Tryz.ntmps115
      go_wp2_with fail
      go_ret
      exact ⟨rfl, Ext.refl _⟩
    · have b2 : decide (hi < x) = false := decide_eq_false h2
      go_enter Tryz.func115, Tryz.ntmps115
      go_wp2_with fail
      go_ret
      exact ⟨rfl, Ext.refl _⟩
theorem fromC_any (lo hi : Int) (a : Option Addr) (n cap : Nat) (l : List Int) (w : World) (hl : IntsAt .i64 w a n l) (hn : n ≤ 1000) :
    Calls Tryz.prog 92 #[.int .i64 lo, .int .i64 hi, .slice a n cap] w fun e w' => e = .returned (.bool (l.all fun x => inB x lo hi)) ∧ Ext w w' := by
  have hx1 : Ext w ((w.alloc (.cells #[.int .i64 lo] 3)).alloc (.cells #[.int .i64 hi] 3)) := ((Ext.refl _).alloc _).alloc _
  have hb1 := heap_alloc_new w (.cells #[.int .i64 lo] 3)
  have hb2 := heap_alloc_new (w.alloc (.cells #[.int .i64 lo] 3)) (.cells #[.int .i64 hi] 3)
  rw [show (w.alloc (.cells #[.int .i64 lo] 3)).heap.size = w.heap.size + 1 by simp] at hb2
  have hb1' := ((Ext.refl (w.alloc (.cells #[.int .i64 lo] 3))).alloc (.cells #[.int .i64 hi] 3)).heap hb1
  have c1 := ((Ext.refl _).box hb1').1 0
  have c2 := ((Ext.refl _).box hb2).1 0
  have hc := contains_int111 a n cap w.heap.size (w.heap.size + 1) l (fun x => !inB x lo hi) _ (hl.ext hx1) (by omega) (fun o _ W hW => fromFnC_any o lo hi _ _ W (hW.cell c1) (hW.cell c2))
  have Hc := Lib.hid hc
  have Hx1 := Lib.hid hx1
  clear hc hx1
  clear hl hb1 hb2 hb1' c1 c2
  go_enter Tryz.func92, Tryz.ntmps92
  go_wp2_with (go_at_call 82; refine Hc.out.mono ?_; rintro e w3 ⟨rfl, hx3⟩)
  go_ret
  exact ⟨ret_bool (any_not (fun x => inB x lo hi) l), Hx1.out.trans hx3⟩
theorem fromC1 {lo hi x : Int} {r : Bool} {w : World} {b : Nat} (hb : w.heap[b]? = some (.cells #[.int .i64 x] 3 (0, 0))) (hr : inB x lo hi = r) : Calls Tryz.prog 92 #[.int .i64 lo, .int .i64 hi, .slice (some ⟨b, 0, none⟩) 1 1] w fun e w' => e = .returned (.bool r) ∧ Ext w w' := by
  have := fromC_any lo hi (some ⟨b, 0, none⟩) 1 1 [x] w (ints_built (l := [x]) hb) (by omega)
  subst hr
  simpa using this
theorem fromC2 {lo hi x y : Int} {r : Bool} {w : World} {b : Nat} (hb : w.heap[b]? = some (.cells #[.int .i64 x, .int .i64 y] 3 (0, 0))) (hr : (inB x lo hi && inB y lo hi) = r) : Calls Tryz.prog 92 #[.int .i64 lo, .int .i64 hi, .slice (some ⟨b, 0, none⟩) 2 2] w fun e w' => e = .returned (.bool r) ∧ Ext w w' := by
  have := fromC_any lo hi (some ⟨b, 0, none⟩) 2 2 [x, y] w (ints_built (l := [x, y]) hb) (by omega)
  subst hr
  simpa using this
theorem ordFnC_any (s : Span) (lo hi : Int) (c d : Nat) (w : World) (hc : w.cell? ⟨c, 0, none⟩ = some (.int .i64 lo)) (hd : w.cell? ⟨d, 0, none⟩ = some (.int .i64 hi)) :
    Calls Tryz.prog 114 #[s.val, .pointer (some ⟨c, 0, none⟩), .pointer (some ⟨d, 0, none⟩)] w fun e w' => e = .returned (.bool (!spanOk s lo hi)) ∧ Ext w w' := by
  obtain ⟨a, b⟩ := s
  rw [spanOk_not]
  unfold Span.val
  simp only
  have hcb : c < w.heap.size := block_lt_of_cell hc
  have hdb : d < w.heap.size := block_lt_of_cell hd
  by_cases h1 : b < a
  · have b1 : decide (b < a) = true := decide_eq_true h1
    go_enter Tryz.func114, Tryz.ntmps114
    go_wp2_with fail
    go_ret
    exact ⟨ret_bool (by rw [b1]; rfl), (Ext.refl _).alloc _⟩
  · have b1 : decide (b < a) = false := decide_eq_false h1
    obtain ⟨P, hP⟩ : ∃ P, (inB a lo hi && inB b lo hi) = P := ⟨_, rfl⟩
    rw [b1, hP]
    have HP := Lib.hid hP
    clear hP h1
    go_enter Tryz.func114, Tryz.ntmps114
    go_wp2_with (go_at_call 92; refine (fromC2 (alloc_at _ _ _ (by simp)) HP.out).mono ?_; rintro e w3 ⟨rfl, hx3⟩)
    go_ret
    exact ⟨rfl, (((Ext.refl _).alloc _).alloc _).trans hx3⟩
theorem ordC_any (lo hi : Int) (a : Option Addr) (n cap : Nat) (l : List Span) (w : World) (hl : SpansAt w a n l) (hn : n ≤ 1000) :
    Calls Tryz.prog 91 #[.int .i64 lo, .int .i64 hi, .slice a n cap] w fun e w' => e = .returned (.bool (l.all fun x => spanOk x lo hi)) ∧ Ext w w' := by
  have hx1 : Ext w ((w.alloc (.cells #[.int .i64 lo] 3)).alloc (.cells #[.int .i64 hi] 3)) := ((Ext.refl _).alloc _).alloc _
  have hb1 := heap_alloc_new w (.cells #[.int .i64 lo] 3)
  have hb2 := heap_alloc_new (w.alloc (.cells #[.int .i64 lo] 3)) (.cells #[.int .i64 hi] 3)
  rw [show (w.alloc (.cells #[.int .i64 lo] 3)).heap.size = w.heap.size + 1 by simp] at hb2
  have hb1' := ((Ext.refl (w.alloc (.cells #[.int .i64 lo] 3))).alloc (.cells #[.int .i64 hi] 3)).heap hb1
  have c1 := ((Ext.refl _).box hb1').1 0
  have c2 := ((Ext.refl _).box hb2).1 0
  have hc := contains_span113 a n cap w.heap.size (w.heap.size + 1) l (fun x => !spanOk x lo hi) _ (hl.ext hx1) (by omega) (fun o _ W hW => ordFnC_any o lo hi _ _ W (hW.cell c1) (hW.cell c2))
  have Hc := Lib.hid hc
  have Hx1 := Lib.hid hx1
  clear hc hx1
  clear hl hb1 hb2 hb1' c1 c2
  go_enter Tryz.func91, Tryz.ntmps91
  go_wp2_with (go_at_call 98; refine Hc.out.mono ?_; rintro e w3 ⟨rfl, hx3⟩)
  go_ret
  exact ⟨ret_bool (any_not (fun x => spanOk x lo hi) l), Hx1.out.trans hx3⟩
theorem ordC1 {lo hi x0 x1 : Int} {r : Bool} {w : World} {b : Nat} (hb : w.heap[b]? = some (.cells #[.int .i64 x0, .int .i64 x1] 27 (0, 0))) (hr : spanOk ⟨x0, x1⟩ lo hi = r) : Calls Tryz.prog 91 #[.int .i64 lo, .int .i64 hi, .slice (some ⟨b, 0, none⟩) 1 1] w fun e w' => e = .returned (.bool r) ∧ Ext w w' := by
  have := ordC_any lo hi (some ⟨b, 0, none⟩) 1 1 [⟨x0, x1⟩] w (spans_built (l := [⟨x0, x1⟩]) hb) (by omega)
  subst hr
  simpa using this
theorem ordC2 {lo hi x0 x1 y0 y1 : Int} {r : Bool} {w : World} {b : Nat} (hb : w.heap[b]? = some (.cells #[.int .i64 x0, .int .i64 x1, .int .i64 y0, .int .i64 y1] 27 (0, 0))) (hr : (spanOk ⟨x0, x1⟩ lo hi && spanOk ⟨y0, y1⟩ lo hi) = r) : Calls Tryz.prog 91 #[.int .i64 lo, .int .i64 hi, .slice (some ⟨b, 0, none⟩) 2 2] w fun e w' => e = .returned (.bool r) ∧ Ext w w' := by
  have := ordC_any lo hi (some ⟨b, 0, none⟩) 2 2 [⟨x0, x1⟩, ⟨y0, y1⟩] w (spans_built (l := [⟨x0, x1⟩, ⟨y0, y1⟩]) hb) (by omega)
  subst hr
  simpa using this

end Go.Proofs.YtcoelhpmkhimpaaGreat
