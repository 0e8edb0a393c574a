/- What a world keeps when blocks are only added ('Ext'); rows of cells; slices of structs read as lists. No function of the program is named here. -/
import Derived.Test.YtkbhmajcddmhnaaRows
import Derived.WalkKit
import Derived.WalkSpells
import Derived.Lib.Hide
import Derived.Deep.QuietTactic
import Derived.BigQuiet
import Derived.Lib.QuietBelow
import Derived.Shelf.Abstract
namespace Go.Proofs.Ytkbhmajcddmhnaa
open Go.RowKit
set_option linter.unusedVariables false

/-- Nothing that was there has changed; blocks may have been added. -/
def Ext (w w' : World) : Prop := Below w.heap.size w w'
theorem Ext.refl (w : World) : Ext w w := Below.refl _ _
theorem Ext.trans {a b c : World} (h : Ext a b) (k : Ext b c) : Ext a c := Below.trans h (Below.mono k h.size)
theorem Ext.alloc {a b : World} (h : Ext a b) (o : Obj) : Ext a (b.alloc o) := Below.alloc h h.size o
theorem Ext.drew {a b : World} (h : Ext a b) : Ext a b.drew := Below.drew h
theorem Ext.drewN {a b : World} (h : Ext a b) (n : Nat) : Ext a (b.drewN n) := ⟨h.os, h.tape, h.output, h.size, h.block⟩
theorem Ext.setCell {a b : World} (h : Ext a b) {p : Addr} (hp : a.heap.size ≤ p.block) (v : Value) : Ext a (b.setCell p v) := Below.setCell h hp v
theorem Ext.facts {W w1 : World} (hb : Ext W w1) : (∀ b o, b < W.heap.size → w1.cell? ⟨b, o, none⟩ = W.cell? ⟨b, o, none⟩) ∧ (∀ b o, b < W.heap.size → w1.frozen? ⟨b, o, none⟩ = W.frozen? ⟨b, o, none⟩) ∧ W.heap.size ≤ w1.heap.size :=
  ⟨fun b o h => Below.cell hb (p := ⟨b, o, none⟩) h, fun b o h => Below.frozen hb (p := ⟨b, o, none⟩) h, hb.size⟩
theorem Ext.cell {w w' : World} (h : Ext w w') {p : Addr} {v : Value} (hc : w.cell? p = some v) : w'.cell? p = some v := (Below.cell h (block_lt_of_cell hc)).trans hc
theorem Ext.heap {w w' : World} (h : Ext w w') {b : Nat} {o : Obj} (hc : w.heap[b]? = some o) : w'.heap[b]? = some o :=
  (Below.block h b (Array.getElem?_eq_some_iff.1 hc).1).trans hc

/-- a block of cells, still as it was -/
theorem Ext.box {w w' : World} (h : Ext w w') {b : Nat} {cs : Array Value} {t : TypeId} (hb : w.heap[b]? = some (.cells cs t (0, 0))) : (∀ j, w'.cell? ⟨b, j, none⟩ = cs[j]?) ∧ ∀ j, w'.frozen? ⟨b, j, none⟩ = false :=
  ⟨fun j => cell_of_row w' b j cs t (0, 0) (h.heap hb), fun j => frozen_of_row w' b j cs t (h.heap hb)⟩

theorem below_drawn (w : World) : Below w.heap.size w { w with drawn := w.drawn + 1 } := (Below.refl _ w).drew
theorem wpQuiet_weaken {P : Program} {ops : Array Oper} {C : World → Prop} {Q Q' : Act → Prop} (hq : ∀ a, Q a → Q' a) : ∀ {l : List Oper} {a : Act}, wpQuiet P ops C Q l a → wpQuiet P ops C Q' l a
  | [], a, h => hq a h
  | o :: rest, a, h => by
    unfold wpQuiet at *
    split
    · rename_i hw; rw [if_pos hw] at h
      exact Oper.quiet_mono (fun _ h => wpQuiet_weaken hq h) h
    · rename_i hw; rw [if_neg hw] at h
      exact wpQuiet_weaken hq h
/-- A REGION THAT DRAWS ITS ORDER, whose operations only read and whose calls only add blocks: walked once, in the order of the text; the class of worlds is named by a function f that is not looked into. -/
theorem wp_region_ext {P : Program} {id : Nat} {Q : Exit → Act → World → Prop} {a : Act} {w : World} {l : List Oper} (hm : P.follows .mixedOrders = true) (hB : Region.lexB .any l.toArray = true)
    (h : ∀ f : Regrown → World, (∀ p, Ext w (f p)) → (∀ W, Ext w W → ∃ p, W = f p) → wpQuiet P l.toArray (fun w' => ∃ p, w' = f p) (fun a' => ∀ W, Ext w W → Q .normal a' W) l a) : (Code.region id l.toArray true).wp P Q a w := by
  have hb : ∀ p : Regrown, Ext w (Sort.grow (redrawn w p.d) p.os) := fun p => below_regrown w p.d p.os
  have h' := h (fun p => Sort.grow (redrawn w p.d) p.os) hb (fun W hW => regrown_of_below hW)
  refine wp_region_quiet (C := fun w' => ∃ p : Regrown, w' = Sort.grow (redrawn w p.d) p.os) hm hB (regrown_of_below (below_drawn w)) ?_
  rw [List.toList_toArray]
  refine wpQuiet_weaken ?_ h'
  rintro a' hq W ⟨p, rfl⟩
  exact hq _ (hb p)
/-- A call in such a region. -/
theorem Calls.ext_of {P : Program} {g : FuncId} {args : Array Value} {w : World} {f : Regrown → World} {v : Value} {W : World} (h1 : Ext w W) (h2 : ∀ W, Ext w W → ∃ p, W = f p)
    (h : Calls P g args W fun e w' => e = .returned v ∧ Ext W w') : Calls P g args W fun e w' => e = .returned v ∧ ∃ p, w' = f p :=
  h.mono fun _ _ ⟨he, hb⟩ => ⟨he, h2 _ (h1.trans hb)⟩

/-- The cells from b, o on hold these values. -/
def Cells (w : World) (b o : Nat) (vs : List Value) : Prop := ∀ j v, vs[j]? = some v → w.cell? ⟨b, o + j, none⟩ = some v
theorem Cells.ext {w w' : World} {b o : Nat} {vs : List Value} (h : Cells w b o vs) (e : Ext w w') : Cells w' b o vs := fun j v hv => e.cell (h j v hv)

/-- n rows of 'sz' cells each. -/
def SlAt (w : World) (sz : Nat) (a : Option Addr) (n : Nat) (f : Nat → List Value) : Prop :=
  0 < n → ∃ b off, a = some ⟨b, off, none⟩ ∧ ∀ k, k < n → Cells w b (off + k * sz) (f k)
theorem SlAt.ext {w w' : World} {sz : Nat} {a : Option Addr} {n : Nat} {f : Nat → List Value} (h : SlAt w sz a n f) (e : Ext w w') : SlAt w' sz a n f :=
  fun hn => let ⟨b, off, ha, hc⟩ := h hn; ⟨b, off, ha, fun k hk => (hc k hk).ext e⟩

theorem SlAt.same {w w' : World} {sz : Nat} {a : Option Addr} {n : Nat} {f : Nat → List Value} (h : SlAt w sz a n f) (hb : ∀ x, a = some x → w'.heap[x.block]? = w.heap[x.block]?) : SlAt w' sz a n f :=
  fun hn => let ⟨b, off, ha, hc⟩ := h hn; ⟨b, off, ha, fun k hk j v hv => (World.cell?_of_block (w := w) (a := ⟨b, off + k * sz + j, none⟩) (hb ⟨b, off, none⟩ ha)).trans (hc k hk j v hv)⟩
/-- an address from block B on, if any -/
def From (B : Nat) (a : Option Addr) : Prop := ∀ x, a = some x → B ≤ x.block
theorem From.none (B : Nat) : From B none := fun x h => by cases h
theorem From.mono {B C : Nat} {a : Option Addr} (h : From B a) (hc : C ≤ B) : From C a := fun x hx => Nat.le_trans hc (h x hx)

/-! ### the data of layer 6 -/
structure Span where
  lo : Int
  hi : Int
  deriving DecidableEq
structure Offer where
  place : Int
  give : Int
  get : Int
  units : Int
  lo : Int
  hi : Int
  from_ : Int
  to : Int
  deriving DecidableEq
def Span.cells (s : Span) : List Value := [.int .i64 s.lo, .int .i64 s.hi]
def Span.val (s : Span) : Value := .agg #[.int .i64 s.lo, .int .i64 s.hi]
def Offer.cells (o : Offer) : List Value := [.int .i64 o.place, .int .i64 o.give, .int .i64 o.get, .int .i64 o.units, .int .i64 o.lo, .int .i64 o.hi, .int .i64 o.from_, .int .i64 o.to]
def Offer.val (o : Offer) : Value := .agg #[.int .i64 o.place, .int .i64 o.give, .int .i64 o.get, .int .i64 o.units, .int .i64 o.lo, .int .i64 o.hi, .int .i64 o.from_, .int .i64 o.to]
structure Fair where
  place : Int
  day : Int
  keeps : List Span
  deriving DecidableEq

/-- a slice of integers of a kind -/
def IntsAt (k : IntKind) (w : World) (a : Option Addr) (n : Nat) (l : List Int) : Prop := l.length = n ∧ SlAt w 1 a n fun i => [.int k (l.getD i 0)]
def SpansAt (w : World) (a : Option Addr) (n : Nat) (l : List Span) : Prop := l.length = n ∧ SlAt w 2 a n fun i => (l.getD i ⟨0, 0⟩).cells
def OffersAt (w : World) (a : Option Addr) (n : Nat) (l : List Offer) : Prop := l.length = n ∧ SlAt w 8 a n fun i => (l.getD i ⟨0, 0, 0, 0, 0, 0, 0, 0⟩).cells
def FairsAt (w : World) (a : Option Addr) (n : Nat) (l : List Fair) : Prop :=
  l.length = n ∧ (0 < n → ∃ b off, a = some ⟨b, off, none⟩ ∧ ∀ k f, l[k]? = some f → ∃ ka kn kc, Cells w b (off + k * 3) [.int .i64 f.place, .int .i64 f.day, .slice ka kn kc] ∧ kn ≤ kc ∧ kc ≤ maxLen ∧ SpansAt w ka kn f.keeps)
/-- a slice of slices of integers -/
def RowsAt (w : World) (a : Option Addr) (n : Nat) (l : List (List Int)) : Prop :=
  l.length = n ∧ (0 < n → ∃ b off, a = some ⟨b, off, none⟩ ∧ ∀ k r, l[k]? = some r → ∃ ka kn kc, Cells w b (off + k * 1) [.slice ka kn kc] ∧ kn ≤ kc ∧ kc ≤ maxLen ∧ IntsAt .i64 w ka kn r)

theorem IntsAt.ext {k : IntKind} {w w' : World} {a : Option Addr} {n : Nat} {l : List Int} (h : IntsAt k w a n l) (e : Ext w w') : IntsAt k w' a n l := ⟨h.1, h.2.ext e⟩
theorem IntsAt.same {k : IntKind} {w w' : World} {a : Option Addr} {n : Nat} {l : List Int} (h : IntsAt k w a n l) (hb : ∀ x, a = some x → w'.heap[x.block]? = w.heap[x.block]?) : IntsAt k w' a n l := ⟨h.1, h.2.same hb⟩
theorem SpansAt.ext {w w' : World} {a : Option Addr} {n : Nat} {l : List Span} (h : SpansAt w a n l) (e : Ext w w') : SpansAt w' a n l := ⟨h.1, h.2.ext e⟩
theorem OffersAt.ext {w w' : World} {a : Option Addr} {n : Nat} {l : List Offer} (h : OffersAt w a n l) (e : Ext w w') : OffersAt w' a n l := ⟨h.1, h.2.ext e⟩
theorem FairsAt.ext {w w' : World} {a : Option Addr} {n : Nat} {l : List Fair} (h : FairsAt w a n l) (e : Ext w w') : FairsAt w' a n l :=
  ⟨h.1, fun hn => let ⟨b, off, ha, hc⟩ := h.2 hn; ⟨b, off, ha, fun k f hf => let ⟨ka, kn, kc, h1, h2, h3, h4⟩ := hc k f hf; ⟨ka, kn, kc, h1.ext e, h2, h3, h4.ext e⟩⟩⟩
theorem RowsAt.ext {w w' : World} {a : Option Addr} {n : Nat} {l : List (List Int)} (h : RowsAt w a n l) (e : Ext w w') : RowsAt w' a n l :=
  ⟨h.1, fun hn => let ⟨b, off, ha, hc⟩ := h.2 hn; ⟨b, off, ha, fun k f hf => let ⟨ka, kn, kc, h1, h2, h3, h4⟩ := hc k f hf; ⟨ka, kn, kc, h1.ext e, h2, h3, h4.ext e⟩⟩⟩

theorem IntsAt.get {q : IntKind} {w : World} {a : Option Addr} {n : Nat} {l : List Int} (h : IntsAt q w a n l) (k : Nat) (hk : k < n) :
    ∃ b off x, a = some ⟨b, off, none⟩ ∧ l[k]? = some x ∧ b < w.heap.size ∧ w.cell? ⟨b, off + k, none⟩ = some (.int q x) := by
  obtain ⟨hl, h⟩ := h
  obtain ⟨b, off, ha, hc⟩ := h (by omega)
  have h0 := hc k hk 0 _ rfl
  simp only [Nat.mul_one, Nat.add_zero] at h0
  exact ⟨b, off, _, ha, by simp [List.getD, hl, hk], block_lt_of_cell h0, h0⟩
theorem SpansAt.get {w : World} {a : Option Addr} {n : Nat} {l : List Span} (h : SpansAt w a n l) (k : Nat) (hk : k < n) :
    ∃ b off x, a = some ⟨b, off, none⟩ ∧ l[k]? = some x ∧ b < w.heap.size ∧ w.cell? ⟨b, off + k * 2, none⟩ = some (.int .i64 x.lo) ∧ w.cell? ⟨b, off + k * 2 + 1, none⟩ = some (.int .i64 x.hi) := by
  obtain ⟨hl, h⟩ := h
  obtain ⟨b, off, ha, hc⟩ := h (by omega)
  have h0 := hc k hk 0 _ rfl
  have h1 := hc k hk 1 _ rfl
  simp only [Nat.add_zero] at h0
  exact ⟨b, off, _, ha, by simp [List.getD, hl, hk], block_lt_of_cell h0, h0, h1⟩
theorem OffersAt.get {w : World} {a : Option Addr} {n : Nat} {l : List Offer} (h : OffersAt w a n l) (k : Nat) (hk : k < n) :
    ∃ b off x, a = some ⟨b, off, none⟩ ∧ l[k]? = some x ∧ b < w.heap.size ∧ w.cell? ⟨b, off + k * 8, none⟩ = some (.int .i64 x.place) ∧ w.cell? ⟨b, off + k * 8 + 1, none⟩ = some (.int .i64 x.give)
      ∧ w.cell? ⟨b, off + k * 8 + 2, none⟩ = some (.int .i64 x.get) ∧ w.cell? ⟨b, off + k * 8 + 3, none⟩ = some (.int .i64 x.units) ∧ w.cell? ⟨b, off + k * 8 + 4, none⟩ = some (.int .i64 x.lo)
      ∧ w.cell? ⟨b, off + k * 8 + 5, none⟩ = some (.int .i64 x.hi) ∧ w.cell? ⟨b, off + k * 8 + 6, none⟩ = some (.int .i64 x.from_) ∧ w.cell? ⟨b, off + k * 8 + 7, none⟩ = some (.int .i64 x.to) := by
  obtain ⟨hl, h⟩ := h
  obtain ⟨b, off, ha, hc⟩ := h (by omega)
  have h0 := hc k hk 0 _ rfl
  simp only [Nat.add_zero] at h0
  exact ⟨b, off, _, ha, by simp [List.getD, hl, hk], block_lt_of_cell h0, h0, hc k hk 1 _ rfl, hc k hk 2 _ rfl, hc k hk 3 _ rfl, hc k hk 4 _ rfl, hc k hk 5 _ rfl, hc k hk 6 _ rfl, hc k hk 7 _ rfl⟩
theorem FairsAt.get {w : World} {a : Option Addr} {n : Nat} {l : List Fair} (h : FairsAt w a n l) (k : Nat) (hk : k < n) :
    ∃ b off x ka kn kc, a = some ⟨b, off, none⟩ ∧ l[k]? = some x ∧ b < w.heap.size ∧ w.cell? ⟨b, off + k * 3, none⟩ = some (.int .i64 x.place) ∧ w.cell? ⟨b, off + k * 3 + 1, none⟩ = some (.int .i64 x.day)
      ∧ w.cell? ⟨b, off + k * 3 + 2, none⟩ = some (.slice ka kn kc) ∧ kn ≤ kc ∧ kc ≤ maxLen ∧ SpansAt w ka kn x.keeps := by
  obtain ⟨hl, h⟩ := h
  obtain ⟨b, off, ha, hc⟩ := h (by omega)
  obtain ⟨x, hx⟩ : ∃ x, l[k]? = some x := ⟨l[k], by simp⟩
  obtain ⟨ka, kn, kc, h1, h2, h3, h4⟩ := hc k x hx
  have h0 := h1 0 _ rfl
  simp only [Nat.add_zero] at h0
  exact ⟨b, off, x, ka, kn, kc, ha, hx, block_lt_of_cell h0, h0, h1 1 _ rfl, h1 2 _ rfl, h2, h3, h4⟩
theorem RowsAt.get {w : World} {a : Option Addr} {n : Nat} {l : List (List Int)} (h : RowsAt w a n l) (k : Nat) (hk : k < n) :
    ∃ b off x ka kn kc, a = some ⟨b, off, none⟩ ∧ l[k]? = some x ∧ b < w.heap.size ∧ w.cell? ⟨b, off + k, none⟩ = some (.slice ka kn kc) ∧ kn ≤ kc ∧ kc ≤ maxLen ∧ IntsAt .i64 w ka kn x := by
  obtain ⟨hl, h⟩ := h
  obtain ⟨b, off, ha, hc⟩ := h (by omega)
  obtain ⟨x, hx⟩ : ∃ x, l[k]? = some x := ⟨l[k], by simp⟩
  obtain ⟨ka, kn, kc, h1, h2, h3, h4⟩ := hc k x hx
  have h0 := h1 0 _ rfl
  simp only [Nat.mul_one, Nat.add_zero] at h0
  exact ⟨b, off, x, ka, kn, kc, ha, hx, block_lt_of_cell h0, h0, h2, h3, h4⟩

/-! ### plain words -/
def inB (n lo hi : Int) : Bool := decide (lo ≤ n) && decide (n ≤ hi)
def properB (a b lo hi : Int) : Bool := decide (lo ≤ a) && decide (a ≤ b) && decide (b ≤ hi)
def Offer.valid (o : Offer) : Bool :=
  inB o.place 0 9999 && inB o.give 0 4 && inB o.get 0 4 && o.give != o.get && inB o.units 1 50 && properB o.lo o.hi 1 50 && properB o.from_ o.to 0 100000
def Span.part (s : Span) : Bool := properB s.lo s.hi 0 1000
def Fair.valid (f : Fair) : Bool := inB f.place 0 9999 && inB f.day 0 100000 && decide (f.keeps.length = 5) && f.keeps.all Span.part
/-- the first index at which p holds, or -1 -/
def idxI {α : Type} (p : α → Bool) (l : List α) : Int := match l.findIdx? p with | some i => (i : Int) | none => -1
theorem idxI_none {α : Type} {p : α → Bool} {l : List α} (h : ∀ (j : Nat) (x : α), l[j]? = some x → p x = false) : idxI p l = -1 := by
  have : l.findIdx? p = none := by
    rw [List.findIdx?_eq_none_iff]
    intro x hx
    obtain ⟨j, hj⟩ := List.mem_iff_getElem?.1 hx
    exact h j x hj
  simp [idxI, this]
theorem idxI_some {α : Type} {p : α → Bool} {l : List α} {k : Nat} {x : α} (hx : l[k]? = some x) (hp : p x = true) (h : ∀ (j : Nat) (y : α), j < k → l[j]? = some y → p y = false) : idxI p l = (k : Int) := by
  have hk : k < l.length := by rcases Nat.lt_or_ge k l.length with h' | h'; exact h'; simp [List.getElem?_eq_none h'] at hx
  have : l.findIdx? p = some k := by
    rw [List.findIdx?_eq_some_iff_getElem]
    have e : l[k] = x := by simpa [List.getElem?_eq_getElem hk] using hx
    refine ⟨hk, by rw [e]; exact hp, fun j hj => ?_⟩
    have := h j l[j] hj (by simp)
    simp [this]
  simp [idxI, this]
theorem idxI_ge {α : Type} (p : α → Bool) (l : List α) : decide (0 ≤ idxI p l) = l.any p := by
  unfold idxI
  cases h : l.findIdx? p with
  | none =>
    rw [List.findIdx?_eq_none_iff] at h
    symm; simp only [Int.reduceNeg, Int.reduceLE, decide_false]; rw [List.any_eq_false]; intro x hx; simp [h x hx]
  | some i =>
    rw [List.findIdx?_eq_some_iff_getElem] at h
    obtain ⟨hi, hp, _⟩ := h
    have : l.any p = true := List.any_eq_true.2 ⟨_, List.getElem_mem hi, hp⟩
    rw [this]; simp
theorem any_not {α : Type} (p : α → Bool) (l : List α) : (!(l.any fun x => !p x)) = l.all p := by induction l <;> simp_all
theorem ret_bool {a b : Bool} (h : a = b) : Ending.returned (.bool a) = .returned (.bool b) := by rw [h]
theorem ret_int {k : IntKind} {a b : Int} (h : a = b) : Ending.returned (.int k a) = .returned (.int k b) := by rw [h]
end Go.Proofs.Ytkbhmajcddmhnaa
