/- What a world keeps when blocks are only added ('Ext'); rows of cells; slices of structs read as lists. No function of the program is named here. -/
import Derived.Test.YtkbhmajcddmhnaaRows
import Derived.WalkKit
import Derived.WalkSpells
import Derived.Lib.Hide
import Derived.Deep.QuietTactic
import Derived.BigQuiet
import Derived.Lib.QuietBelow
import Derived.Shelf.Abstract
import Derived.OrdersHeld
import Derived.Maps.AppendAt
namespace Go.Proofs.Ytkbhmajcddmhnaa
open Go.RowKit
set_option linter.unusedVariables false

/-- Nothing that was there has changed; blocks may have been added. -/
def Ext (w w' : World) : Prop := Below w.heap.size w w'
theorem Ext.refl (w : World) : Ext w w := Below.refl _ _
theorem Ext.trans {a b c : World} (h : Ext a b) (k : Ext b c) : Ext a c := Below.trans h (Below.mono k h.size)
theorem Ext.alloc {a b : World} (h : Ext a b) (o : Obj) : Ext a (b.alloc o) := Below.alloc h h.size o
theorem Ext.drew {a b : World} (h : Ext a b) : Ext a b.drew := Below.drew h
theorem Ext.drewN {a b : World} (h : Ext a b) (n : Nat) : Ext a (b.drewN n) := ⟨h.os, h.tape, h.output, h.size, h.block⟩
theorem Ext.setCell {a b : World} (h : Ext a b) {p : Addr} (hp : a.heap.size ≤ p.block) (v : Value) : Ext a (b.setCell p v) := Below.setCell h hp v
theorem Ext.facts {W w1 : World} (hb : Ext W w1) : (∀ b o, b < W.heap.size → w1.cell? ⟨b, o, none⟩ = W.cell? ⟨b, o, none⟩) ∧ (∀ b o, b < W.heap.size → w1.frozen? ⟨b, o, none⟩ = W.frozen? ⟨b, o, none⟩) ∧ W.heap.size ≤ w1.heap.size :=
  ⟨fun b o h => Below.cell hb (p := ⟨b, o, none⟩) h, fun b o h => Below.frozen hb (p := ⟨b, o, none⟩) h, hb.size⟩
theorem Ext.cell {w w' : World} (h : Ext w w') {p : Addr} {v : Value} (hc : w.cell? p = some v) : w'.cell? p = some v := (Below.cell h (block_lt_of_cell hc)).trans hc
theorem Ext.heap {w w' : World} (h : Ext w w') {b : Nat} {o : Obj} (hc : w.heap[b]? = some o) : w'.heap[b]? = some o :=
  (Below.block h b (Array.getElem?_eq_some_iff.1 hc).1).trans hc

/-- a block of cells, still as it was -/
theorem Ext.box {w w' : World} (h : Ext w w') {b : Nat} {cs : Array Value} {t : TypeId} (hb : w.heap[b]? = some (.cells cs t (0, 0))) : (∀ j, w'.cell? ⟨b, j, none⟩ = cs[j]?) ∧ ∀ j, w'.frozen? ⟨b, j, none⟩ = false :=
  ⟨fun j => cell_of_row w' b j cs t (0, 0) (h.heap hb), fun j => frozen_of_row w' b j cs t (h.heap hb)⟩

theorem below_drawn (w : World) : Below w.heap.size w { w with drawn := w.drawn + 1 } := (Below.refl _ w).drew
theorem wpQuiet_weaken {P : Program} {ops : Array Oper} {C : World → Prop} {Q Q' : Act → Prop} (hq : ∀ a, Q a → Q' a) : ∀ {l : List Oper} {a : Act}, wpQuiet P ops C Q l a → wpQuiet P ops C Q' l a
  | [], a, h => hq a h
  | o :: rest, a, h => by
    unfold wpQuiet at *
    split
    · rename_i hw; rw [if_pos hw] at h
      exact Oper.quiet_mono (fun _ h => wpQuiet_weaken hq h) h
    · rename_i hw; rw [if_neg hw] at h
      exact wpQuiet_weaken hq h
/-- A REGION THAT DRAWS ITS ORDER, whose operations only read and whose calls only add blocks: walked once, in the order of the text; the class of worlds is named by a function f that is not looked into. -/
theorem wp_region_ext {P : Program} {id : Nat} {Q : Exit → Act → World → Prop} {a : Act} {w : World} {l : List Oper} (hm : P.follows .mixedOrders = true) (hB : Region.lexB .any l.toArray = true)
    (h : ∀ f : Regrown → World, (∀ p, Ext w (f p)) → (∀ W, Ext w W → ∃ p, W = f p) → wpQuiet P l.toArray (fun w' => ∃ p, w' = f p) (fun a' => ∀ W, Ext w W → Q .normal a' W) l a) : (Code.region id l.toArray true).wp P Q a w := by
  have hb : ∀ p : Regrown, Ext w (Sort.grow (redrawn w p.d) p.os) := fun p => below_regrown w p.d p.os
  have h' := h (fun p => Sort.grow (redrawn w p.d) p.os) hb (fun W hW => regrown_of_below hW)
  refine wp_region_quiet (C := fun w' => ∃ p : Regrown, w' = Sort.grow (redrawn w p.d) p.os) hm hB (regrown_of_below (below_drawn w)) ?_
  rw [List.toList_toArray]
  refine wpQuiet_weaken ?_ h'
  rintro a' hq W ⟨p, rfl⟩
  exact hq _ (hb p)
/-- A call in such a region. -/
theorem Calls.ext_of {P : Program} {g : FuncId} {args : Array Value} {w : World} {f : Regrown → World} {v : Value} {W : World} (h1 : Ext w W) (h2 : ∀ W, Ext w W → ∃ p, W = f p)
    (h : Calls P g args W fun e w' => e = .returned v ∧ Ext W w') : Calls P g args W fun e w' => e = .returned v ∧ ∃ p, w' = f p :=
  h.mono fun _ _ ⟨he, hb⟩ => ⟨he, h2 _ (h1.trans hb)⟩

/-- The cells from b, o on hold these values. -/
def Cells (w : World) (b o : Nat) (vs : List Value) : Prop := ∀ j v, vs[j]? = some v → w.cell? ⟨b, o + j, none⟩ = some v
theorem Cells.ext {w w' : World} {b o : Nat} {vs : List Value} (h : Cells w b o vs) (e : Ext w w') : Cells w' b o vs := fun j v hv => e.cell (h j v hv)

/-- n rows of 'sz' cells each. -/
def SlAt (w : World) (sz : Nat) (a : Option Addr) (n : Nat) (f : Nat → List Value) : Prop :=
  0 < n → ∃ b off, a = some ⟨b, off, none⟩ ∧ ∀ k, k < n → Cells w b (off + k * sz) (f k)
theorem SlAt.ext {w w' : World} {sz : Nat} {a : Option Addr} {n : Nat} {f : Nat → List Value} (h : SlAt w sz a n f) (e : Ext w w') : SlAt w' sz a n f :=
  fun hn => let ⟨b, off, ha, hc⟩ := h hn; ⟨b, off, ha, fun k hk => (hc k hk).ext e⟩

theorem SlAt.same {w w' : World} {sz : Nat} {a : Option Addr} {n : Nat} {f : Nat → List Value} (h : SlAt w sz a n f) (hb : ∀ x, a = some x → w'.heap[x.block]? = w.heap[x.block]?) : SlAt w' sz a n f :=
  fun hn => let ⟨b, off, ha, hc⟩ := h hn; ⟨b, off, ha, fun k hk j v hv => (World.cell?_of_block (w := w) (a := ⟨b, off + k * sz + j, none⟩) (hb ⟨b, off, none⟩ ha)).trans (hc k hk j v hv)⟩
/-- an address from block B on, if any -/
def From (B : Nat) (a : Option Addr) : Prop := ∀ x, a = some x → B ≤ x.block
theorem From.none (B : Nat) : From B none := fun x h => by cases h
theorem From.mono {B C : Nat} {a : Option Addr} (h : From B a) (hc : C ≤ B) : From C a := fun x hx => Nat.le_trans hc (h x hx)

/-! ### the data of layer 6 -/
structure Span where
  lo : Int
  hi : Int
  deriving DecidableEq
structure Offer where
  place : Int
  give : Int
  get : Int
  units : Int
  lo : Int
  hi : Int
  from_ : Int
  to : Int
  deriving DecidableEq
def Span.cells (s : Span) : List Value := [.int .i64 s.lo, .int .i64 s.hi]
def Span.val (s : Span) : Value := .agg #[.int .i64 s.lo, .int .i64 s.hi]
def Offer.cells (o : Offer) : List Value := [.int .i64 o.place, .int .i64 o.give, .int .i64 o.get, .int .i64 o.units, .int .i64 o.lo, .int .i64 o.hi, .int .i64 o.from_, .int .i64 o.to]
def Offer.val (o : Offer) : Value := .agg #[.int .i64 o.place, .int .i64 o.give, .int .i64 o.get, .int .i64 o.units, .int .i64 o.lo, .int .i64 o.hi, .int .i64 o.from_, .int .i64 o.to]
structure Fair where
  place : Int
  day : Int
  keeps : List Span
  deriving DecidableEq

/-- a slice of integers of a kind -/
def IntsAt (k : IntKind) (w : World) (a : Option Addr) (n : Nat) (l : List Int) : Prop := l.length = n ∧ SlAt w 1 a n fun i => [.int k (l.getD i 0)]
def SpansAt (w : World) (a : Option Addr) (n : Nat) (l : List Span) : Prop := l.length = n ∧ SlAt w 2 a n fun i => (l.getD i ⟨0, 0⟩).cells
def OffersAt (w : World) (a : Option Addr) (n : Nat) (l : List Offer) : Prop := l.length = n ∧ SlAt w 8 a n fun i => (l.getD i ⟨0, 0, 0, 0, 0, 0, 0, 0⟩).cells
def FairsAt (w : World) (a : Option Addr) (n : Nat) (l : List Fair) : Prop :=
  l.length = n ∧ (0 < n → ∃ b off, a = some ⟨b, off, none⟩ ∧ ∀ k f, l[k]? = some f → ∃ ka kn kc, Cells w b (off + k * 3) [.int .i64 f.place, .int .i64 f.day, .slice ka kn kc] ∧ kn ≤ kc ∧ kc ≤ maxLen ∧ SpansAt w ka kn f.keeps)
/-- a slice of slices of integers -/
def RowsAt (w : World) (a : Option Addr) (n : Nat) (l : List (List Int)) : Prop :=
  l.length = n ∧ (0 < n → ∃ b off, a = some ⟨b, off, none⟩ ∧ ∀ k r, l[k]? = some r → ∃ ka kn kc, Cells w b (off + k * 1) [.slice ka kn kc] ∧ kn ≤ kc ∧ kc ≤ maxLen ∧ IntsAt .i64 w ka kn r)

theorem IntsAt.ext {k : IntKind} {w w' : World} {a : Option Addr} {n : Nat} {l : List Int} (h : IntsAt k w a n l) (e : Ext w w') : IntsAt k w' a n l := ⟨h.1, h.2.ext e⟩
theorem IntsAt.same {k : IntKind} {w w' : World} {a : Option Addr} {n : Nat} {l : List Int} (h : IntsAt k w a n l) (hb : ∀ x, a = some x → w'.heap[x.block]? = w.heap[x.block]?) : IntsAt k w' a n l := ⟨h.1, h.2.same hb⟩
theorem SpansAt.ext {w w' : World} {a : Option Addr} {n : Nat} {l : List Span} (h : SpansAt w a n l) (e : Ext w w') : SpansAt w' a n l := ⟨h.1, h.2.ext e⟩
theorem OffersAt.ext {w w' : World} {a : Option Addr} {n : Nat} {l : List Offer} (h : OffersAt w a n l) (e : Ext w w') : OffersAt w' a n l := ⟨h.1, h.2.ext e⟩
theorem FairsAt.ext {w w' : World} {a : Option Addr} {n : Nat} {l : List Fair} (h : FairsAt w a n l) (e : Ext w w') : FairsAt w' a n l :=
  ⟨h.1, fun hn => let ⟨b, off, ha, hc⟩ := h.2 hn; ⟨b, off, ha, fun k f hf => let ⟨ka, kn, kc, h1, h2, h3, h4⟩ := hc k f hf; ⟨ka, kn, kc, h1.ext e, h2, h3, h4.ext e⟩⟩⟩
theorem RowsAt.ext {w w' : World} {a : Option Addr} {n : Nat} {l : List (List Int)} (h : RowsAt w a n l) (e : Ext w w') : RowsAt w' a n l :=
  ⟨h.1, fun hn => let ⟨b, off, ha, hc⟩ := h.2 hn; ⟨b, off, ha, fun k f hf => let ⟨ka, kn, kc, h1, h2, h3, h4⟩ := hc k f hf; ⟨ka, kn, kc, h1.ext e, h2, h3, h4.ext e⟩⟩⟩

theorem IntsAt.get {q : IntKind} {w : World} {a : Option Addr} {n : Nat} {l : List Int} (h : IntsAt q w a n l) (k : Nat) (hk : k < n) :
    ∃ b off x, a = some ⟨b, off, none⟩ ∧ l[k]? = some x ∧ b < w.heap.size ∧ w.cell? ⟨b, off + k, none⟩ = some (.int q x) := by
  obtain ⟨hl, h⟩ := h
  obtain ⟨b, off, ha, hc⟩ := h (by omega)
  have h0 := hc k hk 0 _ rfl
  simp only [Nat.mul_one, Nat.add_zero] at h0
  exact ⟨b, off, _, ha, by simp [List.getD, hl, hk], block_lt_of_cell h0, h0⟩
theorem SpansAt.get {w : World} {a : Option Addr} {n : Nat} {l : List Span} (h : SpansAt w a n l) (k : Nat) (hk : k < n) :
    ∃ b off x, a = some ⟨b, off, none⟩ ∧ l[k]? = some x ∧ b < w.heap.size ∧ w.cell? ⟨b, off + k * 2, none⟩ = some (.int .i64 x.lo) ∧ w.cell? ⟨b, off + k * 2 + 1, none⟩ = some (.int .i64 x.hi) := by
  obtain ⟨hl, h⟩ := h
  obtain ⟨b, off, ha, hc⟩ := h (by omega)
  have h0 := hc k hk 0 _ rfl
  have h1 := hc k hk 1 _ rfl
  simp only [Nat.add_zero] at h0
  exact ⟨b, off, _, ha, by simp [List.getD, hl, hk], block_lt_of_cell h0, h0, h1⟩
theorem OffersAt.get {w : World} {a : Option Addr} {n : Nat} {l : List Offer} (h : OffersAt w a n l) (k : Nat) (hk : k < n) :
    ∃ b off x, a = some ⟨b, off, none⟩ ∧ l[k]? = some x ∧ b < w.heap.size ∧ w.cell? ⟨b, off + k * 8, none⟩ = some (.int .i64 x.place) ∧ w.cell? ⟨b, off + k * 8 + 1, none⟩ = some (.int .i64 x.give)
      ∧ w.cell? ⟨b, off + k * 8 + 2, none⟩ = some (.int .i64 x.get) ∧ w.cell? ⟨b, off + k * 8 + 3, none⟩ = some (.int .i64 x.units) ∧ w.cell? ⟨b, off + k * 8 + 4, none⟩ = some (.int .i64 x.lo)
      ∧ w.cell? ⟨b, off + k * 8 + 5, none⟩ = some (.int .i64 x.hi) ∧ w.cell? ⟨b, off + k * 8 + 6, none⟩ = some (.int .i64 x.from_) ∧ w.cell? ⟨b, off + k * 8 + 7, none⟩ = some (.int .i64 x.to) := by
  obtain ⟨hl, h⟩ := h
  obtain ⟨b, off, ha, hc⟩ := h (by omega)
  have h0 := hc k hk 0 _ rfl
  simp only [Nat.add_zero] at h0
  exact ⟨b, off, _, ha, by simp [List.getD, hl, hk], block_lt_of_cell h0, h0, hc k hk 1 _ rfl, hc k hk 2 _ rfl, hc k hk 3 _ rfl, hc k hk 4 _ rfl, hc k hk 5 _ rfl, hc k hk 6 _ rfl, hc k hk 7 _ rfl⟩
theorem FairsAt.get {w : World} {a : Option Addr} {n : Nat} {l : List Fair} (h : FairsAt w a n l) (k : Nat) (hk : k < n) :
    ∃ b off x ka kn kc, a = some ⟨b, off, none⟩ ∧ l[k]? = some x ∧ b < w.heap.size ∧ w.cell? ⟨b, off + k * 3, none⟩ = some (.int .i64 x.place) ∧ w.cell? ⟨b, off + k * 3 + 1, none⟩ = some (.int .i64 x.day)
      ∧ w.cell? ⟨b, off + k * 3 + 2, none⟩ = some (.slice ka kn kc) ∧ kn ≤ kc ∧ kc ≤ maxLen ∧ SpansAt w ka kn x.keeps := by
  obtain ⟨hl, h⟩ := h
  obtain ⟨b, off, ha, hc⟩ := h (by omega)
  obtain ⟨x, hx⟩ : ∃ x, l[k]? = some x := ⟨l[k], by simp⟩
  obtain ⟨ka, kn, kc, h1, h2, h3, h4⟩ := hc k x hx
  have h0 := h1 0 _ rfl
  simp only [Nat.add_zero] at h0
  exact ⟨b, off, x, ka, kn, kc, ha, hx, block_lt_of_cell h0, h0, h1 1 _ rfl, h1 2 _ rfl, h2, h3, h4⟩
theorem RowsAt.get {w : World} {a : Option Addr} {n : Nat} {l : List (List Int)} (h : RowsAt w a n l) (k : Nat) (hk : k < n) :
    ∃ b off x ka kn kc, a = some ⟨b, off, none⟩ ∧ l[k]? = some x ∧ b < w.heap.size ∧ w.cell? ⟨b, off + k, none⟩ = some (.slice ka kn kc) ∧ kn ≤ kc ∧ kc ≤ maxLen ∧ IntsAt .i64 w ka kn x := by
  obtain ⟨hl, h⟩ := h
  obtain ⟨b, off, ha, hc⟩ := h (by omega)
  obtain ⟨x, hx⟩ : ∃ x, l[k]? = some x := ⟨l[k], by simp⟩
  obtain ⟨ka, kn, kc, h1, h2, h3, h4⟩ := hc k x hx
  have h0 := h1 0 _ rfl
  simp only [Nat.mul_one, Nat.add_zero] at h0
  exact ⟨b, off, x, ka, kn, kc, ha, hx, block_lt_of_cell h0, h0, h2, h3, h4⟩

/-! ### plain words -/
def inB (n lo hi : Int) : Bool := decide (lo ≤ n) && decide (n ≤ hi)
def properB (a b lo hi : Int) : Bool := decide (lo ≤ a) && decide (a ≤ b) && decide (b ≤ hi)
def Offer.valid (o : Offer) : Bool :=
  inB o.place 0 9999 && inB o.give 0 4 && inB o.get 0 4 && o.give != o.get && inB o.units 1 50 && properB o.lo o.hi 1 50 && properB o.from_ o.to 0 100000
def Span.part (s : Span) : Bool := properB s.lo s.hi 0 1000
def Fair.valid (f : Fair) : Bool := inB f.place 0 9999 && inB f.day 0 100000 && decide (f.keeps.length = 5) && f.keeps.all Span.part
/-- the first index at which p holds, or -1 -/
def idxI {α : Type} (p : α → Bool) (l : List α) : Int := match l.findIdx? p with | some i => (i : Int) | none => -1
theorem idxI_none {α : Type} {p : α → Bool} {l : List α} (h : ∀ (j : Nat) (x : α), l[j]? = some x → p x = false) : idxI p l = -1 := by
  have : l.findIdx? p = none := by
    rw [List.findIdx?_eq_none_iff]
    intro x hx
    obtain ⟨j, hj⟩ := List.mem_iff_getElem?.1 hx
    exact h j x hj
  simp [idxI, this]
theorem idxI_some {α : Type} {p : α → Bool} {l : List α} {k : Nat} {x : α} (hx : l[k]? = some x) (hp : p x = true) (h : ∀ (j : Nat) (y : α), j < k → l[j]? = some y → p y = false) : idxI p l = (k : Int) := by
  have hk : k < l.length := by rcases Nat.lt_or_ge k l.length with h' | h'; exact h'; simp [List.getElem?_eq_none h'] at hx
  have : l.findIdx? p = some k := by
    rw [List.findIdx?_eq_some_iff_getElem]
    have e : l[k] = x := by simpa [List.getElem?_eq_getElem hk] using hx
    refine ⟨hk, by rw [e]; exact hp, fun j hj => ?_⟩
    have := h j l[j] hj (by simp)
    simp [this]
  simp [idxI, this]
theorem idxI_ge {α : Type} (p : α → Bool) (l : List α) : decide (0 ≤ idxI p l) = l.any p := by
  unfold idxI
  cases h : l.findIdx? p with
  | none =>
    rw [List.findIdx?_eq_none_iff] at h
    symm; simp only [Int.reduceNeg, Int.reduceLE, decide_false]; rw [List.any_eq_false]; intro x hx; simp [h x hx]
  | some i =>
    rw [List.findIdx?_eq_some_iff_getElem] at h
    obtain ⟨hi, hp, _⟩ := h
    have : l.any p = true := List.any_eq_true.2 ⟨_, List.getElem_mem hi, hp⟩
    rw [this]; simp
theorem any_not {α : Type} (p : α → Bool) (l : List α) : (!(l.any fun x => !p x)) = l.all p := by induction l <;> simp_all
theorem ret_bool {a b : Bool} (h : a = b) : Ending.returned (.bool a) = .returned (.bool b) := by rw [h]
theorem ret_int {k : IntKind} {a b : Int} (h : a = b) : Ending.returned (.int k a) = .returned (.int k b) := by rw [h]
end Go.Proofs.Ytkbhmajcddmhnaa

/- A map with int keys, read as a function of its key. -/
namespace Go.Proofs.Ytkbhmajcddmhnaa
open Go.RowKit
set_option linter.unusedVariables false
set_option linter.unusedSimpArgs false

def keyIs (p : Int) (e : MapEntry) : Bool := match e.key with | .int .i64 q => p == q | _ => false
def IntKeys (es : List MapEntry) : Prop := ∀ e ∈ es, ∃ q, e.key = .int .i64 q
/-- block b is a map with int keys that gives F p at p (z where there is no entry) -/
def MapIs (w : World) (b : Nat) (z : Value) (F : Int → Value) : Prop :=
  ∃ es clock, w.heap[b]? = some (.map es clock) ∧ IntKeys es.toList ∧ ∀ p, F p = match es.toList.find? (keyIs p) with | some e => e.val | none => z

theorem MapIs.ext {w w' : World} {b : Nat} {z : Value} {F : Int → Value} (h : MapIs w b z F) (e : Ext w w') : MapIs w' b z F :=
  let ⟨es, c, h1, h2⟩ := h; ⟨es, c, e.heap h1, h2⟩
theorem MapIs.lt {w : World} {b : Nat} {z : Value} {F : Int → Value} (h : MapIs w b z F) : b < w.heap.size :=
  let ⟨_, _, h1, _⟩ := h; (Array.getElem?_eq_some_iff.1 h1).1
theorem MapIs.same {w w' : World} {b : Nat} {z : Value} {F : Int → Value} (h : MapIs w b z F) (e : w'.heap[b]? = w.heap[b]?) : MapIs w' b z F :=
  let ⟨es, c, h1, h2⟩ := h; ⟨es, c, e.trans h1, h2⟩
theorem MapIs.made (w : World) (z : Value) : MapIs (w.alloc (.map #[] 0)) w.heap.size z (fun _ => z) :=
  ⟨#[], 0, heap_alloc_new w _, by simp [IntKeys], fun p => rfl⟩

theorem findNow_int (p : Int) : ∀ (es : List MapEntry) (i : Nat), IntKeys es → Instr.findNow (.int .i64) (.int .i64 p) es i = some ((es.findIdx? (keyIs p)).bind fun j => (es[j]?).map fun e => (i + j, e.val))
  | [], i, _ => by simp [Instr.findNow]
  | e :: es, i, h => by
    obtain ⟨q, hq⟩ := h e (by simp)
    have ih := findNow_int p es (i + 1) (fun x hx => h x (by simp [hx]))
    unfold Instr.findNow
    simp only [Instr.sameNow, hq, if_true]
    by_cases hpq : p = q
    · subst hpq
      have : keyIs p e = true := by simp [keyIs, hq]
      simp [List.findIdx?_cons, this]
    · have hb : (p == q) = false := by simp [hpq]
      have : keyIs p e = false := by simp [keyIs, hq, hpq]
      simp only [hb, ih, List.findIdx?_cons, this]
      cases hf : es.findIdx? (keyIs p) with
      | none => simp
      | some j =>
        simp only [Option.bind_some, Option.map_some, Bool.false_eq_true, if_false, List.getElem?_cons_succ]
        cases es[j]? <;> simp
        omega

theorem find_of_findIdx {α : Type} (p : α → Bool) (l : List α) : l.find? p = (l.findIdx? p).bind fun j => l[j]? := by
  induction l with
  | nil => simp
  | cons x l ih =>
    rw [List.find?_cons, List.findIdx?_cons]
    cases h : p x with
    | true => simp
    | false =>
      simp only [Bool.false_eq_true, if_false, ih]
      cases l.findIdx? p <;> simp

section
variable {P : Program} {t K E : TypeId}
theorem run_lookup_int {w : World} {b : Nat} {z : Value} {F : Int → Value} (h : MapIs w b z F) (ht : P.underlying t = some (.map K E)) (hK : P.underlying K = some (.int .i64)) (hz : (zeroValue E).run P w = .ok z w) (p : Int) :
    (Instr.lookup t (.map (some b)) (.int .i64 p) false).run P w = .ok (F p) w := by
  obtain ⟨es, clock, hb, hk, hF⟩ := h
  have hfind := findNow_int p es.toList 0 hk
  have hget : (getObj b).run P w = .ok (.map es clock) w := by simp [getObj, Sem.run, hb]
  have hck : (Instr.checkKey es.isEmpty 10000 K (.int .i64 p)).run P w = .ok () w := by
    rw [show (10000 : Nat) = 9999 + 1 from rfl]
    unfold Instr.checkKey
    simp [Sem.run_bind, run_underlying hK]
  have hfk : (Instr.findKey K (.int .i64 p) es.toList).run P w = .ok ((es.toList.findIdx? (keyIs p)).bind fun j => (es.toList[j]?).map fun e => (0 + j, e.val)) w := by
    unfold Instr.findKey
    simp only [Sem.run_bind, run_underlying hK, Result.andThen_ok, hfind, Sem.run_pure]
  unfold Instr.lookup
  simp only [Sem.run_bind, run_underlying ht, Result.andThen_ok, hget, Sem.run_pure, hck, hfk]
  rw [hF p, find_of_findIdx]
  cases hi : es.toList.findIdx? (keyIs p) with
  | none => simp [hz, Sem.run_bind]
  | some j =>
    simp only [Option.bind_some]
    cases es.toList[j]? <;> simp [hz, Sem.run_bind]

theorem keyIs_key {p : Int} {e : MapEntry} (h : keyIs p e = true) : e.key = .int .i64 p := by
  unfold keyIs at h
  split at h
  · rename_i q hq
    rw [hq]
    have := beq_iff_eq.1 h
    rw [this]
  · cases h

theorem find_modify (p : Int) (v : Value) : ∀ (l : List MapEntry) (j : Nat), l.findIdx? (keyIs p) = some j → ∀ q, ((l.modify j fun e => { e with key := .int .i64 p, val := v }).find? (keyIs q)).map (·.val) = if q = p then some v else (l.find? (keyIs q)).map (·.val)
  | [], j, h, q => by simp at h
  | e :: l, j, h, q => by
    rw [List.findIdx?_cons] at h
    cases hp : keyIs p e with
    | true =>
      rw [hp] at h
      simp only [if_true, Option.some.injEq] at h
      subst h
      rw [List.modify_zero_cons, List.find?_cons]
      by_cases hq : q = p
      · subst hq; simp [keyIs]
      · have h1 : keyIs q { e with key := .int .i64 p, val := v } = false := by simp [keyIs, hq]
        have h2 : keyIs q e = false := by have := keyIs_key hp; simp [keyIs, this, hq]
        rw [h1, if_neg hq, List.find?_cons, h2]
    | false =>
      rw [hp] at h
      simp only [Bool.false_eq_true, if_false] at h
      cases hf : l.findIdx? (keyIs p) with
      | none => rw [hf] at h; cases h
      | some i =>
        rw [hf] at h
        simp only [Option.map_some, Option.some.injEq] at h
        subst h
        rw [List.modify_succ_cons, List.find?_cons, List.find?_cons]
        have ih := find_modify p v l i hf q
        cases hq : keyIs q e with
        | true =>
          have : q ≠ p := by intro e1; subst e1; rw [hp] at hq; cases hq
          simp [this]
        | false => simpa using ih

theorem intKeys_modify (p : Int) (v : Value) : ∀ (l : List MapEntry) (j : Nat), IntKeys l → IntKeys (l.modify j fun e => { e with key := .int .i64 p, val := v })
  | [], j, h => by cases j <;> simp [IntKeys]
  | e :: l, 0, h => by
    rw [List.modify_zero_cons]
    intro x hx
    rcases List.mem_cons.1 hx with rfl | hx
    · exact ⟨p, rfl⟩
    · exact h x (List.mem_cons_of_mem _ hx)
  | e :: l, j + 1, h => by
    rw [List.modify_succ_cons]
    intro x hx
    rcases List.mem_cons.1 hx with rfl | hx
    · exact h _ (List.mem_cons_self ..)
    · exact intKeys_modify p v l j (fun y hy => h y (List.mem_cons_of_mem _ hy)) x hx

theorem run_mapUpdate_int {w : World} {b : Nat} {z : Value} {F : Int → Value} (h : MapIs w b z F) (ht : P.underlying t = some (.map K E)) (hK : P.underlying K = some (.int .i64)) (p : Int) (v : Value) :
    ∃ w', (Instr.mapUpdate t (.map (some b)) (.int .i64 p) v).run P w = .ok () w' ∧ MapIs w' b z (fun q => if q = p then v else F q) ∧ w.grownBy w' (some b) := by
  obtain ⟨es, clock, hb, hk, hF⟩ := h
  have hblt : b < w.heap.size := (Array.getElem?_eq_some_iff.1 hb).1
  have hfind := findNow_int p es.toList 0 hk
  have hget : (getObj b).run P w = .ok (.map es clock) w := by simp [getObj, Sem.run, hb]
  have hset : ∀ o, (setObj b o).run P w = .ok () { w with heap := w.heap.setIfInBounds b o } := by intro o; simp [setObj, Sem.run, hb]
  have hck : (Instr.checkKey false 10000 K (.int .i64 p)).run P w = .ok () w := by
    rw [show (10000 : Nat) = 9999 + 1 from rfl]
    unfold Instr.checkKey
    simp [Sem.run_bind, run_underlying hK]
  have hfk : (Instr.findKey K (.int .i64 p) es.toList).run P w = .ok ((es.toList.findIdx? (keyIs p)).bind fun j => (es.toList[j]?).map fun e => (0 + j, e.val)) w := by
    unfold Instr.findKey
    simp only [Sem.run_bind, run_underlying hK, Result.andThen_ok, hfind, Sem.run_pure]
  have hgrown : ∀ o, w.grownBy { w with heap := w.heap.setIfInBounds b o } (some b) := fun o => ⟨rfl, rfl, rfl, by simp, fun i _ hi => by
    have hne : b ≠ i := fun e => hi (by rw [e])
    simp [Array.getElem?_setIfInBounds_ne hne]⟩
  have hnew : ∀ o, ({ w with heap := w.heap.setIfInBounds b o } : World).heap[b]? = some o := fun o => by simp [hblt]
  unfold Instr.mapUpdate
  simp only [Sem.run_bind, run_underlying ht, Result.andThen_ok, hget, hck, hfk]
  cases hi : es.toList.findIdx? (keyIs p) with
  | none =>
    simp only [Option.bind_none, hset]
    refine ⟨_, rfl, ⟨_, _, hnew _, ?_, ?_⟩, hgrown _⟩
    · intro e he
      simp only [Array.toList_push, List.mem_append, List.mem_singleton] at he
      rcases he with he | rfl
      · exact hk e he
      · exact ⟨p, rfl⟩
    · intro q
      simp only [Array.toList_push, List.find?_append]
      have hnone : es.toList.find? (keyIs p) = none := by rw [find_of_findIdx, hi]; rfl
      by_cases hq : q = p
      · subst hq
        simp [hnone, keyIs]
      · rw [if_neg hq, hF q]
        have : keyIs q { key := .int .i64 p, val := v, born := clock } = false := by simp [keyIs, hq]
        cases hfq : es.toList.find? (keyIs q) <;> simp [List.find?_cons, this]
  | some j =>
    obtain ⟨hj, hpj, _⟩ := List.findIdx?_eq_some_iff_getElem.1 hi
    have hkey := keyIs_key hpj
    have hel : es.toList[j]? = some es.toList[j] := List.getElem?_eq_getElem hj
    simp only [Option.bind_some, hel, Option.map_some, Nat.zero_add]
    have hstay : (Instr.keyThatStays (((es[j]?).map (·.key)).getD (.int .i64 p)) (.int .i64 p)).run P w = .ok (.int .i64 p) w := by
      have : es[j]? = some es.toList[j] := by rw [← Array.getElem?_toList]; exact hel
      rw [this]
      simp only [Option.map_some, Option.getD_some, hkey]
      unfold Instr.keyThatStays
      rw [show (10000 : Nat) = 9999 + 1 from rfl]
      simp [Instr.sameBits]
    simp only [Sem.run_bind, hstay, Result.andThen_ok, hset]
    refine ⟨_, rfl, ⟨_, _, hnew _, ?_, ?_⟩, hgrown _⟩
    · rw [Array.toList_modify]
      exact intKeys_modify p v _ j hk
    · intro q
      show (if q = p then v else F q) = _
      rw [Array.toList_modify]
      have := find_modify p v es.toList j hi q
      by_cases hq : q = p
      · subst hq
        rw [if_pos rfl] at this ⊢
        cases hf : (es.toList.modify j fun e => { e with key := .int .i64 q, val := v }).find? (keyIs q) with
        | none => rw [hf] at this; cases this
        | some e => rw [hf] at this; simpa using this.symm
      · rw [if_neg hq] at this
        rw [if_neg hq, hF q]
        cases hf : (es.toList.modify j fun e => { e with key := .int .i64 p, val := v }).find? (keyIs q) <;> cases hf' : es.toList.find? (keyIs q) <;> rw [hf, hf'] at this <;> simp at this ⊢
        exact this.symm
end
end Go.Proofs.Ytkbhmajcddmhnaa

/- A region that draws its order, some of whose operations only read (they yield one value in every world that meets S), while the others follow each other in one forced order: walked once. -/
namespace Go.Proofs.Ytkbhmajcddmhnaa
open Go.RowKit
set_option linter.unusedVariables false

section
variable {P : Program} {ops : Array Oper} {S : World → Prop} {Q : Exit → Act → World → Prop}

/-- an operation that is no call, but of 'len' -/
def plainOp (ops : Array Oper) (k : Nat) : Bool :=
  match ops[k]? with
  | some o => (match o.op with
    | .call { callee := .builtin .len, .. } => true
    | .call _ | .go _ | .defer _ | .send .. | .recv .. | .select .. | .store .. | .mapUpdate .. | .entryStore .. | .insert .. | .ready _ => false
    | _ => true)
  | none => false

theorem run_value_bind {s : Sem Value} {w : World} {f : FuncId} {args : Array Value} {w' : World} : ((do let x ← s; pure (Next.value x)) : Sem Next).run P w ≠ .ok (.enter f args) w' ∧ ((do let x ← s; pure (Next.value x)) : Sem Next).run P w ≠ .ok .skip w' := by
  constructor <;>
  · intro h
    rw [Sem.run_bind] at h
    cases hs : s.run P w <;> simp [hs, Result.andThen] at h
theorem plain_not_enter {k : Nat} {o : Oper} (ho : ops[k]? = some o) (h : plainOp ops k = true) (ρ : Operand → Value) (w : World) (f : FuncId) (args : Array Value) (w' : World) : (execOp ρ o).run P w ≠ .ok (.enter f args) w' ∧ (execOp ρ o).run P w ≠ .ok .skip w' := by
  obtain ⟨dst, op, type, pos, after, guard⟩ := o
  simp only [plainOp, ho] at h
  cases op
  case call c =>
    obtain ⟨callee, cargs, ats⟩ := c
    cases callee with
    | builtin b =>
      cases b <;> simp at h
      simp only [execOp, resolve, invoke, Sem.run_bind, Sem.run_pure, Result.andThen_ok, builtin]
      constructor <;>
      · intro h
        cases hs : (Builtin.len_ ats type (Array.map ρ cargs)).run P w <;> simp [hs, Result.andThen] at h
    | value f => simp at h
    | invoke r m => simp at h
  case pick c a b =>
    constructor <;>
    · intro h
      simp only [execOp] at h
      rw [Sem.run_bind] at h
      cases hs : (asBool (ρ c)).run P w <;> simp [hs, Result.andThen] at h
  case nilCheck x =>
    constructor
    · intro h
      simp only [execOp] at h
      split at h
      · simp [runtimePanic] at h
      · simp [runtimePanic] at h
      · simp [runtimePanic] at h
      · rename_i name first captured heq
        split at h
        · simp [runtimePanic] at h
        · rename_i t v hf
          rw [Sem.run_bind] at h
          revert h
          cases (program).run P w with
          | halt x w1 => simp [Result.andThen]
          | ok p w1 =>
            simp only [Result.andThen_ok]
            rw [Sem.run_bind]
            cases (nilAhead (p.types.size + Made.depth) t v name).run P w1 with
            | halt x w2 => simp [Result.andThen]
            | ok q w2 =>
              simp only [Result.andThen_ok]
              split <;> simp
        · simp at h
      · simp at h
    · intro h
      simp only [execOp] at h
      split at h
      · simp [runtimePanic] at h
      · simp [runtimePanic] at h
      · simp [runtimePanic] at h
      · rename_i name first captured heq
        split at h
        · simp [runtimePanic] at h
        · rename_i t v hf
          rw [Sem.run_bind] at h
          revert h
          cases (program).run P w with
          | halt x w1 => simp [Result.andThen]
          | ok p w1 =>
            simp only [Result.andThen_ok]
            rw [Sem.run_bind]
            cases (nilAhead (p.types.size + Made.depth) t v name).run P w1 with
            | halt x w2 => simp [Result.andThen]
            | ok q w2 =>
              simp only [Result.andThen_ok]
              split <;> simp
        · simp at h
      · simp at h
  all_goals first | (simp at h; done) | (simp only [execOp]; first | exact run_value_bind | (constructor <;> (intro h; simp at h; done)))

/-- what is asked of a region's end alone -/
def normalOnly (Q : Exit → Act → World → Prop) : Exit → Act → World → Prop
  | .normal, a, w => Q .normal a w
  | _, _, _ => False

/-- the operations that follow each other: S is shown anew behind each whose mark is false -/
def wpListS (P : Program) (ops : Array Oper) (S : World → Prop) (Q : Exit → Act → World → Prop) : List (Oper × Bool) → Act → World → Prop
  | [], a, w => Q .normal a w
  | (o, fin) :: rest, a, w => if Region.wanted o (yielded ops a.tmps) then o.wp P a w (fun a' w' => (fin = false → S w') ∧ wpListS P ops S Q rest a' w') (normalOnly Q) else (fin = false → S w) ∧ wpListS P ops S Q rest (a.put o.dst undef) w

theorem Oper.wp_monoQ {o : Oper} {a : Act} {w : World} {K : Act → World → Prop} {Q Q' : Exit → Act → World → Prop} (hq : ∀ e a w, e ≠ .normal → Q e a w → Q' e a w) (h : o.wp P a w K Q) : o.wp P a w K Q' := by
  unfold Oper.wp at *
  revert h
  cases hr : (execOp a.eval o).run P w with
  | ok n w' =>
    cases n <;> simp only [Oper.upon] <;> intro h <;> try exact h
    refine Calls.mono h fun e w'' he => ?_
    cases e with
    | returned u => exact he
    | panicked c => exact hq _ _ _ (by simp) he
    | outgrown => obtain ⟨a0, w0, h0⟩ := he; exact ⟨a0, w0, hq _ _ _ (by simp) h0⟩
  | halt x w' =>
    cases x <;> simp only [Oper.upon] <;> intro h <;> first | exact hq _ _ _ (by simp) h | exact h

theorem wpListS_nil {a : Act} {w : World} (h : Q .normal a w) : wpListS P ops S Q [] a w := h
/-- one of them, by the walk's own form -/
theorem wpListS_step {o : Oper} {rest : List (Oper × Bool)} {a : Act} {w : World} (h : wpList P ops (fun e a' w' => e = .normal ∧ S w' ∧ wpListS P ops S Q rest a' w') [o] a w) : wpListS P ops S Q ((o, false) :: rest) a w := by
  unfold wpList at h
  unfold wpListS
  split
  · rename_i hwd
    rw [if_pos hwd] at h
    rcases h with h | ⟨_, a0, w0, h0, _⟩
    · refine Oper.wp_monoQ (Q := fun e a' w' => e = .normal ∧ S w' ∧ wpListS P ops S Q rest a' w') ?_ (Go.Oper.wp_mono (fun a' w' h' => ?_) h)
      · intro e a' w' hne h'
        exact absurd h'.1 hne
      · simp only [wpList] at h'
        exact ⟨fun _ => h'.2.1, h'.2.2⟩
    · cases h0
  · rename_i hwd
    rw [if_neg hwd] at h
    simp only [wpList] at h
    exact ⟨fun _ => h.2.1, h.2.2⟩
/-- one that comes behind all that only read -/
theorem wpListS_last {o : Oper} {rest : List (Oper × Bool)} {a : Act} {w : World} (h : wpList P ops (fun e a' w' => e = .normal ∧ wpListS P ops S Q rest a' w') [o] a w) : wpListS P ops S Q ((o, true) :: rest) a w := by
  unfold wpList at h
  unfold wpListS
  split
  · rename_i hwd
    rw [if_pos hwd] at h
    rcases h with h | ⟨_, a0, w0, h0, _⟩
    · refine Oper.wp_monoQ (Q := fun e a' w' => e = .normal ∧ wpListS P ops S Q rest a' w') ?_ (Go.Oper.wp_mono (fun a' w' h' => ?_) h)
      · intro e a' w' hne h'
        exact absurd h'.1 hne
      · simp only [wpList] at h'
        exact ⟨fun h => (by cases h), h'.2⟩
    · cases h0
  · rename_i hwd
    rw [if_neg hwd] at h
    simp only [wpList] at h
    exact ⟨fun h => (by cases h), h.2⟩

/-- operation k waits, by an edge of its own, for all of these -/
def waitsAll (ops : Array Oper) (pre : List Nat) (k : Nat) : Bool :=
  match ops[k]? with
  | some o => pre.all fun i => o.after.any fun e => Region.binds .any e && e.on == i
  | none => false

def mixTail (ops : Array Oper) (pre : List Nat) : List (Nat × Bool) → Array Bool → Bool
  | [], listed => (Region.ready .any ops listed).isEmpty
  | (k, fin) :: r, listed => (Region.ready .any ops listed == [k]) && (!fin || waitsAll ops pre k) && mixTail ops pre r (listed.setIfInBounds k true)
def mixGo (ops : Array Oper) (pre : List Nat) (tail : List (Nat × Bool)) : List Nat → Array Bool → Bool
  | [], listed => mixTail ops pre tail listed
  | k :: r, listed => (Region.ready .any ops listed).contains k && Region.free .any ops listed k && plainOp ops k && pre.contains k && mixGo ops pre tail r (listed.setIfInBounds k true)
def mixB (ops : Array Oper) (pre : List Nat) (tail : List (Nat × Bool)) : Bool :=
  Region.noSelect ops && decide (pre.length + tail.length = ops.size) && mixGo ops pre tail pre (Array.replicate ops.size false) && tail.all fun t => !t.2 || waitsAll ops pre t.1

def consOp : Option Oper → List Oper → List Oper
  | some o, l => o :: l
  | none, l => l
def consOpT : Option Oper → Bool → List (Oper × Bool) → List (Oper × Bool)
  | some o, f, l => (o, f) :: l
  | none, _, l => l
def opsOf (ops : Array Oper) : List Nat → List Oper
  | [] => []
  | k :: r => consOp ops[k]? (opsOf ops r)
def opsOfT (ops : Array Oper) : List (Nat × Bool) → List (Oper × Bool)
  | [] => []
  | (k, f) :: r => consOpT ops[k]? f (opsOfT ops r)

/-- whatever order is picked from here on, S holding behind every operation but those marked by 'fin' -/
def wpAnyK (P : Program) (ops : Array Oper) (Q : Exit → Act → World → Prop) (S : World → Prop) (fin : Nat → Bool) : Nat → Array Bool → Act → World → Prop
  | 0, listed, a, w => Region.ready .any ops listed = [] ∧ Q .normal a w
  | fuel + 1, listed, a, w => (Region.ready .any ops listed = [] → Q .normal a w) ∧
    ∀ i ∈ Region.ready .any ops listed, wpOp P ops Q i (fun a' w' => (fin i = false → S w') ∧ wpAnyK P ops Q S fin fuel (listed.setIfInBounds i true) a' w') a w

theorem wpAny_of_K {fin : Nat → Bool} : ∀ (fuel : Nat) (listed : Array Bool) (a : Act) (w : World), wpAnyK P ops Q S fin fuel listed a w → wpAny P .any ops Q fuel listed a w
  | 0, _, _, _, h => h
  | fuel + 1, _, _, _, h => ⟨h.1, fun i hi => wpOp_mono (fun a' w' h' => wpAny_of_K fuel _ a' w' h'.2) (h.2 i hi)⟩

/-- an operation that yields its value in every world that meets S may be taken first -/
theorem wpAnyK_first {fin : Nat → Bool} {i : Nat} {oi : Oper} {v : Value} (hi : ops[i]? = some oi) (hsel : Region.noSelect ops = true)
    (hQ : ∀ c a w, Q (.panic c) (a.put oi.dst v) w → Q (.panic c) a w)
    (hfin : ∀ j oj, fin j = true → ops[j]? = some oj → ∃ e ∈ oj.after, Region.binds .any e = true ∧ e.on = i) (hfi : fin i = false) :
    ∀ (fuel : Nat) (listed : Array Bool) (a : Act) (w : World), Region.free .any ops listed i = true →
      i ∈ Region.ready .any ops listed → YieldsIf P ops S oi v a → S w →
      wpAnyK P ops Q S fin fuel (listed.setIfInBounds i true) (a.put oi.dst v) w → wpAnyK P ops Q S fin (fuel + 1) listed a w := by
  have core : ∀ (fuel : Nat) (listed : Array Bool) (a : Act) (w : World),
      (∀ j oj, ops[j]? = some oj → j ≠ i → listed.getD j true = false → (∀ e ∈ oj.after, Region.binds .any e = true → e.on ≠ i) → oi.apart ops oj = true) →
      i ∈ Region.ready .any ops listed → YieldsIf P ops S oi v a → S w →
      wpAnyK P ops Q S fin fuel (listed.setIfInBounds i true) (a.put oi.dst v) w → wpAnyK P ops Q S fin (fuel + 1) listed a w := by
    intro fuel
    induction fuel with
    | zero =>
      intro listed a w _ hr hy hS H
      refine ⟨fun h => (by rw [h] at hr; cases hr), fun j hj => ?_⟩
      by_cases hji : j = i
      · subst hji
        exact hy.wpOp hi hS ⟨fun _ => hS, H⟩
      · have hm := ready_mono hj hji
        rw [H.1] at hm
        cases hm
    | succ fuel ih =>
      intro listed a w hfree hr hy hS H
      refine ⟨fun h => (by rw [h] at hr; cases hr), fun j hj => ?_⟩
      by_cases hji : j = i
      · subst hji
        exact hy.wpOp hi hS ⟨fun _ => hS, H⟩
      · obtain ⟨hjun, oj, hoj, hall⟩ := mem_ready.1 hj
        have hun : listed.getD i true = false := (mem_ready.1 hr).1
        have hun' : listed.getD i false = false := by
          rcases Nat.lt_or_ge i listed.size with h' | h'
          · simp [h'] at hun ⊢; exact hun
          · simp [Array.getElem?_eq_none h']
        have hnot : ∀ e ∈ oj.after, Region.binds .any e = true → e.on ≠ i := by
          intro e he hb heq
          have h1 := hall e he hb
          rw [heq, hun'] at h1
          cases h1
        have hfj : fin j = false := by
          cases hf : fin j with
          | false => rfl
          | true =>
            obtain ⟨e, he, hb, hon⟩ := hfin j oj hf hoj
            exact absurd hon (hnot e he hb)
        have h2 := wpOp_putIf hoj (hfree j oj hoj hji hjun hnot) (fun cs b => Region.noSelect_spec hsel i oi cs b hi) (fun cs b => Region.noSelect_spec hsel j oj cs b hoj) hQ hy (H.2 j (ready_mono hj hji))
        have hfree' : ∀ k ok, ops[k]? = some ok → k ≠ i → (listed.setIfInBounds j true).getD k true = false →
            (∀ e ∈ ok.after, Region.binds .any e = true → e.on ≠ i) → oi.apart ops ok = true := fun k ok hk hki hku hno => by
          refine hfree k ok hk hki ?_ hno
          by_cases hjk : j = k
          · subst hjk; exact hjun
          · rw [getD_set_ne true hjk] at hku; exact hku
        refine wpOp_mono (fun a' w' h3 => ⟨h3.2.1, ih (listed.setIfInBounds j true) a' w' hfree' (ready_mono hr (Ne.symm hji)) h3.1 (h3.2.1 hfj) ?_⟩) h2
        rw [Array.setIfInBounds_comm _ _ hji]
        exact h3.2.2
  intro fuel listed a w hf hr hy hS H
  exact core fuel listed a w (Region.free_spec hi hf) hr hy hS H

theorem mix_tail {pre : List Nat} {fin : Nat → Bool} : ∀ (r : List (Nat × Bool)) (listed : Array Bool) (a : Act) (w : World), (∀ t ∈ r, t.2 = true → fin t.1 = true) → mixTail ops pre r listed = true → wpListS P ops S Q (opsOfT ops r) a w → wpAnyK P ops (normalOnly Q) S fin r.length listed a w
  | [], listed, a, w, _, hB, h => ⟨by simpa [mixTail] using hB, h⟩
  | (k, f) :: r, listed, a, w, hf, hB, h => by
    simp only [mixTail, Bool.and_eq_true, beq_iff_eq] at hB
    obtain ⟨⟨hr, _⟩, hB'⟩ := hB
    have hk : k ∈ Region.ready .any ops listed := by rw [hr]; exact List.mem_singleton_self k
    obtain ⟨_, o, ho, _⟩ := mem_ready.1 hk
    refine ⟨fun h0 => (by rw [h0] at hr; cases hr), fun i hi => ?_⟩
    rw [hr] at hi
    obtain rfl := List.mem_singleton.1 hi
    have e : opsOfT ops ((i, f) :: r) = (o, f) :: opsOfT ops r := by simp [opsOfT, consOpT, ho]
    rw [e] at h
    have hf' : fin i = false → f = false := fun hfi => by
      cases f with
      | false => rfl
      | true => have := hf (i, true) (by simp) rfl; simp only at this; rw [hfi] at this; cases this
    have hrest : ∀ t ∈ r, t.2 = true → fin t.1 = true := fun t ht => hf t (List.mem_cons_of_mem _ ht)
    unfold wpListS at h
    unfold wpOp
    simp only [ho]
    split
    · rename_i hw
      rw [if_pos hw] at h
      exact .inl (Go.Oper.wp_mono (fun a' w' ⟨h1, h2⟩ => ⟨fun hfi => h1 (hf' hfi), mix_tail r _ a' w' hrest hB' h2⟩) h)
    · rename_i hw
      rw [if_neg hw] at h
      exact ⟨fun hfi => h.1 (hf' hfi), mix_tail r _ _ w hrest hB' h.2⟩

theorem mix_head {pre : List Nat} {tail : List (Nat × Bool)} (hsel : Region.noSelect ops = true) {fin : Nat → Bool} (hft : ∀ t ∈ tail, t.2 = true → fin t.1 = true)
    (hfin : ∀ i ∈ pre, ∀ j oj, fin j = true → ops[j]? = some oj → ∃ e ∈ oj.after, Region.binds .any e = true ∧ e.on = i) (hpre : ∀ i ∈ pre, fin i = false) :
    ∀ (r : List Nat) (listed : Array Bool) (a : Act) (w : World), mixGo ops pre tail r listed = true → S w →
    wpQuiet P ops S (fun a' => wpListS P ops S Q (opsOfT ops tail) a' w) (opsOf ops r) a → wpAnyK P ops (normalOnly Q) S fin (r.length + tail.length) listed a w
  | [], listed, a, w, hB, hS, h => by
    simp only [List.length_nil, Nat.zero_add]
    exact mix_tail tail listed a w hft (by simpa [mixGo] using hB) (by simpa [opsOf, wpQuiet] using h)
  | k :: r, listed, a, w, hB, hS, h => by
    simp only [mixGo, Bool.and_eq_true] at hB
    obtain ⟨⟨⟨⟨hr, hf⟩, hp⟩, hkp⟩, hB'⟩ := hB
    have hk : k ∈ Region.ready .any ops listed := by simpa using hr
    have hkpre : k ∈ pre := by simpa using hkp
    obtain ⟨_, o, ho, _⟩ := mem_ready.1 hk
    have e : opsOf ops (k :: r) = o :: opsOf ops r := by simp [opsOf, consOp, ho]
    rw [e] at h
    rw [show (k :: r).length + tail.length = (r.length + tail.length) + 1 by simp; omega]
    obtain ⟨v, hy, hrest⟩ : ∃ v, YieldsIf P ops S o v a ∧ wpQuiet P ops S (fun a' => wpListS P ops S Q (opsOfT ops tail) a' w) (opsOf ops r) (a.put o.dst v) := by
      unfold wpQuiet at h
      by_cases hw : Region.wanted o (yielded ops a.tmps) = true
      · rw [if_pos hw] at h
        obtain ⟨v, h1, h2⟩ := h
        refine ⟨v, .inl ⟨hw, fun W hW => ?_⟩, h2⟩
        have h3 := h1 W hW
        unfold Oper.quietAt at h3
        cases hrun : (execOp a.eval o).run P W with
        | ok x W' =>
          rw [hrun] at h3
          cases x <;> simp only [Oper.quietUpon] at h3
          case value u => rw [h3.1, h3.2]
          case skip => exact absurd hrun (plain_not_enter ho hp a.eval W 0 #[] W').2
          case enter f args => exact absurd hrun (plain_not_enter ho hp a.eval W f args W').1
        | halt x W' => rw [hrun] at h3; simp only [Oper.quietUpon] at h3
      · rw [if_neg hw] at h
        exact ⟨undef, .inr ⟨by simpa using hw, rfl⟩, h⟩
    exact wpAnyK_first ho hsel (fun _ _ _ h => h) (hfin k hkpre) (hpre k hkpre) _ _ a w hf hk hy hS (mix_head hsel hft hfin hpre r _ _ w hB' hS hrest)

/-- the marks, as a function of the number -/
def finOf (ops : Array Oper) (pre : List Nat) (k : Nat) : Bool := waitsAll ops pre k && !pre.contains k

/-- THE THEOREM. The operations 'pre' only read: each yields one value in every world that meets S; the operations 'tail' can come in this order alone; S holds behind each of them, but behind those that wait for all of 'pre' (mark true). -/
theorem wp_region_mix {id : Nat} {l : List Oper} {a : Act} {w : World} (pre : List Nat) (tail : List (Nat × Bool)) (S : World → Prop) (l1 : List Oper) (l2 : List (Oper × Bool)) (hm : P.follows .mixedOrders = true)
    (hB : mixB l.toArray pre tail = true) (hd : (tail.all fun t => !pre.contains t.1) = true)
    (h1 : opsOf l.toArray pre = l1) (h2 : opsOfT l.toArray tail = l2) (hS : S w.drew)
    (h : ∀ (ι : Type) [Inhabited ι] (f : ι → World), (∀ p, S (f p)) → wpQuiet P l.toArray (fun W => ∃ p, W = f p) (fun a' => wpListS P l.toArray S Q l2 a' w.drew) l1 a) : (Code.region id l.toArray true).wp P Q a w := by
  simp only [mixB, Bool.and_eq_true, decide_eq_true_eq] at hB
  obtain ⟨⟨⟨hsel, hlen⟩, hB⟩, hw⟩ := hB
  have hC : (fun W => ∃ p : {W : World // S W}, W = p.1) = S := by
    funext W
    exact propext ⟨fun ⟨p, hp⟩ => hp ▸ p.2, fun hW => ⟨⟨W, hW⟩, rfl⟩⟩
  have h' := @h {W : World // S W} ⟨⟨_, hS⟩⟩ (fun p => p.1) (fun p => p.2)
  rw [hC, ← h1, ← h2] at h'
  have hft : ∀ t ∈ tail, t.2 = true → finOf l.toArray pre t.1 = true := by
    intro t ht h2
    have e1 := List.all_eq_true.1 hw t ht
    have e2 := List.all_eq_true.1 hd t ht
    rw [h2] at e1
    unfold finOf
    rw [Bool.and_eq_true]
    exact ⟨by simpa using e1, e2⟩
  have hfin : ∀ i ∈ pre, ∀ j oj, finOf l.toArray pre j = true → l.toArray[j]? = some oj → ∃ e ∈ oj.after, Region.binds .any e = true ∧ e.on = i := by
    intro i hi j oj hf hoj
    unfold finOf waitsAll at hf
    rw [hoj] at hf
    simp only [Bool.and_eq_true] at hf
    have := List.all_eq_true.1 hf.1 i hi
    obtain ⟨e, he, hb⟩ := Array.any_eq_true'.1 this
    simp only [Bool.and_eq_true, beq_iff_eq] at hb
    exact ⟨e, he, hb.1, hb.2⟩
  have hpre : ∀ i ∈ pre, finOf l.toArray pre i = false := by
    intro i hi
    unfold finOf
    have : pre.contains i = true := by simpa using hi
    rw [this]
    simp
  have key := wpAny_of_K _ _ _ _ (mix_head (Q := Q) hsel hft hfin hpre pre _ a w.drew hB hS h')
  have hq : (Code.region id l.toArray true).wp P (normalOnly Q) a w := by
    refine wp_region_any hm ?_
    rw [hlen] at key
    exact key
  exact Go.wp_mono hq fun e a w hq => by cases e <;> first | exact hq | exact hq.elim
end
end Go.Proofs.Ytkbhmajcddmhnaa

/- Slices that a call makes itself, as lists of rows of cells; append. -/
namespace Go.Proofs.Ytkbhmajcddmhnaa
open Go.RowKit
set_option linter.unusedVariables false

theorem Ext.grownBy {w w' : World} (h : Ext w w') : w.grownBy w' none := ⟨h.os, h.tape, h.output, h.size, fun k hk _ => h.block k hk⟩

/-- the slice v owns these rows of sz cells each, from block 'base' on -/
def Owns (w : World) (base : Nat) (e : TypeId) (sz : Nat) (v : Value) (rows : List (List Value)) : Prop :=
  w.ownsRow base e sz v rows.length rows.flatten ∧ ∀ r ∈ rows, r.length = sz

section
variable {w w' : World} {base : Nat} {e : TypeId} {sz : Nat} {v : Value} {rows : List (List Value)}
theorem Owns.nil (w : World) (base : Nat) (e : TypeId) (sz : Nat) : Owns w base e sz (.slice none 0 0) [] := ⟨World.ownsRow_nil _ _ _ _, by simp⟩
theorem Owns.kept {row : Option Nat} (h : Owns w base e sz v rows) (hg : w.grownBy w' row) (hne : v.ownBlock = none ∨ v.ownBlock ≠ row) : Owns w' base e sz v rows := ⟨h.1.kept hg hne, h.2⟩
theorem Owns.ext (h : Owns w base e sz v rows) (hx : Ext w w') : Owns w' base e sz v rows := h.kept hx.grownBy (by cases v.ownBlock <;> simp)
theorem Owns.alloc (h : Owns w base e sz v rows) (o : Obj) : Owns (w.alloc o) base e sz v rows := ⟨h.1.alloc o, h.2⟩
theorem Owns.drew (h : Owns w base e sz v rows) : Owns w.drew base e sz v rows := ⟨h.1, h.2⟩
theorem Owns.lt (h : Owns w base e sz v rows) : ∀ k, v.ownBlock = some k → base ≤ k ∧ k < w.heap.size := h.1.lt

theorem flatten_length {rows : List (List Value)} {sz : Nat} (h : ∀ r ∈ rows, r.length = sz) : rows.flatten.length = rows.length * sz := by
  induction rows with
  | nil => simp
  | cons r rows ih =>
    simp only [List.flatten_cons, List.length_append, List.length_cons]
    rw [ih (fun x hx => h x (List.mem_cons_of_mem _ hx)), h r (List.mem_cons_self ..), Nat.add_mul]
    omega
theorem flatten_get {sz : Nat} : ∀ {rows : List (List Value)}, (∀ r ∈ rows, r.length = sz) → ∀ (k j : Nat) (r : List Value), rows[k]? = some r → j < sz → rows.flatten[k * sz + j]? = r[j]?
  | [], _, k, j, r, hr, _ => by simp at hr
  | x :: rows, h, k, j, r, hr, hj => by
    have hx := h x (List.mem_cons_self ..)
    cases k with
    | zero =>
      simp only [List.getElem?_cons_zero, Option.some.injEq] at hr
      subst hr
      rw [List.flatten_cons, List.getElem?_append_left (by omega)]
      simp
    | succ k =>
      simp only [List.getElem?_cons_succ] at hr
      rw [List.flatten_cons, List.getElem?_append_right (by rw [hx, Nat.add_mul]; omega)]
      rw [hx, show (k + 1) * sz + j - sz = k * sz + j by rw [Nat.add_mul]; omega]
      exact flatten_get (fun y hy => h y (List.mem_cons_of_mem _ hy)) k j r hr hj
theorem flatten_inv {sz : Nat} : ∀ {rows : List (List Value)}, (∀ r ∈ rows, r.length = sz) → ∀ (i : Nat) (u : Value), rows.flatten[i]? = some u → ∃ k j r, i = k * sz + j ∧ j < sz ∧ rows[k]? = some r ∧ r[j]? = some u
  | [], _, i, u, hu => by simp at hu
  | x :: rows, h, i, u, hu => by
    have hx := h x (List.mem_cons_self ..)
    rw [List.flatten_cons] at hu
    rcases Nat.lt_or_ge i x.length with hi | hi
    · rw [List.getElem?_append_left hi] at hu
      exact ⟨0, i, x, by simp, by omega, rfl, hu⟩
    · rw [List.getElem?_append_right hi] at hu
      obtain ⟨k, j, r, e, hj, hr, hu⟩ := flatten_inv (fun y hy => h y (List.mem_cons_of_mem _ hy)) _ u hu
      exact ⟨k + 1, j, r, by rw [Nat.add_mul]; omega, hj, by simpa using hr, hu⟩

theorem addr_add (b k : Nat) : (⟨b, 0, none⟩ : Addr).add k = ⟨b, k, none⟩ := by unfold Addr.add; split <;> simp_all
theorem addr_add' (b o k : Nat) : (⟨b, o, none⟩ : Addr).add k = ⟨b, o + k, none⟩ := by unfold Addr.add; split <;> simp_all

theorem SlAt.congr {a : Option Addr} {n : Nat} {f g : Nat → List Value} (h : SlAt w sz a n f) (hfg : ∀ k, k < n → f k = g k) : SlAt w sz a n g :=
  fun hn => let ⟨b, off, ha, hc⟩ := h hn; ⟨b, off, ha, fun k hk => hfg k hk ▸ hc k hk⟩

/-- what is owned can be read -/
theorem Owns.slAt (h : Owns w base e sz v rows) : ∃ a c, v = .slice a rows.length c ∧ From base a ∧ rows.length ≤ c ∧ c ≤ maxLen ∧ SlAt w sz a rows.length (fun k => rows.getD k []) := by
  obtain ⟨ho, hr⟩ := h
  rcases ho.2 with ⟨rfl, h0⟩ | ⟨g, cap, cur, rfl, hg, _, hn, hcap, _, _⟩
  · have : rows = [] := List.length_eq_zero_iff.1 h0
    subst this
    exact ⟨none, 0, rfl, From.none _, Nat.le_refl _, by unfold maxLen; omega, fun h => absurd h (by simp)⟩
  · refine ⟨_, _, rfl, fun x hx => by cases hx; exact hg, hn, hcap, fun h0 => ⟨g, 0, rfl, fun k hk j u hu => ?_⟩⟩
    obtain ⟨r, hrk⟩ : ∃ r, rows[k]? = some r := ⟨rows[k], by simp⟩
    simp only [List.getD, hrk, Option.getD_some] at hu
    have hjs : j < sz := by
      have := hr r (List.mem_of_getElem? hrk)
      rcases Nat.lt_or_ge j r.length with h | h
      · omega
      · simp [List.getElem?_eq_none h] at hu
    have := ho.cells (g := g) rfl (k * sz + j) u (by rw [flatten_get hr k j r hrk hjs]; exact hu)
    rw [addr_add] at this
    simpa using this
end

theorem Ext.app {a b c : World} {e : TypeId} {sz : Nat} {v : Value} {rows : List (List Value)} (h : Ext a b) (ho : Owns b a.heap.size e sz v rows) (hg : b.grownBy c v.ownBlock) : Ext a c :=
  Below.grown h hg h.size (fun k hk => (ho.lt k hk).1)

/-- what the laws on append ask of a slice type's element -/
structure Elem (P : Program) (T e : TypeId) (sz : Nat) : Prop where
  ht : P.underlying T = some (.slice e)
  hi : ∃ i z bytes, P.info? e = some i ∧ i.zero = some z ∧ i.size = sz ∧ i.bytes = bytes ∧ z.cells.size = sz ∧ bytes ≤ 4096
  hsz : 0 < sz

theorem run_append_zero {P : Program} {w : World} {base : Nat} {T ty e : TypeId} {sz : Nat} {v : Value} {n : Nat} {xs : List Value} (E : Elem P T e sz) (hown : w.ownsRow base e sz v n xs) (xa : Option Addr) (c : Nat) :
    (Builtin.append_ #[T, T] ty #[v, .slice xa 0 c]).run P w = .ok v w := by
  obtain ⟨i, z, bytes, hi, _⟩ := E.hi
  rcases hown.2 with ⟨rfl, rfl⟩ | ⟨g, cap, cur, rfl, _, _, hnc, _⟩ <;> cases xa
  · simp [Builtin.append_, run_underlying E.ht, sizeOf, typeInfo, hi, Builtin.lenOf, Builtin.firstCells]
  · simp [Builtin.append_, run_underlying E.ht, sizeOf, typeInfo, hi, Builtin.lenOf, Builtin.firstCells, loadCells, loadCellsFrom]
  · simp [Builtin.append_, run_underlying E.ht, sizeOf, typeInfo, hi, Builtin.lenOf, Builtin.firstCells, hnc, storeCells]
  · simp [Builtin.append_, run_underlying E.ht, sizeOf, typeInfo, hi, Builtin.lenOf, Builtin.firstCells, hnc, storeCells, loadCells, loadCellsFrom]

/-- append onto what is the call's own -/
theorem wpList_app {P : Program} {T e : TypeId} {sz : Nat} (E : Elem P T e sz) (w : World) {ops : Array Oper} {rest : List Oper} {o : Oper} {a : Act} {Q : Exit → Act → World → Prop} (hgd : o.guard = none) (s x : Operand)
    (ho : o.op = .call { callee := .builtin .append, args := #[s, x], argTypes := #[T, T] })
    (base : Nat) (v : Value) (rows : List (List Value)) (hs : a.eval s = v) (hown : Owns w base e sz v rows)
    (xa : Option Addr) (m c : Nat) (news : List (List Value)) (hx : a.eval x = .slice xa m c) (hm : news.length = m) (hsrc : SlAt w sz xa m (fun k => news.getD k []))
    (hrow : ∀ r ∈ news, r.length = sz ∧ ∀ u ∈ r, u.oneCell' = true) (hlen : rows.length + m ≤ 1000000000) (hbase : base ≤ w.heap.size)
    (h : ∀ v' w', Owns w' base e sz v' (rows ++ news) → w.grownBy w' v.ownBlock → (v'.ownBlock = v.ownBlock ∨ v'.ownBlock = some w.heap.size) → wpList P ops Q rest (a.put o.dst v') w') :
    wpList P ops Q (o :: rest) a w := by
  by_cases h0 : m = 0
  · subst h0
    obtain rfl : news = [] := List.length_eq_zero_iff.1 hm
    refine wpList_plain hgd fun K hK => ?_
    have hr := run_append_zero (P := P) (ty := o.type) E hown.1 xa c
    unfold Oper.wp execOp
    simp only [ho, resolve, invoke, builtin, Sem.run_bind, Sem.run_pure, Result.andThen_ok, List.map_toArray, List.map_cons, List.map_nil, hs, hx, hr]
    exact hK _ _ (h v w (by simpa using hown) (World.grownBy.refl w _) (.inl rfl))
  · obtain ⟨i, z, bytes, hi, hz, h1, h2, h3, h4⟩ := E.hi
    obtain ⟨b, off, rfl, hc⟩ := hsrc (by omega)
    refine wpList_append_own_at w hgd s x T ho base e i z sz bytes E.ht hi hz h1 h2 h3 E.hsz v rows.length rows.flatten hs hown.1 ⟨b, off, none⟩ m c news.flatten hx ?_ ?_ ?_ ?_ ?_ hbase ?_
    · rw [flatten_length (fun r hr => (hrow r hr).1), hm]
    · intro j u hu
      obtain ⟨k, j', r, rfl, hj', hr, hu'⟩ := flatten_inv (fun r hr => (hrow r hr).1) j u hu
      have hk : k < m := by
        rcases Nat.lt_or_ge k news.length with h | h
        · omega
        · simp [List.getElem?_eq_none h] at hr
      have := hc k hk j' u (by simp only [List.getD, hr, Option.getD_some]; exact hu')
      rw [addr_add', ← Nat.add_assoc]
      exact this
    · intro u hu
      obtain ⟨r, hr, hu'⟩ := List.mem_flatten.1 hu
      exact (hrow r hr).2 u hu'
    · unfold maxLen; omega
    · have : (rows.length + m) * bytes ≤ 1000000000 * 4096 := Nat.mul_le_mul hlen h4
      omega
    · intro v' w' o1 o2 _ o3
      refine h v' w' ⟨by rw [List.length_append, List.flatten_append, hm]; exact o1, fun r hr => ?_⟩ o2 o3
      rcases List.mem_append.1 hr with hr | hr
      · exact hown.2 r hr
      · exact (hrow r hr).1

/-! ### lists of numbers -/
def intRows (k : IntKind) (l : List Int) : List (List Value) := l.map fun z => [.int k z]
theorem intRows_append (k : IntKind) (l m : List Int) : intRows k (l ++ m) = intRows k l ++ intRows k m := by simp [intRows]
theorem intRows_row (k : IntKind) (l : List Int) : ∀ r ∈ intRows k l, r.length = 1 ∧ ∀ u ∈ r, u.oneCell' = true := by
  intro r hr
  obtain ⟨z, _, rfl⟩ := List.mem_map.1 hr
  exact ⟨rfl, fun u hu => by simp at hu; subst hu; rfl⟩
theorem IntsAt.src {k : IntKind} {w : World} {a : Option Addr} {n : Nat} {l : List Int} (h : IntsAt k w a n l) : SlAt w 1 a n (fun i => (intRows k l).getD i []) :=
  h.2.congr fun i hi => by
    have : i < l.length := by rw [h.1]; exact hi
    simp [intRows, List.getD, List.getElem?_map, List.getElem?_eq_getElem this]
theorem ints_of_owns {k : IntKind} {w : World} {B : Nat} {e : TypeId} {v : Value} {l : List Int} (h : Owns w B e 1 v (intRows k l)) : ∃ a c, v = .slice a l.length c ∧ From B a ∧ l.length ≤ c ∧ c ≤ maxLen ∧ IntsAt k w a l.length l := by
  obtain ⟨a, c, hv, h0, h1, h2, h3⟩ := h.slAt
  have e : (intRows k l).length = l.length := by simp [intRows]
  rw [e] at hv h1 h3
  refine ⟨a, c, hv, h0, h1, h2, rfl, h3.congr fun i hi => ?_⟩
  simp [intRows, List.getD, List.getElem?_map, List.getElem?_eq_getElem hi]
/-- one value, in a new block of its own -/
theorem slAt_one {w : World} {sz b : Nat} {r : List Value} (h : Cells w b 0 r) : SlAt w sz (some ⟨b, 0, none⟩) 1 (fun k => [r].getD k []) :=
  fun _ => ⟨b, 0, rfl, fun k hk => by
    obtain rfl : k = 0 := by omega
    simpa using h⟩
theorem cells_one {w : World} {b : Nat} {v : Value} (h : w.cell? ⟨b, 0, none⟩ = some v) : Cells w b 0 [v] := by
  intro j u hu
  cases j with
  | zero => simp at hu; subst hu; simpa using h
  | succ j => simp at hu

/-! ### a block of cells that is written cell by cell -/
def setIn (i : Nat) (v : Value) : Obj → Obj
  | .cells c e f => .cells (c.setIfInBounds i v) e f
  | o => o
theorem heap_setCell_box (w : World) (g i : Nat) (v : Value) : (w.setCell ⟨g, i, none⟩ v).heap[g]? = (w.heap[g]?).map (setIn i v) := by
  simp only [World.setCell, Array.getElem?_modify, if_true]
  congr 1
theorem setIn_cells (i : Nat) (v : Value) (c : Array Value) (e : TypeId) (f : Nat × Nat) : setIn i v (.cells c e f) = .cells (c.setIfInBounds i v) e f := rfl

/-- two results, the first one an aggregate in a variable of its own -/
theorem results_cell_tmp {P : Program} {fn : Func} {p t : Tmp} {ty : TypeId} (h : fn.results = #[.cell p ty, .tmp t]) (tmps : Array Value) (w : World) (g : Nat) (T : TypeId) (cs : Array Value) (fr : Nat × Nat) (d : TypeDesc)
    (hp : tmps.getD p undef = .pointer (some ⟨g, 0, none⟩)) (hg : w.heap[g]? = some (.cells cs T fr))
    (hu : P.underlying ty = some d) (hd : (match d with | .struct _ | .array _ _ => true | _ => false) = true) (hi : (P.info? ty).map (·.size) = some cs.size) :
    (results fn tmps).run P w = .ok (.tuple #[.agg cs, tmps.getD t undef]) w := by
  have hp' : tmps[p]?.getD undef = .pointer (some ⟨g, 0, none⟩) := by simpa using hp
  simp [results, h, hp', asAddr, run_loadVar_row w g T ty cs fr d hg hu hd hi]
end Go.Proofs.Ytkbhmajcddmhnaa

/- A region that draws its order: a tree of the orders that matter; what only reads is taken first wherever it may come up, what changes the world comes in each order that the tree names. -/
namespace Go.Proofs.Ytkbhmajcddmhnaa
open Go.RowKit
set_option linter.unusedVariables false

/-- the plan: 'take' some that only read; 'one' that must come next; 'two' of which either may come next -/
inductive TT where
  | done
  | take (l : List Nat) (r : TT)
  | one (k : Nat) (r : TT)
  | two (k : Nat) (r : TT) (k' : Nat) (r' : TT)
def TT.len : TT → Nat
  | .done => 0
  | .take l r => l.length + r.len
  | .one _ r => r.len + 1
  | .two _ r _ _ => r.len + 1
/-- the plan with the operations themselves -/
inductive OT where
  | done
  | take (l : List Oper) (r : OT)
  | one (o : Oper) (r : OT)
  | two (o : Oper) (r : OT) (o' : Oper) (r' : OT)
def oneOp : Option Oper → OT → OT
  | some o, r => .one o r
  | none, r => r
def twoOp : Option Oper → OT → Option Oper → OT → OT
  | some o, r, some o', r' => .two o r o' r'
  | _, r, _, _ => r
def treeOf (ops : Array Oper) : TT → OT
  | .done => .done
  | .take l r => .take (opsOf ops l) (treeOf ops r)
  | .one k r => oneOp ops[k]? (treeOf ops r)
  | .two k r k' r' => twoOp ops[k]? (treeOf ops r) ops[k']? (treeOf ops r')

def takesB (ops : Array Oper) : List Nat → Array Bool → Bool
  | [], _ => true
  | k :: r, listed => (Region.ready .any ops listed).contains k && Region.free .any ops listed k && plainOp ops k && takesB ops r (listed.setIfInBounds k true)
def marked : List Nat → Array Bool → Array Bool
  | [], listed => listed
  | k :: r, listed => marked r (listed.setIfInBounds k true)
def treeB (ops : Array Oper) : TT → Array Bool → Bool
  | .done, listed => (Region.ready .any ops listed).isEmpty
  | .take l r, listed => takesB ops l listed && treeB ops r (marked l listed)
  | .one k r, listed => (Region.ready .any ops listed == [k]) && treeB ops r (listed.setIfInBounds k true)
  | .two k r k' r', listed => (Region.ready .any ops listed == [k, k'] || Region.ready .any ops listed == [k', k]) && decide (r.len = r'.len) && treeB ops r (listed.setIfInBounds k true) && treeB ops r' (listed.setIfInBounds k' true)

section
variable {P : Program} {ops : Array Oper} {S : World → Prop} {Q : Exit → Act → World → Prop}

def stepOT (P : Program) (ops : Array Oper) (S : World → Prop) (Q : Exit → Act → World → Prop) (o : Oper) (K : Act → World → Prop) (a : Act) (w : World) : Prop :=
  if Region.wanted o (yielded ops a.tmps) then o.wp P a w (fun a' w' => S w' ∧ K a' w') (normalOnly Q) else S w ∧ K (a.put o.dst undef) w
def wpOT (P : Program) (ops : Array Oper) (S : World → Prop) (Q : Exit → Act → World → Prop) : OT → Act → World → Prop
  | .done, a, w => Q .normal a w
  | .take l r, a, w => wpQuiet P ops S (fun a' => wpOT P ops S Q r a' w) l a
  | .one o r, a, w => stepOT P ops S Q o (wpOT P ops S Q r) a w
  | .two o r o' r', a, w => stepOT P ops S Q o (wpOT P ops S Q r) a w ∧ stepOT P ops S Q o' (wpOT P ops S Q r') a w

theorem stepOT_of {o : Oper} {K : Act → World → Prop} {a : Act} {w : World} (h : wpList P ops (fun e a' w' => e = .normal ∧ S w' ∧ K a' w') [o] a w) : stepOT P ops S Q o K a w := by
  unfold wpList at h
  unfold stepOT
  split
  · rename_i hwd
    rw [if_pos hwd] at h
    rcases h with h | ⟨_, a0, w0, h0, _⟩
    · refine Oper.wp_monoQ (Q := fun e a' w' => e = .normal ∧ S w' ∧ K a' w') ?_ (Go.Oper.wp_mono (fun a' w' h' => ?_) h)
      · intro e a' w' hne h'
        exact absurd h'.1 hne
      · simp only [wpList] at h'
        exact h'.2
    · cases h0
  · rename_i hwd
    rw [if_neg hwd] at h
    simp only [wpList] at h
    exact h.2
theorem wpOT_done {a : Act} {w : World} (h : Q .normal a w) : wpOT P ops S Q .done a w := h
theorem wpOT_take {l : List Oper} {r : OT} {a : Act} {w : World} (h : wpQuiet P ops S (fun a' => wpOT P ops S Q r a' w) l a) : wpOT P ops S Q (.take l r) a w := h
theorem wpOT_one {o : Oper} {r : OT} {a : Act} {w : World} (h : wpList P ops (fun e a' w' => e = .normal ∧ S w' ∧ wpOT P ops S Q r a' w') [o] a w) : wpOT P ops S Q (.one o r) a w := stepOT_of h
theorem wpOT_two {o o' : Oper} {r r' : OT} {a : Act} {w : World} (h : wpList P ops (fun e a' w' => e = .normal ∧ S w' ∧ wpOT P ops S Q r a' w') [o] a w) (h' : wpList P ops (fun e a' w' => e = .normal ∧ S w' ∧ wpOT P ops S Q r' a' w') [o'] a w) :
    wpOT P ops S Q (.two o r o' r') a w := ⟨stepOT_of h, stepOT_of h'⟩

/-- two orders that come to the same kind of end -/
theorem join_two {F M : Nat → Nat → World → Prop} {X Y : Prop} (h1 : (∀ p q W, F p q W → M p q W) → X) (h2 : (∀ p q W, F p q W → M p q W) → Y) (h : ∀ p q W, F p q W → M p q W) : X ∧ Y := ⟨h1 h, h2 h⟩
theorem join_same {M X Y : Prop} (h1 : M → X) (h2 : M → Y) (h : M) : X ∧ Y := ⟨h1 h, h2 h⟩
theorem wpOT_both {o o' : Oper} {r r' : OT} {a : Act} {w : World} (h : wpList P ops (fun e a' w' => e = .normal ∧ S w' ∧ wpOT P ops S Q r a' w') [o] a w ∧ wpList P ops (fun e a' w' => e = .normal ∧ S w' ∧ wpOT P ops S Q r' a' w') [o'] a w) :
    wpOT P ops S Q (.two o r o' r') a w := wpOT_two h.1 h.2

theorem stepOT_op {k : Nat} {o : Oper} (ho : ops[k]? = some o) {K : Act → World → Prop} {a : Act} {w : World} (h : stepOT P ops S Q o K a w) : wpOp P ops (normalOnly Q) k (fun a' w' => S w' ∧ K a' w') a w := by
  unfold stepOT at h
  unfold wpOp
  simp only [ho]
  split
  · rename_i hw
    rw [if_pos hw] at h
    exact .inl h
  · rename_i hw
    rw [if_neg hw] at h
    exact h

theorem op_of_ready {k : Nat} {listed : Array Bool} (hk : k ∈ Region.ready .any ops listed) : ∃ o, ops[k]? = some o := by
  obtain ⟨_, o, ho, _⟩ := mem_ready.1 hk
  exact ⟨o, ho⟩

theorem takes_sound (hsel : Region.noSelect ops = true) {K : Act → Prop} : ∀ (l : List Nat) (n : Nat) (listed : Array Bool) (a : Act) (w : World), S w → takesB ops l listed = true →
    (∀ a', K a' → wpAnyH P .any ops (normalOnly Q) S n (marked l listed) a' w) → wpQuiet P ops S K (opsOf ops l) a → wpAnyH P .any ops (normalOnly Q) S (l.length + n) listed a w
  | [], n, listed, a, w, hS, hB, hK, h => by
    simp only [List.length_nil, Nat.zero_add]
    exact hK a (by simpa [opsOf, wpQuiet] using h)
  | k :: r, n, listed, a, w, hS, hB, hK, h => by
    simp only [takesB, Bool.and_eq_true] at hB
    obtain ⟨⟨⟨hr, hf⟩, hp⟩, hB'⟩ := hB
    obtain ⟨o, ho⟩ := op_of_ready (ops := ops) (show k ∈ Region.ready .any ops listed by simpa using hr)
    have e : opsOf ops (k :: r) = o :: opsOf ops r := by simp [opsOf, consOp, ho]
    rw [e] at h
    rw [show (k :: r).length + n = (r.length + n) + 1 by simp; omega]
    obtain ⟨v, hy, hrest⟩ : ∃ v, YieldsIf P ops S o v a ∧ wpQuiet P ops S K (opsOf ops r) (a.put o.dst v) := by
      unfold wpQuiet at h
      by_cases hw : Region.wanted o (yielded ops a.tmps) = true
      · rw [if_pos hw] at h
        obtain ⟨v, h1, h2⟩ := h
        refine ⟨v, .inl ⟨hw, fun W hW => ?_⟩, h2⟩
        have h3 := h1 W hW
        unfold Oper.quietAt at h3
        cases hrun : (execOp a.eval o).run P W with
        | ok x W' =>
          rw [hrun] at h3
          cases x <;> simp only [Oper.quietUpon] at h3
          case value u => rw [h3.1, h3.2]
          case skip => exact absurd hrun (plain_not_enter ho hp a.eval W 0 #[] W').2
          case enter f args => exact absurd hrun (plain_not_enter ho hp a.eval W f args W').1
        | halt x W' => rw [hrun] at h3; simp only [Oper.quietUpon] at h3
      · rw [if_neg hw] at h
        exact ⟨undef, .inr ⟨by simpa using hw, rfl⟩, h⟩
    exact wpAnyH_take ho hsel hf hr (fun _ _ _ h => h) hy hS (takes_sound hsel r n _ _ w hS hB' hK hrest)

theorem tree_sound (hsel : Region.noSelect ops = true) : ∀ (t : TT) (listed : Array Bool) (a : Act) (w : World), S w → treeB ops t listed = true → wpOT P ops S Q (treeOf ops t) a w → wpAnyH P .any ops (normalOnly Q) S t.len listed a w
  | .done, listed, a, w, hS, hB, h => wpAnyH_done (Q := normalOnly Q) (by simpa [treeB] using hB) (show normalOnly Q .normal a w from h) _
  | .take l r, listed, a, w, hS, hB, h => by
    simp only [treeB, Bool.and_eq_true] at hB
    exact takes_sound hsel l r.len listed a w hS hB.1 (fun a' h' => tree_sound hsel r _ a' w hS hB.2 h') h
  | .one k r, listed, a, w, hS, hB, h => by
    simp only [treeB, Bool.and_eq_true, beq_iff_eq] at hB
    obtain ⟨hr, hB'⟩ := hB
    obtain ⟨o, ho⟩ := op_of_ready (ops := ops) (show k ∈ Region.ready .any ops listed by rw [hr]; exact List.mem_singleton_self k)
    simp only [treeOf, ho, oneOp, wpOT] at h
    refine wpAnyH_all hr (by simp) fun i hi => ?_
    obtain rfl := List.mem_singleton.1 hi
    exact wpOp_mono (fun a' w' h' => ⟨h'.1, tree_sound hsel r _ a' w' h'.1 hB' h'.2⟩) (stepOT_op ho h)
  | .two k r k' r', listed, a, w, hS, hB, h => by
    simp only [treeB, Bool.and_eq_true, Bool.or_eq_true, beq_iff_eq, decide_eq_true_eq] at hB
    obtain ⟨⟨⟨hr, hlen⟩, hB1⟩, hB2⟩ := hB
    have hmem : ∀ i, i ∈ Region.ready .any ops listed ↔ i = k ∨ i = k' := fun i => by
      rcases hr with hr | hr <;> rw [hr] <;> simp [or_comm]
    obtain ⟨o, ho⟩ := op_of_ready (ops := ops) ((hmem k).2 (.inl rfl))
    obtain ⟨o', ho'⟩ := op_of_ready (ops := ops) ((hmem k').2 (.inr rfl))
    simp only [treeOf, ho, ho', twoOp, wpOT] at h
    refine wpAnyH_all rfl (by rcases hr with hr | hr <;> rw [hr] <;> simp) fun i hi => ?_
    rcases (hmem i).1 hi with rfl | rfl
    · exact wpOp_mono (fun a' w' h' => ⟨h'.1, tree_sound hsel r _ a' w' h'.1 hB1 h'.2⟩) (stepOT_op ho h.1)
    · refine wpOp_mono (fun a' w' h' => ⟨h'.1, ?_⟩) (stepOT_op ho' h.2)
      show wpAnyH P .any ops (normalOnly Q) S r.len _ a' w'
      rw [hlen]
      exact tree_sound hsel r' _ a' w' h'.1 hB2 h'.2

/-- THE THEOREM: S holds at the start and behind every operation; what is taken yields one value in every world that meets S. -/
theorem wp_region_tree {id : Nat} {l : List Oper} {a : Act} {w : World} (t : TT) (S : World → Prop) (ot : OT) (hm : P.follows .mixedOrders = true)
    (hB : (treeB l.toArray t (Array.replicate l.toArray.size false) && decide (t.len = l.toArray.size) && Region.noSelect l.toArray) = true)
    (h2 : treeOf l.toArray t = ot) (hS : S w.drew)
    (h : ∀ (ι : Type) [Inhabited ι] (f : ι → World), (∀ p, S (f p)) → (∀ W, S W → ∃ p, W = f p) → wpOT P l.toArray (fun W => ∃ p, W = f p) Q ot a w.drew) : (Code.region id l.toArray true).wp P Q a w := by
  simp only [Bool.and_eq_true, decide_eq_true_eq] at hB
  obtain ⟨⟨hB, hlen⟩, hsel⟩ := hB
  have hC : (fun W => ∃ p : {W : World // S W}, W = p.1) = S := by
    funext W
    exact propext ⟨fun ⟨p, hp⟩ => hp ▸ p.2, fun hW => ⟨⟨W, hW⟩, rfl⟩⟩
  have h' := @h {W : World // S W} ⟨⟨_, hS⟩⟩ (fun p => p.1) (fun p => p.2) (fun W hW => ⟨⟨W, hW⟩, rfl⟩)
  rw [hC, ← h2] at h'
  have key := tree_sound (Q := Q) hsel t _ a w.drew hS hB h'
  rw [hlen] at key
  exact Go.wp_mono (wp_region_held (Q := normalOnly Q) hm key) fun e a w hq => by cases e <;> first | exact hq | exact hq.elim
end
end Go.Proofs.Ytkbhmajcddmhnaa
