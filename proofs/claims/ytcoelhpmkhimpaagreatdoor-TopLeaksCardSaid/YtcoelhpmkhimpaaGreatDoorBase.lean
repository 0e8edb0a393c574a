/- What a world keeps when blocks are only added ('Ext'); rows of cells; slices of structs read as lists. No function of the program is named here. -/
import Derived.Test.YtcoelhpmkhimpaaGreatDoorRows
import Derived.Test.YtcoelhpmkhimpaaGreatDoorGeo
import Derived.WalkKit
import Derived.WalkSpells
import Derived.Lib.Hide
import Derived.Deep.QuietTactic
import Derived.BigQuiet
import Derived.Lib.QuietBelow
import Derived.Shelf.Abstract
namespace Go.Proofs.YtcoelhpmkhimpaaGreatDoor
open Go.RowKit
set_option linter.unusedVariables false

/-- Nothing that was there has changed; blocks may have been added. -/
def Ext (w w' : World) : Prop := Below w.heap.size w w'
theorem Ext.refl (w : World) : Ext w w := Below.refl _ _
theorem Ext.trans {a b c : World} (h : Ext a b) (k : Ext b c) : Ext a c := Below.trans h (Below.mono k h.size)
theorem Ext.alloc {a b : World} (h : Ext a b) (o : Obj) : Ext a (b.alloc o) := Below.alloc h h.size o
theorem Ext.drew {a b : World} (h : Ext a b) : Ext a b.drew := Below.drew h
theorem Ext.drewN {a b : World} (h : Ext a b) (n : Nat) : Ext a (b.drewN n) := ⟨h.os, h.tape, h.output, h.size, h.block⟩
theorem Ext.setCell {a b : World} (h : Ext a b) {p : Addr} (hp : a.heap.size ≤ p.block) (v : Value) : Ext a (b.setCell p v) := Below.setCell h hp v
theorem Ext.facts {W w1 : World} (hb : Ext W w1) : (∀ b o, b < W.heap.size → w1.cell? ⟨b, o, none⟩ = W.cell? ⟨b, o, none⟩) ∧ (∀ b o, b < W.heap.size → w1.frozen? ⟨b, o, none⟩ = W.frozen? ⟨b, o, none⟩) ∧ W.heap.size ≤ w1.heap.size :=
  ⟨fun b o h => Below.cell hb (p := ⟨b, o, none⟩) h, fun b o h => Below.frozen hb (p := ⟨b, o, none⟩) h, hb.size⟩
theorem Ext.cell {w w' : World} (h : Ext w w') {p : Addr} {v : Value} (hc : w.cell? p = some v) : w'.cell? p = some v := (Below.cell h (block_lt_of_cell hc)).trans hc
theorem Ext.heap {w w' : World} (h : Ext w w') {b : Nat} {o : Obj} (hc : w.heap[b]? = some o) : w'.heap[b]? = some o :=
  (Below.block h b (Array.getElem?_eq_some_iff.1 hc).1).trans hc

/-- a block of cells, still as it was -/
theorem Ext.box {w w' : World} (h : Ext w w') {b : Nat} {cs : Array Value} {t : TypeId} (hb : w.heap[b]? = some (.cells cs t (0, 0))) : (∀ j, w'.cell? ⟨b, j, none⟩ = cs[j]?) ∧ ∀ j, w'.frozen? ⟨b, j, none⟩ = false :=
  ⟨fun j => cell_of_row w' b j cs t (0, 0) (h.heap hb), fun j => frozen_of_row w' b j cs t (h.heap hb)⟩

theorem below_drawn (w : World) : Below w.heap.size w { w with drawn := w.drawn + 1 } := (Below.refl _ w).drew
theorem wpQuiet_weaken {P : Program} {ops : Array Oper} {C : World → Prop} {Q Q' : Act → Prop} (hq : ∀ a, Q a → Q' a) : ∀ {l : List Oper} {a : Act}, wpQuiet P ops C Q l a → wpQuiet P ops C Q' l a
  | [], a, h => hq a h
  | o :: rest, a, h => by
    unfold wpQuiet at *
    split
    · rename_i hw; rw [if_pos hw] at h
      exact Oper.quiet_mono (fun _ h => wpQuiet_weaken hq h) h
    · rename_i hw; rw [if_neg hw] at h
      exact wpQuiet_weaken hq h
/-- A REGION THAT DRAWS ITS ORDER, whose operations only read and whose calls only add blocks: walked once, in the order of the text; the class of worlds is named by a function f that is not looked into. -/
theorem wp_region_ext {P : Program} {id : Nat} {Q : Exit → Act → World → Prop} {a : Act} {w : World} {l : List Oper} (hm : P.follows .mixedOrders = true) (hB : Region.lexB .any l.toArray = true)
    (h : ∀ f : Regrown → World, (∀ p, Ext w (f p)) → (∀ W, Ext w W → ∃ p, W = f p) → wpQuiet P l.toArray (fun w' => ∃ p, w' = f p) (fun a' => ∀ W, Ext w W → Q .normal a' W) l a) : (Code.region id l.toArray true).wp P Q a w := by
  have hb : ∀ p : Regrown, Ext w (Sort.grow (redrawn w p.d) p.os) := fun p => below_regrown w p.d p.os
  have h' := h (fun p => Sort.grow (redrawn w p.d) p.os) hb (fun W hW => regrown_of_below hW)
  refine wp_region_quiet (C := fun w' => ∃ p : Regrown, w' = Sort.grow (redrawn w p.d) p.os) hm hB (regrown_of_below (below_drawn w)) ?_
  rw [List.toList_toArray]
  refine wpQuiet_weaken ?_ h'
  rintro a' hq W ⟨p, rfl⟩
  exact hq _ (hb p)
/-- A call in such a region. -/
theorem Calls.ext_of {P : Program} {g : FuncId} {args : Array Value} {w : World} {f : Regrown → World} {v : Value} {W : World} (h1 : Ext w W) (h2 : ∀ W, Ext w W → ∃ p, W = f p)
    (h : Calls P g args W fun e w' => e = .returned v ∧ Ext W w') : Calls P g args W fun e w' => e = .returned v ∧ ∃ p, w' = f p :=
  h.mono fun _ _ ⟨he, hb⟩ => ⟨he, h2 _ (h1.trans hb)⟩

/-- The cells from b, o on hold these values. -/
def Cells (w : World) (b o : Nat) (vs : List Value) : Prop := ∀ j v, vs[j]? = some v → w.cell? ⟨b, o + j, none⟩ = some v
theorem Cells.ext {w w' : World} {b o : Nat} {vs : List Value} (h : Cells w b o vs) (e : Ext w w') : Cells w' b o vs := fun j v hv => e.cell (h j v hv)

/-- n rows of 'sz' cells each. -/
def SlAt (w : World) (sz : Nat) (a : Option Addr) (n : Nat) (f : Nat → List Value) : Prop :=
  0 < n → ∃ b off, a = some ⟨b, off, none⟩ ∧ ∀ k, k < n → Cells w b (off + k * sz) (f k)
theorem SlAt.ext {w w' : World} {sz : Nat} {a : Option Addr} {n : Nat} {f : Nat → List Value} (h : SlAt w sz a n f) (e : Ext w w') : SlAt w' sz a n f :=
  fun hn => let ⟨b, off, ha, hc⟩ := h hn; ⟨b, off, ha, fun k hk => (hc k hk).ext e⟩

theorem SlAt.same {w w' : World} {sz : Nat} {a : Option Addr} {n : Nat} {f : Nat → List Value} (h : SlAt w sz a n f) (hb : ∀ x, a = some x → w'.heap[x.block]? = w.heap[x.block]?) : SlAt w' sz a n f :=
  fun hn => let ⟨b, off, ha, hc⟩ := h hn; ⟨b, off, ha, fun k hk j v hv => (World.cell?_of_block (w := w) (a := ⟨b, off + k * sz + j, none⟩) (hb ⟨b, off, none⟩ ha)).trans (hc k hk j v hv)⟩
/-- an address from block B on, if any -/
def From (B : Nat) (a : Option Addr) : Prop := ∀ x, a = some x → B ≤ x.block
theorem From.none (B : Nat) : From B none := fun x h => by cases h
theorem From.mono {B C : Nat} {a : Option Addr} (h : From B a) (hc : C ≤ B) : From C a := fun x hx => Nat.le_trans hc (h x hx)

/-! ### the data of layer 4 -/
def Span.cells (s : Span) : List Value := [.int .i64 s.lo, .int .i64 s.hi]
def Span.val (s : Span) : Value := .agg #[.int .i64 s.lo, .int .i64 s.hi]
def Half.cells (h : Half) : List Value := [.int .i64 h.a, .int .i64 h.b, .int .i64 h.c]
def Half.val (h : Half) : Value := .agg #[.int .i64 h.a, .int .i64 h.b, .int .i64 h.c]
def Trek.cells (t : Trek) : List Value := [.int .i64 t.d.lo, .int .i64 t.d.hi, .int .i64 t.e.lo, .int .i64 t.e.hi, .int .i64 t.n.lo, .int .i64 t.n.hi]
def Trek.val (t : Trek) : Value := .agg #[.int .i64 t.d.lo, .int .i64 t.d.hi, .int .i64 t.e.lo, .int .i64 t.e.hi, .int .i64 t.n.lo, .int .i64 t.n.hi]
def Sight.cells (s : Sight) : List Value := [.int .u8 s.kind, .int .i64 s.x, .int .i64 s.y, .int .i64 s.fx, .int .i64 s.fy, .int .i64 s.tx, .int .i64 s.ty, .int .i64 s.nl, .int .i64 s.nh, .int .i64 s.far]
def Sight.val (s : Sight) : Value := .agg #[.int .u8 s.kind, .int .i64 s.x, .int .i64 s.y, .int .i64 s.fx, .int .i64 s.fy, .int .i64 s.tx, .int .i64 s.ty, .int .i64 s.nl, .int .i64 s.nh, .int .i64 s.far]
def zt : Trek := ⟨zs, zs, zs⟩
def zl : Sight := ⟨0, 0, 0, 0, 0, 0, 0, 0, 0, 0⟩
/-- a slice of integers of a kind -/
def IntsAt (k : IntKind) (w : World) (a : Option Addr) (n : Nat) (l : List Int) : Prop := l.length = n ∧ SlAt w 1 a n fun i => [.int k (l.getD i 0)]
def SpansAt (w : World) (a : Option Addr) (n : Nat) (l : List Span) : Prop := l.length = n ∧ SlAt w 2 a n fun i => (l.getD i zs).cells
def HalvesAt (w : World) (a : Option Addr) (n : Nat) (l : List Half) : Prop := l.length = n ∧ SlAt w 3 a n fun i => (l.getD i zh).cells
def TreksAt (w : World) (a : Option Addr) (n : Nat) (l : List Trek) : Prop := l.length = n ∧ SlAt w 6 a n fun i => (l.getD i zt).cells
def SightsAt (w : World) (a : Option Addr) (n : Nat) (l : List Sight) : Prop := l.length = n ∧ SlAt w 10 a n fun i => (l.getD i zl).cells
theorem IntsAt.ext {k : IntKind} {w w' : World} {a : Option Addr} {n : Nat} {l : List Int} (h : IntsAt k w a n l) (e : Ext w w') : IntsAt k w' a n l := ⟨h.1, h.2.ext e⟩
theorem SpansAt.ext {w w' : World} {a : Option Addr} {n : Nat} {l : List Span} (h : SpansAt w a n l) (e : Ext w w') : SpansAt w' a n l := ⟨h.1, h.2.ext e⟩
theorem HalvesAt.ext {w w' : World} {a : Option Addr} {n : Nat} {l : List Half} (h : HalvesAt w a n l) (e : Ext w w') : HalvesAt w' a n l := ⟨h.1, h.2.ext e⟩
theorem TreksAt.ext {w w' : World} {a : Option Addr} {n : Nat} {l : List Trek} (h : TreksAt w a n l) (e : Ext w w') : TreksAt w' a n l := ⟨h.1, h.2.ext e⟩
theorem SightsAt.ext {w w' : World} {a : Option Addr} {n : Nat} {l : List Sight} (h : SightsAt w a n l) (e : Ext w w') : SightsAt w' a n l := ⟨h.1, h.2.ext e⟩
theorem HalvesAt.same {w w' : World} {a : Option Addr} {n : Nat} {l : List Half} (h : HalvesAt w a n l) (hb : ∀ x, a = some x → w'.heap[x.block]? = w.heap[x.block]?) : HalvesAt w' a n l := ⟨h.1, h.2.same hb⟩
theorem IntsAt.get {q : IntKind} {w : World} {a : Option Addr} {n : Nat} {l : List Int} (h : IntsAt q w a n l) (k : Nat) (hk : k < n) :
    ∃ b off x, a = some ⟨b, off, none⟩ ∧ l[k]? = some x ∧ b < w.heap.size ∧ w.cell? ⟨b, off + k, none⟩ = some (.int q x) := by
  obtain ⟨hl, h⟩ := h
  obtain ⟨b, off, ha, hc⟩ := h (by omega)
  have h0 := hc k hk 0 _ rfl
  simp only [Nat.mul_one, Nat.add_zero] at h0
  exact ⟨b, off, _, ha, by simp [List.getD, hl, hk], block_lt_of_cell h0, h0⟩
theorem SpansAt.get {w : World} {a : Option Addr} {n : Nat} {l : List Span} (h : SpansAt w a n l) (k : Nat) (hk : k < n) :
    ∃ b off x, a = some ⟨b, off, none⟩ ∧ l[k]? = some x ∧ b < w.heap.size ∧ w.cell? ⟨b, off + k * 2, none⟩ = some (.int .i64 x.lo) ∧ w.cell? ⟨b, off + k * 2 + 1, none⟩ = some (.int .i64 x.hi) := by
  obtain ⟨hl, h⟩ := h
  obtain ⟨b, off, ha, hc⟩ := h (by omega)
  have h0 := hc k hk 0 _ rfl
  simp only [Nat.add_zero] at h0
  exact ⟨b, off, _, ha, by simp [List.getD, hl, hk], block_lt_of_cell h0, h0, hc k hk 1 _ rfl⟩
theorem HalvesAt.get {w : World} {a : Option Addr} {n : Nat} {l : List Half} (h : HalvesAt w a n l) (k : Nat) (hk : k < n) :
    ∃ b off x, a = some ⟨b, off, none⟩ ∧ l[k]? = some x ∧ b < w.heap.size ∧ w.cell? ⟨b, off + k * 3, none⟩ = some (.int .i64 x.a) ∧ w.cell? ⟨b, off + k * 3 + 1, none⟩ = some (.int .i64 x.b) ∧ w.cell? ⟨b, off + k * 3 + 2, none⟩ = some (.int .i64 x.c) := by
  obtain ⟨hl, h⟩ := h
  obtain ⟨b, off, ha, hc⟩ := h (by omega)
  have h0 := hc k hk 0 _ rfl
  simp only [Nat.add_zero] at h0
  exact ⟨b, off, _, ha, by simp [List.getD, hl, hk], block_lt_of_cell h0, h0, hc k hk 1 _ rfl, hc k hk 2 _ rfl⟩
theorem TreksAt.get {w : World} {a : Option Addr} {n : Nat} {l : List Trek} (h : TreksAt w a n l) (k : Nat) (hk : k < n) :
    ∃ b off x, a = some ⟨b, off, none⟩ ∧ l[k]? = some x ∧ b < w.heap.size ∧ w.cell? ⟨b, off + k * 6, none⟩ = some (.int .i64 x.d.lo) ∧ w.cell? ⟨b, off + k * 6 + 1, none⟩ = some (.int .i64 x.d.hi) ∧ w.cell? ⟨b, off + k * 6 + 2, none⟩ = some (.int .i64 x.e.lo) ∧ w.cell? ⟨b, off + k * 6 + 3, none⟩ = some (.int .i64 x.e.hi) ∧ w.cell? ⟨b, off + k * 6 + 4, none⟩ = some (.int .i64 x.n.lo) ∧ w.cell? ⟨b, off + k * 6 + 5, none⟩ = some (.int .i64 x.n.hi) := by
  obtain ⟨hl, h⟩ := h
  obtain ⟨b, off, ha, hc⟩ := h (by omega)
  have h0 := hc k hk 0 _ rfl
  simp only [Nat.add_zero] at h0
  exact ⟨b, off, _, ha, by simp [List.getD, hl, hk], block_lt_of_cell h0, h0, hc k hk 1 _ rfl, hc k hk 2 _ rfl, hc k hk 3 _ rfl, hc k hk 4 _ rfl, hc k hk 5 _ rfl⟩
theorem SightsAt.get {w : World} {a : Option Addr} {n : Nat} {l : List Sight} (h : SightsAt w a n l) (k : Nat) (hk : k < n) :
    ∃ b off x, a = some ⟨b, off, none⟩ ∧ l[k]? = some x ∧ b < w.heap.size ∧ w.cell? ⟨b, off + k * 10, none⟩ = some (.int .u8 x.kind) ∧ w.cell? ⟨b, off + k * 10 + 1, none⟩ = some (.int .i64 x.x) ∧ w.cell? ⟨b, off + k * 10 + 2, none⟩ = some (.int .i64 x.y) ∧ w.cell? ⟨b, off + k * 10 + 3, none⟩ = some (.int .i64 x.fx) ∧ w.cell? ⟨b, off + k * 10 + 4, none⟩ = some (.int .i64 x.fy) ∧ w.cell? ⟨b, off + k * 10 + 5, none⟩ = some (.int .i64 x.tx) ∧ w.cell? ⟨b, off + k * 10 + 6, none⟩ = some (.int .i64 x.ty) ∧ w.cell? ⟨b, off + k * 10 + 7, none⟩ = some (.int .i64 x.nl) ∧ w.cell? ⟨b, off + k * 10 + 8, none⟩ = some (.int .i64 x.nh) ∧ w.cell? ⟨b, off + k * 10 + 9, none⟩ = some (.int .i64 x.far) := by
  obtain ⟨hl, h⟩ := h
  obtain ⟨b, off, ha, hc⟩ := h (by omega)
  have h0 := hc k hk 0 _ rfl
  simp only [Nat.add_zero] at h0
  exact ⟨b, off, _, ha, by simp [List.getD, hl, hk], block_lt_of_cell h0, h0, hc k hk 1 _ rfl, hc k hk 2 _ rfl, hc k hk 3 _ rfl, hc k hk 4 _ rfl, hc k hk 5 _ rfl, hc k hk 6 _ rfl, hc k hk 7 _ rfl, hc k hk 8 _ rfl, hc k hk 9 _ rfl⟩
/-! ### plain words -/
/-- the first index at which p holds, or -1 -/
def idxI {α : Type} (p : α → Bool) (l : List α) : Int := match l.findIdx? p with | some i => (i : Int) | none => -1
theorem idxI_none {α : Type} {p : α → Bool} {l : List α} (h : ∀ (j : Nat) (x : α), l[j]? = some x → p x = false) : idxI p l = -1 := by
  have : l.findIdx? p = none := by
    rw [List.findIdx?_eq_none_iff]
    intro x hx
    obtain ⟨j, hj⟩ := List.mem_iff_getElem?.1 hx
    exact h j x hj
  simp [idxI, this]
theorem idxI_some {α : Type} {p : α → Bool} {l : List α} {k : Nat} {x : α} (hx : l[k]? = some x) (hp : p x = true) (h : ∀ (j : Nat) (y : α), j < k → l[j]? = some y → p y = false) : idxI p l = (k : Int) := by
  have hk : k < l.length := by rcases Nat.lt_or_ge k l.length with h' | h'; exact h'; simp [List.getElem?_eq_none h'] at hx
  have : l.findIdx? p = some k := by
    rw [List.findIdx?_eq_some_iff_getElem]
    have e : l[k] = x := by simpa [List.getElem?_eq_getElem hk] using hx
    refine ⟨hk, by rw [e]; exact hp, fun j hj => ?_⟩
    have := h j l[j] hj (by simp)
    simp [this]
  simp [idxI, this]
theorem idxI_ge {α : Type} (p : α → Bool) (l : List α) : decide (0 ≤ idxI p l) = l.any p := by
  unfold idxI
  cases h : l.findIdx? p with
  | none =>
    rw [List.findIdx?_eq_none_iff] at h
    symm; simp only [Int.reduceNeg, Int.reduceLE, decide_false]; rw [List.any_eq_false]; intro x hx; simp [h x hx]
  | some i =>
    rw [List.findIdx?_eq_some_iff_getElem] at h
    obtain ⟨hi, hp, _⟩ := h
    have : l.any p = true := List.any_eq_true.2 ⟨_, List.getElem_mem hi, hp⟩
    rw [this]; simp
theorem any_not {α : Type} (p : α → Bool) (l : List α) : (!(l.any fun x => !p x)) = l.all p := by induction l <;> simp_all
theorem ret_bool {a b : Bool} (h : a = b) : Ending.returned (.bool a) = .returned (.bool b) := by rw [h]
theorem ret_int {k : IntKind} {a b : Int} (h : a = b) : Ending.returned (.int k a) = .returned (.int k b) := by rw [h]
end Go.Proofs.YtcoelhpmkhimpaaGreatDoor
