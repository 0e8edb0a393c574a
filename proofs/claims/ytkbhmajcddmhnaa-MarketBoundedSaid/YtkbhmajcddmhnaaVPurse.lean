/- Purses, losses, barters: how they lie in memory; a world of which one block may have changed. -/
import Derived.Test.YtkbhmajcddmhnaaVGr1
import Derived.Test.YtkbhmajcddmhnaaVGr4
namespace Go.Proofs.Ytkbhmajcddmhnaa
open Go.RowKit
set_option linter.unusedVariables false

/-- nothing that was there has changed, but for block p -/
def Only (p : Nat) (w w' : World) : Prop := w.grownBy w' (some p)
theorem Ext.only {w w' : World} (h : Ext w w') (p : Nat) : Only p w w' := ⟨h.os, h.tape, h.output, h.size, fun k hk _ => h.block k hk⟩
theorem Only.refl (p : Nat) (w : World) : Only p w w := (Ext.refl w).only p
theorem Only.trans {p : Nat} {a b c : World} (h : Only p a b) (k : Only p b c) : Only p a c :=
  ⟨k.os.trans h.os, k.tape.trans h.tape, k.output.trans h.output, Nat.le_trans h.size k.size, fun i hi hne => (k.block i (Nat.lt_of_lt_of_le hi h.size) hne).trans (h.block i hi hne)⟩
theorem Only.ext {p : Nat} {a b c : World} (h : Only p a b) (k : Ext b c) : Only p a c := h.trans (k.only p)
theorem Only.alloc {p : Nat} {a b : World} (h : Only p a b) (o : Obj) : Only p a (b.alloc o) := h.ext ((Ext.refl _).alloc o)
theorem Only.drew {p : Nat} {a b : World} (h : Only p a b) : Only p a b.drew := h.ext (Ext.refl _).drew
theorem Only.setCell {p : Nat} {a b : World} (h : Only p a b) {x : Addr} (hx : x.block = p ∨ a.heap.size ≤ x.block) (v : Value) : Only p a (b.setCell x v) :=
  ⟨h.os, h.tape, h.output, Nat.le_trans h.size (by simp [World.setCell]), fun k hk hne => by
    have hkx : k ≠ x.block := by
      rintro rfl
      rcases hx with e | e
      · exact hne (by rw [e])
      · omega
    exact (Below.heap_setCell _ _ _ _ hkx).trans (h.block k hk hne)⟩
theorem Only.heap {p : Nat} {w w' : World} (h : Only p w w') {b : Nat} {o : Obj} (hb : w.heap[b]? = some o) (hne : b ≠ p) : w'.heap[b]? = some o :=
  (h.block b (Array.getElem?_eq_some_iff.1 hb).1 (by simpa using hne)).trans hb
theorem Only.cell {p : Nat} {w w' : World} (h : Only p w w') {x : Addr} {v : Value} (hc : w.cell? x = some v) (hne : x.block ≠ p) : w'.cell? x = some v :=
  (World.cell?_of_block (h.block x.block (block_lt_of_cell hc) (by simpa using hne))).trans hc
theorem Only.box {p : Nat} {w w' : World} (h : Only p w w') {b : Nat} {cs : Array Value} {t : TypeId} (hb : w.heap[b]? = some (.cells cs t (0, 0))) (hne : b ≠ p) : (∀ j, w'.cell? ⟨b, j, none⟩ = cs[j]?) ∧ ∀ j, w'.frozen? ⟨b, j, none⟩ = false :=
  ⟨fun j => cell_of_row w' b j cs t (0, 0) (h.heap hb hne), fun j => frozen_of_row w' b j cs t (h.heap hb hne)⟩
/-- seen from a world in which block p was not yet there -/
theorem Ext.only_trans {p : Nat} {a b c : World} (h : Ext a b) (k : Only p b c) (hp : a.heap.size ≤ p) : Ext a c :=
  ⟨k.os.trans h.os, k.tape.trans h.tape, k.output.trans h.output, Nat.le_trans h.size k.size, fun i hi => (k.block i (Nat.lt_of_lt_of_le hi h.size) (by simp; omega)).trans (h.block i hi)⟩
theorem Owns.only {w w' : World} {p base : Nat} {e : TypeId} {sz : Nat} {v : Value} {rows : List (List Value)} (h : Owns w base e sz v rows) (k : Only p w w') (hp : p < base) : Owns w' base e sz v rows :=
  h.kept k (by
    right
    intro e
    have := (h.lt p e).1
    omega)

structure Loss where
  road : Int
  good : Int
  lo : Int
  hi : Int
  deriving DecidableEq
def Loss.cells (x : Loss) : List Value := [.int .i64 x.road, .int .i64 x.good, .int .i64 x.lo, .int .i64 x.hi]
structure Barter where
  fair : Int
  offer : Int
  times : Int
  deriving DecidableEq
def Barter.cells (x : Barter) : List Value := [.int .i64 x.fair, .int .i64 x.offer, .int .i64 x.times]
def LossesAt (w : World) (a : Option Addr) (n : Nat) (l : List Loss) : Prop := l.length = n ∧ SlAt w 4 a n fun i => (l.getD i ⟨0, 0, 0, 0⟩).cells
def BartersAt (w : World) (a : Option Addr) (n : Nat) (l : List Barter) : Prop := l.length = n ∧ SlAt w 3 a n fun i => (l.getD i ⟨0, 0, 0⟩).cells
theorem LossesAt.ext {w w' : World} {a : Option Addr} {n : Nat} {l : List Loss} (h : LossesAt w a n l) (e : Ext w w') : LossesAt w' a n l := ⟨h.1, h.2.ext e⟩
theorem BartersAt.ext {w w' : World} {a : Option Addr} {n : Nat} {l : List Barter} (h : BartersAt w a n l) (e : Ext w w') : BartersAt w' a n l := ⟨h.1, h.2.ext e⟩
theorem BartersAt.get {w : World} {a : Option Addr} {n : Nat} {l : List Barter} (h : BartersAt w a n l) (k : Nat) (hk : k < n) :
    ∃ b off x, a = some ⟨b, off, none⟩ ∧ l[k]? = some x ∧ b < w.heap.size ∧ w.cell? ⟨b, off + k * 3, none⟩ = some (.int .i64 x.fair) ∧ w.cell? ⟨b, off + k * 3 + 1, none⟩ = some (.int .i64 x.offer) ∧ w.cell? ⟨b, off + k * 3 + 2, none⟩ = some (.int .i64 x.times) := by
  obtain ⟨hl, h⟩ := h
  obtain ⟨b, off, ha, hc⟩ := h (by omega)
  have h0 := hc k hk 0 _ rfl
  simp only [Nat.add_zero] at h0
  exact ⟨b, off, _, ha, by simp [List.getD, hl, hk], block_lt_of_cell h0, h0, hc k hk 1 _ rfl, hc k hk 2 _ rfl⟩
theorem LossesAt.get {w : World} {a : Option Addr} {n : Nat} {l : List Loss} (h : LossesAt w a n l) (k : Nat) (hk : k < n) :
    ∃ b off x, a = some ⟨b, off, none⟩ ∧ l[k]? = some x ∧ b < w.heap.size ∧ w.cell? ⟨b, off + k * 4, none⟩ = some (.int .i64 x.road) ∧ w.cell? ⟨b, off + k * 4 + 1, none⟩ = some (.int .i64 x.good) ∧ w.cell? ⟨b, off + k * 4 + 2, none⟩ = some (.int .i64 x.lo) ∧ w.cell? ⟨b, off + k * 4 + 3, none⟩ = some (.int .i64 x.hi) := by
  obtain ⟨hl, h⟩ := h
  obtain ⟨b, off, ha, hc⟩ := h (by omega)
  have h0 := hc k hk 0 _ rfl
  simp only [Nat.add_zero] at h0
  exact ⟨b, off, _, ha, by simp [List.getD, hl, hk], block_lt_of_cell h0, h0, hc k hk 1 _ rfl, hc k hk 2 _ rfl, hc k hk 3 _ rfl⟩
def lossRows (l : List Loss) : List (List Value) := l.map Loss.cells
theorem lossRows_append (l m : List Loss) : lossRows (l ++ m) = lossRows l ++ lossRows m := by simp [lossRows]
theorem lossRows_row (l : List Loss) : ∀ r ∈ lossRows l, r.length = 4 ∧ ∀ u ∈ r, u.oneCell' = true := by
  intro r hr
  obtain ⟨z, _, rfl⟩ := List.mem_map.1 hr
  exact ⟨rfl, fun u hu => by simp [Loss.cells] at hu; rcases hu with rfl | rfl | rfl | rfl <;> rfl⟩
theorem LossesAt.src {w : World} {a : Option Addr} {n : Nat} {l : List Loss} (h : LossesAt w a n l) : SlAt w 4 a n (fun i => (lossRows l).getD i []) :=
  h.2.congr fun i hi => by
    have : i < l.length := by rw [h.1]; exact hi
    simp [lossRows, List.getD, List.getElem?_map, List.getElem?_eq_getElem this]
theorem losses_of_owns {w : World} {B : Nat} {e : TypeId} {v : Value} {l : List Loss} (h : Owns w B e 4 v (lossRows l)) : ∃ a c, v = .slice a l.length c ∧ From B a ∧ l.length ≤ c ∧ c ≤ maxLen ∧ LossesAt w a l.length l := by
  obtain ⟨a, c, hv, h0, h1, h2, h3⟩ := h.slAt
  have e : (lossRows l).length = l.length := by simp [lossRows]
  rw [e] at hv h1 h3
  refine ⟨a, c, hv, h0, h1, h2, rfl, h3.congr fun i hi => ?_⟩
  simp [lossRows, List.getD, List.getElem?_map, List.getElem?_eq_getElem hi]

/-- five spans in the first ten cells of block b, which may be written -/
def HeldAt (w : World) (b : Nat) (held : List Span) : Prop :=
  held.length = 5 ∧ ∃ cs t, w.heap[b]? = some (.cells cs t (0, 0)) ∧ ∀ (g : Nat) (s : Span), held[g]? = some s → cs[g * 2]? = some (.int .i64 s.lo) ∧ cs[g * 2 + 1]? = some (.int .i64 s.hi)
theorem HeldAt.same {w w' : World} {b : Nat} {held : List Span} (h : HeldAt w b held) (e : w'.heap[b]? = w.heap[b]?) : HeldAt w' b held := by
  obtain ⟨h0, cs, t, h1, h2⟩ := h
  exact ⟨h0, cs, t, e.trans h1, h2⟩
theorem HeldAt.lt {w : World} {b : Nat} {held : List Span} (h : HeldAt w b held) : b < w.heap.size := by
  obtain ⟨_, cs, t, h1, _⟩ := h
  exact (Array.getElem?_eq_some_iff.1 h1).1
theorem HeldAt.ext {w w' : World} {b : Nat} {held : List Span} (h : HeldAt w b held) (e : Ext w w') : HeldAt w' b held := h.same (e.block b h.lt)
theorem HeldAt.only {w w' : World} {p b : Nat} {held : List Span} (h : HeldAt w b held) (e : Only p w w') (hne : b ≠ p) : HeldAt w' b held := h.same (e.block b h.lt (by simpa using hne))
theorem HeldAt.get {w : World} {b : Nat} {held : List Span} (h : HeldAt w b held) (g : Nat) (hg : g < 5) :
    ∃ s, held[g]? = some s ∧ w.cell? ⟨b, g * 2, none⟩ = some (.int .i64 s.lo) ∧ w.cell? ⟨b, g * 2 + 1, none⟩ = some (.int .i64 s.hi) ∧ ∀ j, w.frozen? ⟨b, j, none⟩ = false := by
  obtain ⟨h0, cs, t, h1, h2⟩ := h
  obtain ⟨s, hs⟩ : ∃ s, held[g]? = some s := ⟨_, List.getElem?_eq_getElem (by omega)⟩
  obtain ⟨k1, k2⟩ := h2 g s hs
  exact ⟨s, hs, by rw [cell_of_row w b (g * 2) cs t (0, 0) h1]; exact k1, by rw [cell_of_row w b (g * 2 + 1) cs t (0, 0) h1]; exact k2, fun j => frozen_of_row w b j cs t h1⟩
theorem cells_set {cs : Array Value} {i j : Nat} {v u : Value} (h : cs[j]? = some u) : (cs.setIfInBounds i v)[j]? = some (if i = j then v else u) := by
  have hj := (Array.getElem?_eq_some_iff.1 h).1
  rw [Array.getElem?_setIfInBounds]
  split
  · rename_i e; subst e; simp [hj]
  · exact h
theorem HeldAt.setLo {w : World} {b : Nat} {held : List Span} (h : HeldAt w b held) {g : Nat} {s : Span} (hs : held[g]? = some s) (x : Int) :
    HeldAt (w.setCell ⟨b, g * 2, none⟩ (.int .i64 x)) b (held.set g ⟨x, s.hi⟩) := by
  obtain ⟨h0, cs, t, h1, h2⟩ := h
  refine ⟨by simpa using h0, cs.setIfInBounds (g * 2) (.int .i64 x), t, by rw [heap_setCell_box, h1]; rfl, fun q u hu => ?_⟩
  rw [List.getElem?_set] at hu
  split at hu
  · rename_i e
    subst e
    split at hu
    · cases hu
      obtain ⟨k1, k2⟩ := h2 g s hs
      exact ⟨by rw [cells_set k1]; simp, by rw [cells_set k2]; simp⟩
    · cases hu
  · rename_i e
    obtain ⟨k1, k2⟩ := h2 q u hu
    exact ⟨by rw [cells_set k1, if_neg (by omega)], by rw [cells_set k2, if_neg (by omega)]⟩
theorem HeldAt.setHi {w : World} {b : Nat} {held : List Span} (h : HeldAt w b held) {g : Nat} {s : Span} (hs : held[g]? = some s) (x : Int) :
    HeldAt (w.setCell ⟨b, g * 2 + 1, none⟩ (.int .i64 x)) b (held.set g ⟨s.lo, x⟩) := by
  obtain ⟨h0, cs, t, h1, h2⟩ := h
  refine ⟨by simpa using h0, cs.setIfInBounds (g * 2 + 1) (.int .i64 x), t, by rw [heap_setCell_box, h1]; rfl, fun q u hu => ?_⟩
  rw [List.getElem?_set] at hu
  split at hu
  · rename_i e
    subst e
    split at hu
    · cases hu
      obtain ⟨k1, k2⟩ := h2 g s hs
      exact ⟨by rw [cells_set k1]; simp, by rw [cells_set k2]; simp⟩
    · cases hu
  · rename_i e
    obtain ⟨k1, k2⟩ := h2 q u hu
    exact ⟨by rw [cells_set k1, if_neg (by omega)], by rw [cells_set k2, if_neg (by omega)]⟩
theorem HeldAt.set {w : World} {b : Nat} {held : List Span} (h : HeldAt w b held) {g : Nat} {s : Span} (hs : held[g]? = some s) (x y : Int) :
    HeldAt ((w.setCell ⟨b, g * 2, none⟩ (.int .i64 x)).setCell ⟨b, g * 2 + 1, none⟩ (.int .i64 y)) b (held.set g ⟨x, y⟩) := by
  have h1 := h.setLo hs x
  have hlt : g < held.length := (List.getElem?_eq_some_iff.1 hs).1
  have h2 := h1.setHi (g := g) (s := ⟨x, s.hi⟩) (by simp [hlt]) y
  simpa using h2

/-! ### the road -/
def lf (n k : Int) : Int := n * k / 1000
def roadSpan (h k : Span) : Span := ⟨lf h.lo k.lo, lf h.hi k.hi⟩
def roadLost (h k : Span) : Span := ⟨h.lo - lf h.lo k.hi, h.hi - lf h.hi k.lo⟩
def z0 : Span := ⟨0, 0⟩
/-- what there is when the first n goods have gone the road -/
def roadTo (held ks : List Span) : Nat → List Span
  | 0 => held
  | n + 1 => (roadTo held ks n).set n (roadSpan (held.getD n z0) (ks.getD n z0))
def roadLoss (r : Int) (held ks : List Span) (g : Nat) : List Loss :=
  if 0 < (roadLost (held.getD g z0) (ks.getD g z0)).hi then [⟨r, g, (roadLost (held.getD g z0) (ks.getD g z0)).lo, (roadLost (held.getD g z0) (ks.getD g z0)).hi⟩] else []
def roadLosses (r : Int) (held ks : List Span) : Nat → List Loss
  | 0 => []
  | n + 1 => roadLosses r held ks n ++ roadLoss r held ks n
theorem roadTo_len (held ks : List Span) (n : Nat) : (roadTo held ks n).length = held.length := by
  induction n with
  | zero => rfl
  | succ n ih => simp [roadTo, ih]
theorem roadTo_get (held ks : List Span) (n g : Nat) (h : n ≤ g) : (roadTo held ks n)[g]? = held[g]? := by
  induction n with
  | zero => rfl
  | succ n ih =>
    have := ih (by omega)
    simp only [roadTo, List.getElem?_set]
    rw [if_neg (by omega)]
    exact this
theorem roadTo_done (held ks : List Span) (n g : Nat) (h : g < n) (hl : g < held.length) : (roadTo held ks n)[g]? = some (roadSpan (held.getD g z0) (ks.getD g z0)) := by
  induction n with
  | zero => omega
  | succ n ih =>
    simp only [roadTo, List.getElem?_set]
    by_cases e : n = g
    · subst e
      rw [if_pos rfl, if_pos (by rw [roadTo_len]; exact hl)]
    · rw [if_neg e]
      exact ih (by omega)
theorem roadLosses_len (r : Int) (held ks : List Span) (n : Nat) : (roadLosses r held ks n).length ≤ n := by
  induction n with
  | zero => simp [roadLosses]
  | succ n ih =>
    simp only [roadLosses, List.length_append, roadLoss]
    split <;> simp <;> omega
/-- spans that a purse may hold -/
def HeldOk (held : List Span) : Prop := held.length = 5 ∧ ∀ (g : Nat) (s : Span), held[g]? = some s → 0 ≤ s.lo ∧ s.lo ≤ s.hi ∧ s.hi ≤ 1000000000000000
def KeepsOk (ks : List Span) : Prop := ks.length = 5 ∧ ∀ (g : Nat) (s : Span), ks[g]? = some s → 0 ≤ s.lo ∧ s.lo ≤ s.hi ∧ s.hi ≤ 1000
theorem lf_mono {a b k m : Int} (h0 : 0 ≤ a) (h1 : a ≤ b) (k0 : 0 ≤ k) (k1 : k ≤ m) : lf a k ≤ lf b m := by
  unfold lf
  exact Int.ediv_le_ediv (by omega) (Int.mul_le_mul h1 k1 k0 (by omega))
theorem lf_le {a k : Int} (h0 : 0 ≤ a) (k0 : 0 ≤ k) (k1 : k ≤ 1000) : 0 ≤ lf a k ∧ lf a k ≤ a := by
  unfold lf
  have h1 : 0 ≤ a * k := Int.mul_nonneg h0 k0
  have h2 : a * k ≤ a * 1000 := Int.mul_le_mul_of_nonneg_left k1 h0
  omega
theorem HeldOk.road {held ks : List Span} (h : HeldOk held) (hk : KeepsOk ks) : HeldOk (roadTo held ks 5) := by
  refine ⟨by rw [roadTo_len]; exact h.1, fun g s hs => ?_⟩
  have hg : g < 5 := by have := (List.getElem?_eq_some_iff.1 hs).1; rw [roadTo_len, h.1] at this; exact this
  rw [roadTo_done held ks 5 g hg (by rw [h.1]; exact hg)] at hs
  cases hs
  obtain ⟨x, hx⟩ : ∃ s, held[g]? = some s := ⟨_, List.getElem?_eq_getElem (by rw [h.1]; exact hg)⟩
  obtain ⟨k, hkk⟩ : ∃ s, ks[g]? = some s := ⟨_, List.getElem?_eq_getElem (by rw [hk.1]; exact hg)⟩
  obtain ⟨a1, a2, a3⟩ := h.2 g x hx
  obtain ⟨b1, b2, b3⟩ := hk.2 g k hkk
  simp only [List.getD, hx, hkk, Option.getD_some, roadSpan]
  have e1 := lf_le a1 b1 (by omega)
  have e2 := lf_le (show 0 ≤ x.hi by omega) (show 0 ≤ k.hi by omega) b3
  have e3 := lf_mono a1 a2 b1 b2
  omega
end Go.Proofs.Ytkbhmajcddmhnaa
