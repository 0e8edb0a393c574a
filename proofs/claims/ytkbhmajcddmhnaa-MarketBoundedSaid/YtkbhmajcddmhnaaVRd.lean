/- What Round's closure works on: three lists in memory of their own, and a map; how a step changes them. -/
import Derived.Test.YtkbhmajcddmhnaaVGr5
import Derived.Test.YtkbhmajcddmhnaaVGr7
import Derived.Test.YtkbhmajcddmhnaaVGr3
import Derived.Test.YtkbhmajcddmhnaaVRefRoad
namespace Go.Proofs.Ytkbhmajcddmhnaa
open Go.RowKit
set_option linter.unusedVariables false
set_option linter.unusedSimpArgs false

/-- no block of their own in common -/
def Apart (v u : Value) : Prop := ∀ b, v.ownBlock = some b → u.ownBlock ≠ some b
theorem Apart.symm {v u : Value} (h : Apart v u) : Apart u v := fun b hu hv => h b hv hu
theorem Apart.grow {w : World} {v v' u : Value} (h : Apart v u) (hb : v'.ownBlock = v.ownBlock ∨ v'.ownBlock = some w.heap.size) (hu : ∀ b, u.ownBlock = some b → b < w.heap.size) : Apart v' u := by
  intro b hv hu'
  rcases hb with e | e
  · exact h b (by rw [← e]; exact hv) hu'
  · rw [e] at hv
    have := hu b hu'
    cases hv
    omega
theorem Owns.apart {w w' : World} {base : Nat} {e : TypeId} {sz : Nat} {v u : Value} {rows : List (List Value)} (h : Owns w base e sz u rows) (hg : w.grownBy w' v.ownBlock) (ha : Apart v u) : Owns w' base e sz u rows :=
  h.kept hg (by
    cases hv : v.ownBlock with
    | none => cases hu : u.ownBlock <;> simp
    | some b => right; intro e; exact ha b hv e)
theorem Owns.ltAll {w : World} {base : Nat} {e : TypeId} {sz : Nat} {v : Value} {rows : List (List Value)} (h : Owns w base e sz v rows) : ∀ b, v.ownBlock = some b → b < w.heap.size := fun b hb => (h.lt b hb).2

def moreVal (s bm bs : Nat) : Value := .func (.func 63) #[] #[.pointer (some ⟨bm, 0, none⟩), .pointer (some ⟨s + 2, 0, none⟩), .pointer (some ⟨s + 4, 0, none⟩), .pointer (some ⟨s + 3, 0, none⟩), .pointer (some ⟨bs, 0, none⟩), .pointer (some ⟨s + 1, 0, none⟩), .pointer (some ⟨s + 5, 0, none⟩)]
/-- s: the block of the map; behind it the boxes of given, l, units, fors, more -/
structure Rd (w0 : World) (bm bs : Nat) (W : World) (l1 l2 l3 : List Int) (vl vu vf : Value) (F : Int → Value) : Prop where
  ext : Ext w0 W
  size : w0.heap.size + 6 ≤ W.heap.size
  bg : W.heap[w0.heap.size + 1]? = some (.cells #[.map (some w0.heap.size)] 128 (0, 0))
  bo : W.heap[w0.heap.size + 5]? = some (.cells #[moreVal w0.heap.size bm bs] 110 (0, 0))
  bl : W.heap[w0.heap.size + 2]? = some (.cells #[vl] 24 (0, 0))
  bu : W.heap[w0.heap.size + 3]? = some (.cells #[vu] 24 (0, 0))
  bf : W.heap[w0.heap.size + 4]? = some (.cells #[vf] 24 (0, 0))
  o1 : Owns W (w0.heap.size + 6) 3 1 vl (intRows .i64 l1)
  o2 : Owns W (w0.heap.size + 6) 3 1 vu (intRows .i64 l2)
  o3 : Owns W (w0.heap.size + 6) 3 1 vf (intRows .i64 l3)
  map : MapIs W w0.heap.size (.bool false) F
  a12 : Apart vl vu
  a13 : Apart vl vf
  a23 : Apart vu vf
section
variable {w0 : World} {bm bs : Nat} {W W' : World} {l1 l2 l3 : List Int} {vl vu vf : Value} {F F' : Int → Value}
theorem Rd.later (h : Rd w0 bm bs W l1 l2 l3 vl vu vf F) (e : Ext W W') : Rd w0 bm bs W' l1 l2 l3 vl vu vf F :=
  ⟨h.ext.trans e, Nat.le_trans h.size e.size, e.heap h.bg, e.heap h.bo, e.heap h.bl, e.heap h.bu, e.heap h.bf, h.o1.ext e, h.o2.ext e, h.o3.ext e, h.map.ext e, h.a12, h.a13, h.a23⟩
theorem Rd.mapped (h : Rd w0 bm bs W l1 l2 l3 vl vu vf F) (hg : W.grownBy W' (some w0.heap.size)) (hm : MapIs W' w0.heap.size (.bool false) F') : Rd w0 bm bs W' l1 l2 l3 vl vu vf F' := by
  have hs := h.size
  have hb : ∀ j, j < 6 → j ≠ 0 → ∀ o, W.heap[w0.heap.size + j]? = some o → W'.heap[w0.heap.size + j]? = some o := fun j hj h0 o ho => (hg.block _ (by omega) (by simp; omega)).trans ho
  have ho : ∀ {v : Value} {rows : List (List Value)}, Owns W (w0.heap.size + 6) 3 1 v rows → Owns W' (w0.heap.size + 6) 3 1 v rows := fun h => h.kept hg (by
    right
    intro e
    have := (h.lt _ e).1
    omega)
  exact ⟨Below.grown h.ext hg h.ext.size (fun j hj => by cases hj; exact Nat.le_refl _), Nat.le_trans hs hg.size, hb 1 (by omega) (by omega) _ h.bg, hb 5 (by omega) (by omega) _ h.bo, hb 2 (by omega) (by omega) _ h.bl, hb 3 (by omega) (by omega) _ h.bu, hb 4 (by omega) (by omega) _ h.bf, ho h.o1, ho h.o2, ho h.o3, hm, h.a12, h.a13, h.a23⟩

/-! ### the statement that appends to all three -/
/-- while it is carried out: A of its six steps that follow each other are over; b1, b2, b3: is the new element laid? -/
structure R9 (w0 : World) (bm bs xb : Nat) (xo : Obj) (l1 l2 l3 : List Int) (k1 k2 k3 : Int) (vl vu vf : Value) (F : Int → Value) (A : Nat) (b1 b2 b3 : Bool) (y1 z1 y2 z2 y3 z3 : Value) (W : World) : Prop where
  hA : A ≤ 6
  ext : Ext w0 W
  size : w0.heap.size + 6 ≤ W.heap.size
  bg : W.heap[w0.heap.size + 1]? = some (.cells #[.map (some w0.heap.size)] 128 (0, 0))
  bo : W.heap[w0.heap.size + 5]? = some (.cells #[moreVal w0.heap.size bm bs] 110 (0, 0))
  hxb : W.heap[xb]? = some xo
  map : MapIs W w0.heap.size (.bool false) F
  bl : W.heap[w0.heap.size + 2]? = some (.cells #[if 4 ≤ A then z1 else vl] 24 (0, 0))
  bu : W.heap[w0.heap.size + 3]? = some (.cells #[if 5 ≤ A then z2 else vu] 24 (0, 0))
  bf : W.heap[w0.heap.size + 4]? = some (.cells #[if 6 ≤ A then z3 else vf] 24 (0, 0))
  o1 : Owns W (w0.heap.size + 6) 3 1 (if 1 ≤ A then z1 else vl) (intRows .i64 (if 1 ≤ A then l1 ++ [k1] else l1))
  o2 : Owns W (w0.heap.size + 6) 3 1 (if 2 ≤ A then z2 else vu) (intRows .i64 (if 2 ≤ A then l2 ++ [k2] else l2))
  o3 : Owns W (w0.heap.size + 6) 3 1 (if 3 ≤ A then z3 else vf) (intRows .i64 (if 3 ≤ A then l3 ++ [k3] else l3))
  a12 : Apart (if 1 ≤ A then z1 else vl) (if 2 ≤ A then z2 else vu)
  a13 : Apart (if 1 ≤ A then z1 else vl) (if 3 ≤ A then z3 else vf)
  a23 : Apart (if 2 ≤ A then z2 else vu) (if 3 ≤ A then z3 else vf)
  x1 : xb ≥ w0.heap.size + 6
  xa : (if 1 ≤ A then z1 else vl).ownBlock ≠ some xb ∧ (if 2 ≤ A then z2 else vu).ownBlock ≠ some xb ∧ (if 3 ≤ A then z3 else vf).ownBlock ≠ some xb
  s1 : A = 0 → b1 = true → ∃ g, y1 = .slice (some ⟨g, 0, none⟩) 1 1 ∧ W.heap[g]? = some (.cells #[.int .i64 k1] 3 (0, 0))
  s2 : A ≤ 1 → b2 = true → ∃ g, y2 = .slice (some ⟨g, 0, none⟩) 1 1 ∧ W.heap[g]? = some (.cells #[.int .i64 k2] 3 (0, 0)) ∧ (if 1 ≤ A then z1 else vl).ownBlock ≠ some g
  s3 : A ≤ 2 → b3 = true → ∃ g, y3 = .slice (some ⟨g, 0, none⟩) 1 1 ∧ W.heap[g]? = some (.cells #[.int .i64 k3] 3 (0, 0)) ∧ (if 1 ≤ A then z1 else vl).ownBlock ≠ some g ∧ (if 2 ≤ A then z2 else vu).ownBlock ≠ some g
variable {xb : Nat} {xo : Obj} {k1 k2 k3 : Int} {A : Nat} {b1 b2 b3 : Bool} {y1 z1 y2 z2 y3 z3 : Value}
theorem R9.later (h : R9 w0 bm bs xb xo l1 l2 l3 k1 k2 k3 vl vu vf F A b1 b2 b3 y1 z1 y2 z2 y3 z3 W) (e : Ext W W') : R9 w0 bm bs xb xo l1 l2 l3 k1 k2 k3 vl vu vf F A b1 b2 b3 y1 z1 y2 z2 y3 z3 W' :=
  ⟨h.hA, h.ext.trans e, Nat.le_trans h.size e.size, e.heap h.bg, e.heap h.bo, e.heap h.hxb, h.map.ext e, e.heap h.bl, e.heap h.bu, e.heap h.bf, h.o1.ext e, h.o2.ext e, h.o3.ext e, h.a12, h.a13, h.a23, h.x1, h.xa,
    fun p q => let ⟨g, c, d⟩ := h.s1 p q; ⟨g, c, e.heap d⟩, fun p q => let ⟨g, c, d, i⟩ := h.s2 p q; ⟨g, c, e.heap d, i⟩, fun p q => let ⟨g, c, d, i⟩ := h.s3 p q; ⟨g, c, e.heap d, i⟩⟩
theorem own_ne_new {w : World} {base : Nat} {e : TypeId} {sz : Nat} {v : Value} {rows : List (List Value)} (h : Owns w base e sz v rows) : v.ownBlock ≠ some w.heap.size := fun e => by have := h.ltAll _ e; omega
theorem R9.lay1 (h : R9 w0 bm bs xb xo l1 l2 l3 k1 k2 k3 vl vu vf F 0 b1 b2 b3 y1 z1 y2 z2 y3 z3 W) : R9 w0 bm bs xb xo l1 l2 l3 k1 k2 k3 vl vu vf F 0 true b2 b3 (.slice (some ⟨W.heap.size, 0, none⟩) 1 1) z1 y2 z2 y3 z3 (W.alloc (.cells #[.int .i64 k1] 3)) :=
  { h.later ((Ext.refl _).alloc _) with s1 := fun _ _ => ⟨_, rfl, heap_alloc_new W _⟩ }
theorem R9.lay2 (h : R9 w0 bm bs xb xo l1 l2 l3 k1 k2 k3 vl vu vf F A b1 b2 b3 y1 z1 y2 z2 y3 z3 W) : R9 w0 bm bs xb xo l1 l2 l3 k1 k2 k3 vl vu vf F A b1 true b3 y1 z1 (.slice (some ⟨W.heap.size, 0, none⟩) 1 1) z2 y3 z3 (W.alloc (.cells #[.int .i64 k2] 3)) :=
  { h.later ((Ext.refl _).alloc _) with s2 := fun _ _ => ⟨_, rfl, heap_alloc_new W _, own_ne_new h.o1⟩ }
theorem R9.lay3 (h : R9 w0 bm bs xb xo l1 l2 l3 k1 k2 k3 vl vu vf F A b1 b2 b3 y1 z1 y2 z2 y3 z3 W) : R9 w0 bm bs xb xo l1 l2 l3 k1 k2 k3 vl vu vf F A b1 b2 true y1 z1 y2 z2 (.slice (some ⟨W.heap.size, 0, none⟩) 1 1) z3 (W.alloc (.cells #[.int .i64 k3] 3)) :=
  { h.later ((Ext.refl _).alloc _) with s3 := fun _ _ => ⟨_, rfl, heap_alloc_new W _, own_ne_new h.o1, own_ne_new h.o2⟩ }
/-- a block that is none of what an append may change -/
theorem grown_heap {w w' : World} {v : Value} (hg : w.grownBy w' v.ownBlock) {b : Nat} {o : Obj} (hb : w.heap[b]? = some o) (hne : v.ownBlock ≠ some b) : w'.heap[b]? = some o :=
  (hg.block b (Array.getElem?_eq_some_iff.1 hb).1 (fun e => hne e.symm)).trans hb
theorem own_low {w : World} {base : Nat} {e : TypeId} {sz : Nat} {v : Value} {rows : List (List Value)} (h : Owns w base e sz v rows) {b : Nat} (hb : b < base) : v.ownBlock ≠ some b := fun e => by have := (h.lt _ e).1; omega
theorem ne_grow {w : World} {v v' : Value} {b : Nat} (h : v.ownBlock ≠ some b) (hb : b < w.heap.size) (hor : v'.ownBlock = v.ownBlock ∨ v'.ownBlock = some w.heap.size) : v'.ownBlock ≠ some b := by
  rcases hor with e | e
  · rw [e]; exact h
  · rw [e]; intro e'; cases e'; omega
theorem heap_lt {w : World} {b : Nat} {o : Obj} (h : w.heap[b]? = some o) : b < w.heap.size := (Array.getElem?_eq_some_iff.1 h).1
theorem R9.app1 {v' : Value} (h : R9 w0 bm bs xb xo l1 l2 l3 k1 k2 k3 vl vu vf F 0 b1 b2 b3 y1 z1 y2 z2 y3 z3 W) (ho : Owns W' (w0.heap.size + 6) 3 1 v' (intRows .i64 l1 ++ intRows .i64 [k1])) (hg : W.grownBy W' vl.ownBlock) (hor : v'.ownBlock = vl.ownBlock ∨ v'.ownBlock = some W.heap.size) :
    R9 w0 bm bs xb xo l1 l2 l3 k1 k2 k3 vl vu vf F 1 b1 b2 b3 y1 v' y2 z2 y3 z3 W' := by
  have o1 := h.o1
  have o2 := h.o2
  have o3 := h.o3
  have a12 := h.a12
  have a13 := h.a13
  have a23 := h.a23
  have xa := h.xa
  have s2 := h.s2
  have s3 := h.s3
  simp at o1 o2 o3 a12 a13 a23 xa s2 s3
  have low : ∀ b, b < w0.heap.size + 6 → vl.ownBlock ≠ some b := fun b hb => own_low o1 hb
  exact {
    hA := by omega
    ext := Below.grown h.ext hg h.ext.size (fun j hj => by have := (o1.lt j hj).1; omega)
    size := Nat.le_trans h.size hg.size
    bg := grown_heap hg h.bg (low _ (by omega))
    bo := grown_heap hg h.bo (low _ (by omega))
    hxb := grown_heap hg h.hxb xa.1
    map := h.map.same (hg.block _ h.map.lt (fun e => low _ (by omega) e.symm))
    bl := by simpa using grown_heap hg h.bl (low _ (by omega))
    bu := by simpa using grown_heap hg h.bu (low _ (by omega))
    bf := by simpa using grown_heap hg h.bf (low _ (by omega))
    o1 := by simpa [intRows_append] using ho
    o2 := by simpa using o2.apart hg a12
    o3 := by simpa using o3.apart hg a13
    a12 := by simpa using a12.grow hor o2.ltAll
    a13 := by simpa using a13.grow hor o3.ltAll
    a23 := by simpa using a23
    x1 := h.x1
    xa := by simpa using ⟨ne_grow xa.1 (heap_lt h.hxb) hor, xa.2⟩
    s1 := fun p => by omega
    s2 := fun _ q => by
      obtain ⟨g, e1, e2, e3⟩ := s2 q
      exact ⟨g, e1, grown_heap hg e2 e3, by simpa using ne_grow e3 (heap_lt e2) hor⟩
    s3 := fun _ q => by
      obtain ⟨g, e1, e2, e3, e4⟩ := s3 q
      exact ⟨g, e1, grown_heap hg e2 e3, by simpa using ne_grow e3 (heap_lt e2) hor, by simpa using e4⟩ }
theorem R9.app2 {v' : Value} (h : R9 w0 bm bs xb xo l1 l2 l3 k1 k2 k3 vl vu vf F 1 b1 b2 b3 y1 z1 y2 z2 y3 z3 W) (ho : Owns W' (w0.heap.size + 6) 3 1 v' (intRows .i64 l2 ++ intRows .i64 [k2])) (hg : W.grownBy W' vu.ownBlock) (hor : v'.ownBlock = vu.ownBlock ∨ v'.ownBlock = some W.heap.size) :
    R9 w0 bm bs xb xo l1 l2 l3 k1 k2 k3 vl vu vf F 2 b1 b2 b3 y1 z1 y2 v' y3 z3 W' := by
  have o1 := h.o1
  have o2 := h.o2
  have o3 := h.o3
  have a12 := h.a12
  have a13 := h.a13
  have a23 := h.a23
  have xa := h.xa
  have s3 := h.s3
  simp at o1 o2 o3 a12 a13 a23 xa s3
  have low : ∀ b, b < w0.heap.size + 6 → vu.ownBlock ≠ some b := fun b hb => own_low o2 hb
  exact {
    hA := by omega
    ext := Below.grown h.ext hg h.ext.size (fun j hj => by have := (o2.lt j hj).1; omega)
    size := Nat.le_trans h.size hg.size
    bg := grown_heap hg h.bg (low _ (by omega))
    bo := grown_heap hg h.bo (low _ (by omega))
    hxb := grown_heap hg h.hxb xa.2.1
    map := h.map.same (hg.block _ h.map.lt (fun e => low _ (by omega) e.symm))
    bl := by simpa using grown_heap hg h.bl (low _ (by omega))
    bu := by simpa using grown_heap hg h.bu (low _ (by omega))
    bf := by simpa using grown_heap hg h.bf (low _ (by omega))
    o1 := by simpa using o1.apart hg a12.symm
    o2 := by simpa [intRows_append] using ho
    o3 := by simpa using o3.apart hg a23
    a12 := by simpa using (a12.symm.grow hor o1.ltAll).symm
    a13 := by simpa using a13
    a23 := by simpa using a23.grow hor o3.ltAll
    x1 := h.x1
    xa := by simpa using ⟨xa.1, ne_grow xa.2.1 (heap_lt h.hxb) hor, xa.2.2⟩
    s1 := fun p => by omega
    s2 := fun p => by omega
    s3 := fun _ q => by
      obtain ⟨g, e1, e2, e3, e4⟩ := s3 q
      exact ⟨g, e1, grown_heap hg e2 e4, by simpa using e3, by simpa using ne_grow e4 (heap_lt e2) hor⟩ }
theorem R9.app3 {v' : Value} (h : R9 w0 bm bs xb xo l1 l2 l3 k1 k2 k3 vl vu vf F 2 b1 b2 b3 y1 z1 y2 z2 y3 z3 W) (ho : Owns W' (w0.heap.size + 6) 3 1 v' (intRows .i64 l3 ++ intRows .i64 [k3])) (hg : W.grownBy W' vf.ownBlock) (hor : v'.ownBlock = vf.ownBlock ∨ v'.ownBlock = some W.heap.size) :
    R9 w0 bm bs xb xo l1 l2 l3 k1 k2 k3 vl vu vf F 3 b1 b2 b3 y1 z1 y2 z2 y3 v' W' := by
  have o1 := h.o1
  have o2 := h.o2
  have o3 := h.o3
  have a12 := h.a12
  have a13 := h.a13
  have a23 := h.a23
  have xa := h.xa
  simp at o1 o2 o3 a12 a13 a23 xa
  have low : ∀ b, b < w0.heap.size + 6 → vf.ownBlock ≠ some b := fun b hb => own_low o3 hb
  exact {
    hA := by omega
    ext := Below.grown h.ext hg h.ext.size (fun j hj => by have := (o3.lt j hj).1; omega)
    size := Nat.le_trans h.size hg.size
    bg := grown_heap hg h.bg (low _ (by omega))
    bo := grown_heap hg h.bo (low _ (by omega))
    hxb := grown_heap hg h.hxb xa.2.2
    map := h.map.same (hg.block _ h.map.lt (fun e => low _ (by omega) e.symm))
    bl := by simpa using grown_heap hg h.bl (low _ (by omega))
    bu := by simpa using grown_heap hg h.bu (low _ (by omega))
    bf := by simpa using grown_heap hg h.bf (low _ (by omega))
    o1 := by simpa using o1.apart hg a13.symm
    o2 := by simpa using o2.apart hg a23.symm
    o3 := by simpa [intRows_append] using ho
    a12 := by simpa using a12
    a13 := by simpa using (a13.symm.grow hor o1.ltAll).symm
    a23 := by simpa using (a23.symm.grow hor o2.ltAll).symm
    x1 := h.x1
    xa := by simpa using ⟨xa.1, xa.2.1, ne_grow xa.2.2 (heap_lt h.hxb) hor⟩
    s1 := fun p => by omega
    s2 := fun p => by omega
    s3 := fun p => by omega }
/-- a store into a box of the six -/
theorem store_keeps {j : Nat} (hj : j < 6) (hj0 : 2 ≤ j) (hs : w0.heap.size + 6 ≤ W.heap.size) (v : Value) : W.grownBy (W.setCell ⟨w0.heap.size + j, 0, none⟩ v) (some (w0.heap.size + j)) :=
  ⟨rfl, rfl, rfl, by simp [World.setCell], fun k hk hne => Below.heap_setCell _ _ _ _ (fun e => hne (by rw [e]))⟩
theorem box_set {b : Nat} {u v : Value} {t : TypeId} (h : W.heap[b]? = some (.cells #[u] t (0, 0))) : (W.setCell ⟨b, 0, none⟩ v).heap[b]? = some (.cells #[v] t (0, 0)) := by
  rw [heap_setCell_box, h]; rfl
theorem R9.store1 (h : R9 w0 bm bs xb xo l1 l2 l3 k1 k2 k3 vl vu vf F 3 b1 b2 b3 y1 z1 y2 z2 y3 z3 W) : R9 w0 bm bs xb xo l1 l2 l3 k1 k2 k3 vl vu vf F 4 b1 b2 b3 y1 z1 y2 z2 y3 z3 (W.setCell ⟨w0.heap.size + 2, 0, none⟩ z1) := by
  have hg := store_keeps (w0 := w0) (j := 2) (by omega) (by omega) h.size z1
  have oth : ∀ b o, W.heap[b]? = some o → b ≠ w0.heap.size + 2 → (W.setCell ⟨w0.heap.size + 2, 0, none⟩ z1).heap[b]? = some o := fun b o hb hne => (Below.heap_setCell _ _ _ _ hne).trans hb
  have o1 := h.o1
  have o2 := h.o2
  have o3 := h.o3
  have bl := h.bl
  have bu := h.bu
  have bf := h.bf
  have a12 := h.a12
  have a13 := h.a13
  have a23 := h.a23
  have xa := h.xa
  simp at o1 o2 o3 bl bu bf a12 a13 a23 xa
  have x1 := h.x1
  exact {
    hA := by omega
    ext := h.ext.setCell (by simp) _
    size := by simpa [World.setCell] using h.size
    bg := oth _ _ h.bg (by omega)
    bo := oth _ _ h.bo (by omega)
    hxb := oth _ _ h.hxb (by omega)
    map := h.map.same (Below.heap_setCell _ _ _ _ (by simp))
    bl := by simpa using box_set bl
    bu := by simpa using oth _ _ bu (by omega)
    bf := by simpa using oth _ _ bf (by omega)
    o1 := by simpa using o1.kept hg (.inr (own_low o1 (by omega)))
    o2 := by simpa using o2.kept hg (.inr (own_low o2 (by omega)))
    o3 := by simpa using o3.kept hg (.inr (own_low o3 (by omega)))
    a12 := by simpa using a12
    a13 := by simpa using a13
    a23 := by simpa using a23
    x1 := h.x1
    xa := by simpa using xa
    s1 := fun p => by omega
    s2 := fun p => by omega
    s3 := fun p => by omega }
theorem R9.store2 (h : R9 w0 bm bs xb xo l1 l2 l3 k1 k2 k3 vl vu vf F 4 b1 b2 b3 y1 z1 y2 z2 y3 z3 W) : R9 w0 bm bs xb xo l1 l2 l3 k1 k2 k3 vl vu vf F 5 b1 b2 b3 y1 z1 y2 z2 y3 z3 (W.setCell ⟨w0.heap.size + 3, 0, none⟩ z2) := by
  have hg := store_keeps (w0 := w0) (j := 3) (by omega) (by omega) h.size z2
  have oth : ∀ b o, W.heap[b]? = some o → b ≠ w0.heap.size + 3 → (W.setCell ⟨w0.heap.size + 3, 0, none⟩ z2).heap[b]? = some o := fun b o hb hne => (Below.heap_setCell _ _ _ _ hne).trans hb
  have o1 := h.o1
  have o2 := h.o2
  have o3 := h.o3
  have bl := h.bl
  have bu := h.bu
  have bf := h.bf
  have a12 := h.a12
  have a13 := h.a13
  have a23 := h.a23
  have xa := h.xa
  simp at o1 o2 o3 bl bu bf a12 a13 a23 xa
  have x1 := h.x1
  exact {
    hA := by omega
    ext := h.ext.setCell (by simp) _
    size := by simpa [World.setCell] using h.size
    bg := oth _ _ h.bg (by omega)
    bo := oth _ _ h.bo (by omega)
    hxb := oth _ _ h.hxb (by omega)
    map := h.map.same (Below.heap_setCell _ _ _ _ (by simp))
    bl := by simpa using oth _ _ bl (by omega)
    bu := by simpa using box_set bu
    bf := by simpa using oth _ _ bf (by omega)
    o1 := by simpa using o1.kept hg (.inr (own_low o1 (by omega)))
    o2 := by simpa using o2.kept hg (.inr (own_low o2 (by omega)))
    o3 := by simpa using o3.kept hg (.inr (own_low o3 (by omega)))
    a12 := by simpa using a12
    a13 := by simpa using a13
    a23 := by simpa using a23
    x1 := h.x1
    xa := by simpa using xa
    s1 := fun p => by omega
    s2 := fun p => by omega
    s3 := fun p => by omega }
theorem R9.store3 (h : R9 w0 bm bs xb xo l1 l2 l3 k1 k2 k3 vl vu vf F 5 b1 b2 b3 y1 z1 y2 z2 y3 z3 W) : R9 w0 bm bs xb xo l1 l2 l3 k1 k2 k3 vl vu vf F 6 b1 b2 b3 y1 z1 y2 z2 y3 z3 (W.setCell ⟨w0.heap.size + 4, 0, none⟩ z3) := by
  have hg := store_keeps (w0 := w0) (j := 4) (by omega) (by omega) h.size z3
  have oth : ∀ b o, W.heap[b]? = some o → b ≠ w0.heap.size + 4 → (W.setCell ⟨w0.heap.size + 4, 0, none⟩ z3).heap[b]? = some o := fun b o hb hne => (Below.heap_setCell _ _ _ _ hne).trans hb
  have o1 := h.o1
  have o2 := h.o2
  have o3 := h.o3
  have bl := h.bl
  have bu := h.bu
  have bf := h.bf
  have a12 := h.a12
  have a13 := h.a13
  have a23 := h.a23
  have xa := h.xa
  simp at o1 o2 o3 bl bu bf a12 a13 a23 xa
  have x1 := h.x1
  exact {
    hA := by omega
    ext := h.ext.setCell (by simp) _
    size := by simpa [World.setCell] using h.size
    bg := oth _ _ h.bg (by omega)
    bo := oth _ _ h.bo (by omega)
    hxb := oth _ _ h.hxb (by omega)
    map := h.map.same (Below.heap_setCell _ _ _ _ (by simp))
    bl := by simpa using oth _ _ bl (by omega)
    bu := by simpa using oth _ _ bu (by omega)
    bf := by simpa using box_set bf
    o1 := by simpa using o1.kept hg (.inr (own_low o1 (by omega)))
    o2 := by simpa using o2.kept hg (.inr (own_low o2 (by omega)))
    o3 := by simpa using o3.kept hg (.inr (own_low o3 (by omega)))
    a12 := by simpa using a12
    a13 := by simpa using a13
    a23 := by simpa using a23
    x1 := h.x1
    xa := by simpa using xa
    s1 := fun p => by omega
    s2 := fun p => by omega
    s3 := fun p => by omega }
theorem Rd.begin (h : Rd w0 bm bs W l1 l2 l3 vl vu vf F) (hx : W.heap[xb]? = some xo) (h1 : w0.heap.size + 6 ≤ xb) (xa : vl.ownBlock ≠ some xb ∧ vu.ownBlock ≠ some xb ∧ vf.ownBlock ≠ some xb) :
    R9 w0 bm bs xb xo l1 l2 l3 k1 k2 k3 vl vu vf F 0 false false false y1 z1 y2 z2 y3 z3 W :=
  ⟨by omega, h.ext, h.size, h.bg, h.bo, hx, h.map, by simpa using h.bl, by simpa using h.bu, by simpa using h.bf, by simpa using h.o1, by simpa using h.o2, by simpa using h.o3, by simpa using h.a12, by simpa using h.a13, by simpa using h.a23, h1, by simpa using xa,
    (fun _ q => by cases q), (fun _ q => by cases q), (fun _ q => by cases q)⟩
theorem R9.done (h : R9 w0 bm bs xb xo l1 l2 l3 k1 k2 k3 vl vu vf F 6 b1 b2 b3 y1 z1 y2 z2 y3 z3 W) : Rd w0 bm bs W (l1 ++ [k1]) (l2 ++ [k2]) (l3 ++ [k3]) z1 z2 z3 F ∧ W.heap[xb]? = some xo :=
  ⟨⟨h.ext, h.size, h.bg, h.bo, by simpa using h.bl, by simpa using h.bu, by simpa using h.bf, by simpa using h.o1, by simpa using h.o2, by simpa using h.o3, h.map, by simpa using h.a12, by simpa using h.a13, by simpa using h.a23⟩, h.hxb⟩
/-- what the loads of the statement read -/
def S9 (w0 : World) (vl vu vf : Value) (xb : Nat) (xo : Obj) (W : World) : Prop :=
  W.heap[w0.heap.size + 2]? = some (.cells #[vl] 24 (0, 0)) ∧ W.heap[w0.heap.size + 3]? = some (.cells #[vu] 24 (0, 0)) ∧ W.heap[w0.heap.size + 4]? = some (.cells #[vf] 24 (0, 0)) ∧ W.heap[xb]? = some xo
theorem R9.keeps (h : R9 w0 bm bs xb xo l1 l2 l3 k1 k2 k3 vl vu vf F A b1 b2 b3 y1 z1 y2 z2 y3 z3 W) (hA : A ≤ 3) : S9 w0 vl vu vf xb xo W := by
  have h1 := h.bl
  have h2 := h.bu
  have h3 := h.bf
  rw [if_neg (by omega)] at h1 h2 h3
  exact ⟨h1, h2, h3, h.hxb⟩
def lst9 : Nat × Bool × Bool × Bool → Array Bool
  | (A, b1, b2, b3) => #[true, true, b1 || decide (1 ≤ A), decide (1 ≤ A), true, true, true, b2 || decide (2 ≤ A), decide (2 ≤ A), true, true, true, true, b3 || decide (3 ≤ A), decide (3 ≤ A), decide (4 ≤ A), decide (5 ≤ A), decide (6 ≤ A)]
def sts9 : List (Nat × Bool × Bool × Bool) := (List.range 7).flatMap fun A => [false, true].flatMap fun b1 => [false, true].flatMap fun b2 => [false, true].map fun b3 => (A, b1, b2, b3)
def cond9 : Nat × Bool × Bool × Bool → Nat → Bool
  | (A, b1, b2, b3), i => (i == 2 && A == 0 && !b1) || (i == 7 && decide (A ≤ 1) && !b2) || (i == 13 && decide (A ≤ 2) && !b3) || (i == 3 && A == 0 && b1) || (i == 8 && A == 1 && b2) || (i == 14 && A == 2 && b3) || (i == 15 && A == 3) || (i == 16 && A == 4) || (i == 17 && A == 5)
def nxt9 : Nat × Bool × Bool × Bool → Nat → Nat × Bool × Bool × Bool
  | (A, b1, b2, b3), i => if i = 2 then (A, true, b2, b3) else if i = 7 then (A, b1, true, b3) else if i = 13 then (A, b1, b2, true) else (A + 1, b1, b2, b3)
def fin9 : Nat × Bool × Bool × Bool → Bool
  | (A, _, _, _) => A == 6
theorem cond9_cases {i : Nat} (h : cond9 (A, b1, b2, b3) i = true) : (i = 2 ∧ A = 0) ∨ (i = 7 ∧ A ≤ 1) ∨ (i = 13 ∧ A ≤ 2) ∨ (i = 3 ∧ A = 0 ∧ b1 = true) ∨ (i = 8 ∧ A = 1 ∧ b2 = true) ∨ (i = 14 ∧ A = 2 ∧ b3 = true) ∨ (i = 15 ∧ A = 3) ∨ (i = 16 ∧ A = 4) ∨ (i = 17 ∧ A = 5) := by
  simp only [cond9, Bool.or_eq_true, Bool.and_eq_true, beq_iff_eq, decide_eq_true_eq] at h
  rcases h with (((((((h | h) | h) | h) | h) | h) | h) | h) | h
  · exact .inl ⟨h.1.1, h.1.2⟩
  · exact .inr (.inl ⟨h.1.1, h.1.2⟩)
  · exact .inr (.inr (.inl ⟨h.1.1, h.1.2⟩))
  · exact .inr (.inr (.inr (.inl ⟨h.1.1, h.1.2, h.2⟩)))
  · exact .inr (.inr (.inr (.inr (.inl ⟨h.1.1, h.1.2, h.2⟩))))
  · exact .inr (.inr (.inr (.inr (.inr (.inl ⟨h.1.1, h.1.2, h.2⟩)))))
  · exact .inr (.inr (.inr (.inr (.inr (.inr (.inl h))))))
  · exact .inr (.inr (.inr (.inr (.inr (.inr (.inr (.inl h)))))))
  · exact .inr (.inr (.inr (.inr (.inr (.inr (.inr (.inr h)))))))
/-- a block that is none of the six, and no list's own -/
def C9 (w0 : World) (W1 : World) (vl vu vf : Value) (b : Nat) (o : Obj) : Prop := W1.heap[b]? = some o ∧ w0.heap.size + 6 ≤ b ∧ vl.ownBlock ≠ some b ∧ vu.ownBlock ≠ some b ∧ vf.ownBlock ≠ some b
def I9 (w0 : World) (bm bs : Nat) (W1 : World) (l1 l2 l3 : List Int) (k1 k2 k3 : Int) (vl vu vf : Value) (F : Int → Value) (s : Nat × Bool × Bool × Bool) (xs : List Value) (W : World) : Prop :=
  ∃ y1 z1 y2 z2 y3 z3, xs = [y1, z1, y2, z2, y3, z3] ∧ W1.heap.size ≤ W.heap.size ∧ ∀ xb xo, C9 w0 W1 vl vu vf xb xo → R9 w0 bm bs xb xo l1 l2 l3 k1 k2 k3 vl vu vf F s.1 s.2.1 s.2.2.1 s.2.2.2 y1 z1 y2 z2 y3 z3 W
/-- what lies from block s + 6 on, and is no list's own, stays; the lists' own blocks are theirs, or new -/
def Fr (w0 : World) (W : World) (a1 a2 a3 : Value) (W' : World) (b1 b2 b3 : Value) : Prop :=
  W.heap.size ≤ W'.heap.size ∧ (∀ b o, C9 w0 W a1 a2 a3 b o → W'.heap[b]? = some o) ∧ ∀ b, (b1.ownBlock = some b ∨ b2.ownBlock = some b ∨ b3.ownBlock = some b) → (a1.ownBlock = some b ∨ a2.ownBlock = some b ∨ a3.ownBlock = some b) ∨ W.heap.size ≤ b
theorem Fr.refl (w0 W : World) (a1 a2 a3 : Value) : Fr w0 W a1 a2 a3 W a1 a2 a3 := ⟨Nat.le_refl _, fun b o h => h.1, fun b h => .inl h⟩
theorem Fr.trans {w0 W W' W'' : World} {a1 a2 a3 b1 b2 b3 c1 c2 c3 : Value} (h : Fr w0 W a1 a2 a3 W' b1 b2 b3) (k : Fr w0 W' b1 b2 b3 W'' c1 c2 c3) : Fr w0 W a1 a2 a3 W'' c1 c2 c3 := by
  refine ⟨Nat.le_trans h.1 k.1, fun b o hb => k.2.1 b o ⟨h.2.1 b o hb, hb.2.1, ?_⟩, fun b hb => ?_⟩
  · have hlt := heap_lt hb.1
    have no : ∀ v, v = b1 ∨ v = b2 ∨ v = b3 → v.ownBlock ≠ some b := fun v hv e => by
      have := h.2.2 b (by rcases hv with rfl | rfl | rfl <;> simp [e])
      rcases this with (e' | e' | e') | e'
      · exact hb.2.2.1 e'
      · exact hb.2.2.2.1 e'
      · exact hb.2.2.2.2 e'
      · omega
    exact ⟨no _ (.inl rfl), no _ (.inr (.inl rfl)), no _ (.inr (.inr rfl))⟩
  · rcases k.2.2 b hb with h1 | h1
    · exact h.2.2 b h1
    · right; have := h.1; omega
theorem Fr.ext {w0 W W' : World} {a1 a2 a3 : Value} (e : Ext W W') : Fr w0 W a1 a2 a3 W' a1 a2 a3 := ⟨e.size, fun b o h => e.heap h.1, fun b h => .inl h⟩
/-- a change of blocks below s + 6 alone -/
theorem Fr.low {w0 W W' : World} {a1 a2 a3 c1 c2 c3 : Value} (hs : W.heap.size ≤ W'.heap.size) (h : ∀ b o, W.heap[b]? = some o → w0.heap.size + 6 ≤ b → W'.heap[b]? = some o) (e1 : c1.ownBlock = a1.ownBlock) (e2 : c2.ownBlock = a2.ownBlock) (e3 : c3.ownBlock = a3.ownBlock) : Fr w0 W a1 a2 a3 W' c1 c2 c3 :=
  ⟨hs, fun b o hb => h b o hb.1 hb.2.1, fun b hb => .inl (by rw [e1, e2, e3] at hb; exact hb)⟩
theorem I9.fr {W1 : World} {z1 z2 z3 : Value} (hs : W1.heap.size ≤ W.heap.size) (hall : ∀ xb xo, C9 w0 W1 vl vu vf xb xo → R9 w0 bm bs xb xo l1 l2 l3 k1 k2 k3 vl vu vf F 6 b1 b2 b3 y1 z1 y2 z2 y3 z3 W) (hr : Rd w0 bm bs W (l1 ++ [k1]) (l2 ++ [k2]) (l3 ++ [k3]) z1 z2 z3 F) : Fr w0 W1 vl vu vf W z1 z2 z3 := by
  refine ⟨hs, fun b o hb => (hall b o hb).hxb, fun b hb => ?_⟩
  rcases Nat.lt_or_ge b W1.heap.size with hlt | hlt
  · left
    have hlow : w0.heap.size + 6 ≤ b := by
      rcases hb with e | e | e
      · exact (hr.o1.lt b e).1
      · exact (hr.o2.lt b e).1
      · exact (hr.o3.lt b e).1
    obtain ⟨o, ho⟩ : ∃ o, W1.heap[b]? = some o := ⟨_, Array.getElem?_eq_getElem hlt⟩
    by_cases h1 : vl.ownBlock = some b
    · exact .inl h1
    by_cases h2 : vu.ownBlock = some b
    · exact .inr (.inl h2)
    by_cases h3 : vf.ownBlock = some b
    · exact .inr (.inr h3)
    have := (hall b o ⟨ho, hlow, h1, h2, h3⟩).xa
    simp at this
    rcases hb with e | e | e
    · exact absurd e this.1
    · exact absurd e this.2.1
    · exact absurd e this.2.2
  · exact .inr hlt
theorem mem_sts9 (hA : A ≤ 6) : (A, b1, b2, b3) ∈ sts9 := by
  unfold sts9
  rw [List.mem_flatMap]
  refine ⟨A, by simp; omega, ?_⟩
  cases b1 <;> cases b2 <;> cases b3 <;> simp
theorem R9.own1 (h : R9 w0 bm bs xb xo l1 l2 l3 k1 k2 k3 vl vu vf F 0 b1 b2 b3 y1 z1 y2 z2 y3 z3 W) : Owns W (w0.heap.size + 6) 3 1 vl (intRows .i64 l1) := by simpa using h.o1
theorem R9.own2 (h : R9 w0 bm bs xb xo l1 l2 l3 k1 k2 k3 vl vu vf F 1 b1 b2 b3 y1 z1 y2 z2 y3 z3 W) : Owns W (w0.heap.size + 6) 3 1 vu (intRows .i64 l2) := by simpa using h.o2
theorem R9.own3 (h : R9 w0 bm bs xb xo l1 l2 l3 k1 k2 k3 vl vu vf F 2 b1 b2 b3 y1 z1 y2 z2 y3 z3 W) : Owns W (w0.heap.size + 6) 3 1 vf (intRows .i64 l3) := by simpa using h.o3
theorem own_slice {w : World} {base : Nat} {e : TypeId} {sz : Nat} {v : Value} {rows : List (List Value)} (h : Owns w base e sz v rows) : ∃ a n c, v = .slice a n c := by
  obtain ⟨a, c, hv, _⟩ := h.slAt
  exact ⟨a, _, c, hv⟩
theorem R9.sl1 (h : R9 w0 bm bs xb xo l1 l2 l3 k1 k2 k3 vl vu vf F 3 b1 b2 b3 y1 z1 y2 z2 y3 z3 W) : ∃ a n c, z1 = .slice a n c := by have := own_slice h.o1; simpa using this
theorem R9.sl2 (h : R9 w0 bm bs xb xo l1 l2 l3 k1 k2 k3 vl vu vf F 4 b1 b2 b3 y1 z1 y2 z2 y3 z3 W) : ∃ a n c, z2 = .slice a n c := by have := own_slice h.o2; simpa using this
theorem R9.sl3 (h : R9 w0 bm bs xb xo l1 l2 l3 k1 k2 k3 vl vu vf F 5 b1 b2 b3 y1 z1 y2 z2 y3 z3 W) : ∃ a n c, z3 = .slice a n c := by have := own_slice h.o3; simpa using this
/-! ### the statement that takes the last off all three -/
theorem ints_flat (l : List Int) : (intRows .i64 l).flatten = l.map (Value.int .i64) := by
  induction l with
  | nil => rfl
  | cons x l ih => simpa [intRows] using ih
theorem ints_len (l : List Int) : (intRows .i64 l).length = l.length := by simp [intRows]
theorem Owns.cut {w : World} {base : Nat} {v : Value} {l : List Int} {k : Int} (h : Owns w base 3 1 v (intRows .i64 (l ++ [k]))) : ∃ g c, v = .slice (some ⟨g, 0, none⟩) (l.length + 1) c ∧ l.length + 1 ≤ c ∧ c ≤ maxLen ∧ Owns w base 3 1 (.slice (some ⟨g, 0, none⟩) l.length c) (intRows .i64 l) := by
  obtain ⟨⟨hx, ho⟩, hr⟩ := h
  rw [ints_len, ints_flat] at ho
  rcases ho with ⟨rfl, h0⟩ | ⟨g, cap, cur, rfl, hb, hg, hn, hm, hs, ht⟩
  · simp at h0
  · simp only [List.length_append, List.length_cons, List.length_nil, Nat.zero_add] at hn ht ⊢
    refine ⟨g, cap, rfl, hn, hm, ⟨?_, .inr ⟨g, cap, cur, ?_, hb, hg, ?_, hm, hs, ?_⟩⟩, fun r hr => (intRows_row .i64 l r hr).1⟩
    · rw [ints_flat, ints_len]; simp
    · rw [ints_len]
    · rw [ints_len]; omega
    · rw [ints_len, ints_flat]
      have e := congrArg (List.take l.length) ht
      rw [List.take_take] at e
      rw [show min l.length ((l.length + 1) * 1) = l.length * 1 by omega] at e
      rw [e]
      simp
theorem Rd.set1 {c : Value} {m : List Int} (h : Rd w0 bm bs W l1 l2 l3 vl vu vf F) (hc : Owns W (w0.heap.size + 6) 3 1 c (intRows .i64 m)) (he : c.ownBlock = vl.ownBlock) : Rd w0 bm bs (W.setCell ⟨w0.heap.size + 2, 0, none⟩ c) m l2 l3 c vu vf F := by
  have hg := store_keeps (w0 := w0) (j := 2) (by omega) (by omega) h.size c
  have oth : ∀ b o, W.heap[b]? = some o → b ≠ w0.heap.size + 2 → (W.setCell ⟨w0.heap.size + 2, 0, none⟩ c).heap[b]? = some o := fun b o hb hne => (Below.heap_setCell _ _ _ _ hne).trans hb
  have ok : ∀ {v : Value} {l : List Int}, Owns W (w0.heap.size + 6) 3 1 v (intRows .i64 l) → Owns (W.setCell ⟨w0.heap.size + 2, 0, none⟩ c) (w0.heap.size + 6) 3 1 v (intRows .i64 l) := fun h => h.kept hg (.inr (own_low h (by omega)))
  have ap : ∀ {u : Value}, Apart vl u → Apart c u := fun h b hb => h b (by rw [← he]; exact hb)
  exact {
    ext := h.ext.setCell (by simp) _
    size := by simpa [World.setCell] using h.size
    bg := oth _ _ h.bg (by omega)
    bo := oth _ _ h.bo (by omega)
    bl := box_set h.bl
    bu := oth _ _ h.bu (by omega)
    bf := oth _ _ h.bf (by omega)
    o1 := ok hc
    o2 := ok h.o2
    o3 := ok h.o3
    map := h.map.same (Below.heap_setCell _ _ _ _ (by simp))
    a12 := ap h.a12
    a13 := ap h.a13
    a23 := h.a23 }
theorem Rd.set2 {c : Value} {m : List Int} (h : Rd w0 bm bs W l1 l2 l3 vl vu vf F) (hc : Owns W (w0.heap.size + 6) 3 1 c (intRows .i64 m)) (he : c.ownBlock = vu.ownBlock) : Rd w0 bm bs (W.setCell ⟨w0.heap.size + 3, 0, none⟩ c) l1 m l3 vl c vf F := by
  have hg := store_keeps (w0 := w0) (j := 3) (by omega) (by omega) h.size c
  have oth : ∀ b o, W.heap[b]? = some o → b ≠ w0.heap.size + 3 → (W.setCell ⟨w0.heap.size + 3, 0, none⟩ c).heap[b]? = some o := fun b o hb hne => (Below.heap_setCell _ _ _ _ hne).trans hb
  have ok : ∀ {v : Value} {l : List Int}, Owns W (w0.heap.size + 6) 3 1 v (intRows .i64 l) → Owns (W.setCell ⟨w0.heap.size + 3, 0, none⟩ c) (w0.heap.size + 6) 3 1 v (intRows .i64 l) := fun h => h.kept hg (.inr (own_low h (by omega)))
  have ap : ∀ {u : Value}, Apart vu u → Apart c u := fun h b hb => h b (by rw [← he]; exact hb)
  exact {
    ext := h.ext.setCell (by simp) _
    size := by simpa [World.setCell] using h.size
    bg := oth _ _ h.bg (by omega)
    bo := oth _ _ h.bo (by omega)
    bl := oth _ _ h.bl (by omega)
    bu := box_set h.bu
    bf := oth _ _ h.bf (by omega)
    o1 := ok h.o1
    o2 := ok hc
    o3 := ok h.o3
    map := h.map.same (Below.heap_setCell _ _ _ _ (by simp))
    a12 := (ap h.a12.symm).symm
    a13 := h.a13
    a23 := ap h.a23 }
theorem Rd.set3 {c : Value} {m : List Int} (h : Rd w0 bm bs W l1 l2 l3 vl vu vf F) (hc : Owns W (w0.heap.size + 6) 3 1 c (intRows .i64 m)) (he : c.ownBlock = vf.ownBlock) : Rd w0 bm bs (W.setCell ⟨w0.heap.size + 4, 0, none⟩ c) l1 l2 m vl vu c F := by
  have hg := store_keeps (w0 := w0) (j := 4) (by omega) (by omega) h.size c
  have oth : ∀ b o, W.heap[b]? = some o → b ≠ w0.heap.size + 4 → (W.setCell ⟨w0.heap.size + 4, 0, none⟩ c).heap[b]? = some o := fun b o hb hne => (Below.heap_setCell _ _ _ _ hne).trans hb
  have ok : ∀ {v : Value} {l : List Int}, Owns W (w0.heap.size + 6) 3 1 v (intRows .i64 l) → Owns (W.setCell ⟨w0.heap.size + 4, 0, none⟩ c) (w0.heap.size + 6) 3 1 v (intRows .i64 l) := fun h => h.kept hg (.inr (own_low h (by omega)))
  have ap : ∀ {u : Value}, Apart vf u → Apart c u := fun h b hb => h b (by rw [← he]; exact hb)
  exact {
    ext := h.ext.setCell (by simp) _
    size := by simpa [World.setCell] using h.size
    bg := oth _ _ h.bg (by omega)
    bo := oth _ _ h.bo (by omega)
    bl := oth _ _ h.bl (by omega)
    bu := oth _ _ h.bu (by omega)
    bf := box_set h.bf
    o1 := ok h.o1
    o2 := ok h.o2
    o3 := ok hc
    map := h.map.same (Below.heap_setCell _ _ _ _ (by simp))
    a12 := h.a12
    a13 := (ap h.a13.symm).symm
    a23 := (ap h.a23.symm).symm }
theorem Rd.cut3 {c1 c2 c3 : Value} {m1 m2 m3 : List Int} (h : Rd w0 bm bs W l1 l2 l3 vl vu vf F) (h1 : Owns W (w0.heap.size + 6) 3 1 c1 (intRows .i64 m1)) (e1 : c1.ownBlock = vl.ownBlock)
    (h2 : Owns W (w0.heap.size + 6) 3 1 c2 (intRows .i64 m2)) (e2 : c2.ownBlock = vu.ownBlock) (h3 : Owns W (w0.heap.size + 6) 3 1 c3 (intRows .i64 m3)) (e3 : c3.ownBlock = vf.ownBlock) :
    Rd w0 bm bs (((W.setCell ⟨w0.heap.size + 2, 0, none⟩ c1).setCell ⟨w0.heap.size + 3, 0, none⟩ c2).setCell ⟨w0.heap.size + 4, 0, none⟩ c3) m1 m2 m3 c1 c2 c3 F := by
  have r1 := h.set1 h1 e1
  have k1 := store_keeps (w0 := w0) (j := 2) (by omega) (by omega) h.size c1
  have r2 := r1.set2 (h2.kept k1 (.inr (own_low h2 (by omega)))) e2
  have k2 := store_keeps (w0 := w0) (j := 3) (by omega) (by omega) r1.size c2
  exact r2.set3 ((h3.kept k1 (.inr (own_low h3 (by omega)))).kept k2 (.inr (own_low (h3.kept k1 (.inr (own_low h3 (by omega)))) (by omega)))) e3
/-- what each operation of the statement keeps -/
def E13 (s j : Nat) (w w' : World) : Prop :=
  if j = 9 then ∀ b, b ≠ s + 2 → w'.heap[b]? = w.heap[b]? else if j = 10 then ∀ b, b ≠ s + 3 → w'.heap[b]? = w.heap[b]? else if j = 11 then True else w' = w
theorem E13_read {s j : Nat} (h : j < 9) (w : World) : E13 s j w w := by
  unfold E13; rw [if_neg (by omega), if_neg (by omega), if_neg (by omega)]
theorem E13_same {s j : Nat} {w w' : World} (h : j < 9 ∨ 12 ≤ j) (e : E13 s j w w') : w' = w := by
  unfold E13 at e; rwa [if_neg (by omega), if_neg (by omega), if_neg (by omega)] at e
theorem E13_9 {s : Nat} {w w' : World} (h : ∀ b, b ≠ s + 2 → w'.heap[b]? = w.heap[b]?) : E13 s 9 w w' := by unfold E13; rwa [if_pos rfl]
theorem E13_10 {s : Nat} {w w' : World} (h : ∀ b, b ≠ s + 3 → w'.heap[b]? = w.heap[b]?) : E13 s 10 w w' := by unfold E13; rw [if_neg (by omega), if_pos rfl]; exact h
theorem E13_11 {s : Nat} {w w' : World} : E13 s 11 w w' := by unfold E13; rw [if_neg (by omega), if_neg (by omega), if_pos rfl]; trivial
theorem keep13a {s k : Nat} {o : Obj} (h : ([0, 1, 2, 3, 4, 5, 6, 7, 8] : List Nat).contains k = true ∨ 12 ≤ k) (w w' : World) (hS : w.heap[s + 2]? = some o) (e : E13 s k w w') : w'.heap[s + 2]? = some o := by
  rw [E13_same (by rcases h with h | h; · simp at h; omega
                   · exact .inr h) e]; exact hS
theorem keep13b {s k : Nat} {o : Obj} (h : ([0, 1, 2, 3, 4, 5, 6, 7, 8, 9] : List Nat).contains k = true ∨ 12 ≤ k) (w w' : World) (hS : w.heap[s + 3]? = some o) (e : E13 s k w w') : w'.heap[s + 3]? = some o := by
  by_cases h9 : k = 9
  · subst h9
    unfold E13 at e
    rw [if_pos rfl] at e
    rw [e _ (by omega)]; exact hS
  · rw [E13_same (by rcases h with h | h; · simp at h; omega
                     · exact .inr h) e]; exact hS
theorem keep13c {s k : Nat} {o : Obj} (h : ([0, 1, 2, 3, 4, 5, 6, 7, 8, 9, 10] : List Nat).contains k = true ∨ 12 ≤ k) (w w' : World) (hS : w.heap[s + 4]? = some o) (e : E13 s k w w') : w'.heap[s + 4]? = some o := by
  by_cases h9 : k = 9
  · subst h9
    unfold E13 at e
    rw [if_pos rfl] at e
    rw [e _ (by omega)]; exact hS
  · by_cases h10 : k = 10
    · subst h10
      unfold E13 at e
      rw [if_neg (by omega), if_pos rfl] at e
      rw [e _ (by omega)]; exact hS
    · rw [E13_same (by rcases h with h | h; · simp at h; omega
                       · exact .inr h) e]; exact hS
end
end Go.Proofs.Ytkbhmajcddmhnaa
