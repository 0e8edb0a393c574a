/- Contracts of small functions: a corner in a half; spans; products. -/
import Derived.Test.YtacdndehlkaaeaaSmallB
import Derived.Deep.CutRange
import Derived.Deep.CutBlock
import Derived.Carry
import Derived.Test.YtacdndehlkaaeaaOwn
namespace Go.Proofs.Ytacdndehlkaaeaa
open Go.RowKit
set_option linter.unusedVariables false
set_option linter.unusedSimpArgs false

/-- the cells of a corner -/
def CornerAt (w : World) (g : Nat) (c : Corner) : Prop := w.cell? ⟨g, 0, none⟩ = some (.int .i64 c.x) ∧ w.cell? ⟨g, 1, none⟩ = some (.int .i64 c.y) ∧ w.cell? ⟨g, 2, none⟩ = some (.int .i64 c.d)
theorem CornerAt.ext {w w' : World} {g : Nat} {c : Corner} (h : CornerAt w g c) (e : Ext w w') : CornerAt w' g c := ⟨e.cell h.1, e.cell h.2.1, e.cell h.2.2⟩
theorem inFn_any (h : Half) (c : Corner) (g : Nat) (w : World) (hh : HalfIn h) (hc : CornerIn c) (hg : CornerAt w g c) : Calls Try.prog 105 #[h.val, .pointer (some ⟨g, 0, none⟩)] w fun e w' => e = .returned (.bool (inH h c)) ∧ Ext w w' := by
  obtain ⟨ha, hb, hcc⟩ := h
  obtain ⟨cx, cy, cd⟩ := c
  obtain ⟨a0, a1, b0, b1, _, c0, c1⟩ := hh
  obtain ⟨x0, x1, y0, y1, d0, d1⟩ := hc
  obtain ⟨g0, g1, g2⟩ := hg
  simp only at *
  have m1 := mul_le (A := 1000) (B := 200000000000000) a0 a1 x0 x1
  have m2 := mul_le (A := 1000) (B := 200000000000000) b0 b1 y0 y1
  have m3 := mul_le (A := 100000000000) (B := 2000000) c0 c1 (show -2000000 ≤ cd by omega) d1
  simp only [Int.reduceMul, Int.reduceNeg] at m1 m2 m3
  unfold Half.val inH
  simp only
  obtain ⟨P1, h1⟩ : ∃ P, ha * cx = P := ⟨_, rfl⟩
  obtain ⟨P2, h2⟩ : ∃ P, hb * cy = P := ⟨_, rfl⟩
  obtain ⟨P3, h3⟩ : ∃ P, hcc * cd = P := ⟨_, rfl⟩
  rw [h1] at m1 ⊢
  rw [h2] at m2 ⊢
  rw [h3] at m3 ⊢
  have hgl : g < w.heap.size := block_lt_of_cell g0
  go_enter Try.func105, Try.ntmps105
  go_wp2_with fail
  go_ret
  refine ⟨rfl, ?_⟩
  repeat (first | exact Ext.refl _ | refine Ext.alloc ?_ _ | refine Ext.setCell ?_ (by first | (simp; done) | (simp; omega)) _ | refine Ext.drew ?_)
/-- moved$1 -/
theorem fitFn_any (h : Half) (w : World) : Calls Try.prog 93 #[h.val] w fun e w' => e = .returned (.bool (edgeOk h.c)) ∧ Ext w w' := by
  obtain ⟨a, b, c⟩ := h
  have hf1 := fun W k hb => from1 (-100000000000) 100000000000 c W k hb
  have hnew := fun (W : World) (o : Obj) (b : Nat) (hb : b = W.heap.size) => show (W.alloc o).heap[b]? = some o from by rw [hb]; exact heap_alloc_new W o
  unfold Half.val edgeOk
  simp only
  have Hf1 := Lib.hid hf1
  have Hnew := Lib.hid hnew
  clear hf1 hnew
  go_enter Try.func93, Try.ntmps93
  go_wp2_with (go_at_call 66; refine (Hf1.out _ _ (Hnew.out _ _ _ (by simp))).mono ?_; rintro e w1 ⟨rfl, hx1⟩)
  go_ret
  exact ⟨rfl, (((Ext.refl _).alloc _).alloc _).trans hx1⟩
/-- the least and the greatest -/
def minL : List Int → Int
  | [] => 0
  | x :: l => l.foldl min x
def maxL : List Int → Int
  | [] => 0
  | x :: l => l.foldl max x
theorem foldl_take_succ {f : Int → Int → Int} {x : Int} {l : List Int} {k : Nat} {y : Int} (h : l[k]? = some y) : (l.take (k + 1)).foldl f x = f ((l.take k).foldl f x) y := by
  rw [List.take_add_one, h]
  simp
theorem min_any (a : Option Addr) (n cap : Nat) (l : List Int) (w : World) (hl : IntsAt .i64 w a n l) (h1 : 1 ≤ n) (hn : n ≤ 1000) : Calls Try.prog 109 #[.slice a n cap] w fun e w' => e = .returned (.int .i64 (minL l)) ∧ Ext w w' := by
  obtain ⟨x, r, rfl⟩ : ∃ x r, l = x :: r := by
    cases l with
    | nil => have := hl.1; simp at this; omega
    | cons x r => exact ⟨x, r, rfl⟩
  have hlen := hl.1
  obtain ⟨b, off, x', rfl, hx', hb, c0⟩ := hl.get 0 (by omega)
  simp only [List.getElem?_cons_zero, Option.some.injEq] at hx'
  subst hx'
  rw [Nat.add_zero] at c0
  have hnB : decide ((n : Int) < 1) = false := decide_eq_false (by omega)
  have Hl := Lib.hid hl
  have Hlen := Lib.hid hlen
  clear hl hlen
  go_enter Try.func109, Try.ntmps109
  go_upto_region 5 with fail
  go_loopw [3, 4] (fun m i wr => ∃ k : Nat, k + 1 ≤ n ∧ i = .int .i64 ((k + 1 : Nat) : Int) ∧ m = .int .i64 ((r.take k).foldl min x) ∧ wr = w) (fun _ i _ => n - (intOf i).toNat)
  case atStart => exact ⟨0, by omega, rfl, rfl, rfl⟩
  case round =>
    obtain ⟨k, hk, rfl, rfl, rfl⟩ := hrel
    by_cases hlt : k + 1 < n
    · have hltB : decide (((k + 1 : Nat) : Int) < (n : Int)) = true := decide_eq_true (by omega)
      obtain ⟨b', off', y, e, hy, _, c1⟩ := Hl.out.get (k + 1) hlt
      cases e
      rw [List.getElem?_cons_succ] at hy
      have hs := foldl_take_succ (f := min) (x := x) hy
      generalize (r.take k).foldl min x = M at *
      have Hs := Lib.hid hs
      clear hs
      clear hy
      go_wp2_with fail
      go_roundw
      case rel => exact ⟨k + 1, by omega, by go_num, by rw [Hs.out]; congr 1; split <;> omega, trivial⟩
      case measure => simp [intOf]; omega
    · have hltB : decide (((k + 1 : Nat) : Int) < (n : Int)) = false := decide_eq_false (by omega)
      have hk : r.take k = r := List.take_of_length_le (by have := Hlen.out; simp at this; omega)
      rw [hk]
      go_wp2_with fail
      go_ret
      exact ⟨rfl, Ext.refl _⟩
theorem max_any (a : Option Addr) (n cap : Nat) (l : List Int) (w : World) (hl : IntsAt .i64 w a n l) (h1 : 1 ≤ n) (hn : n ≤ 1000) : Calls Try.prog 110 #[.slice a n cap] w fun e w' => e = .returned (.int .i64 (maxL l)) ∧ Ext w w' := by
  obtain ⟨x, r, rfl⟩ : ∃ x r, l = x :: r := by
    cases l with
    | nil => have := hl.1; simp at this; omega
    | cons x r => exact ⟨x, r, rfl⟩
  have hlen := hl.1
  obtain ⟨b, off, x', rfl, hx', hb, c0⟩ := hl.get 0 (by omega)
  simp only [List.getElem?_cons_zero, Option.some.injEq] at hx'
  subst hx'
  rw [Nat.add_zero] at c0
  have hnB : decide ((n : Int) < 1) = false := decide_eq_false (by omega)
  have Hl := Lib.hid hl
  have Hlen := Lib.hid hlen
  clear hl hlen
  go_enter Try.func110, Try.ntmps110
  go_upto_region 5 with fail
  go_loopw [3, 4] (fun m i wr => ∃ k : Nat, k + 1 ≤ n ∧ i = .int .i64 ((k + 1 : Nat) : Int) ∧ m = .int .i64 ((r.take k).foldl max x) ∧ wr = w) (fun _ i _ => n - (intOf i).toNat)
  case atStart => exact ⟨0, by omega, rfl, rfl, rfl⟩
  case round =>
    obtain ⟨k, hk, rfl, rfl, rfl⟩ := hrel
    by_cases hlt : k + 1 < n
    · have hltB : decide (((k + 1 : Nat) : Int) < (n : Int)) = true := decide_eq_true (by omega)
      obtain ⟨b', off', y, e, hy, _, c1⟩ := Hl.out.get (k + 1) hlt
      cases e
      rw [List.getElem?_cons_succ] at hy
      have hs := foldl_take_succ (f := max) (x := x) hy
      generalize (r.take k).foldl max x = M at *
      have Hs := Lib.hid hs
      clear hs
      clear hy
      go_wp2_with fail
      go_roundw
      case rel => exact ⟨k + 1, by omega, by go_num, by rw [Hs.out]; congr 1; split <;> omega, trivial⟩
      case measure => simp [intOf]; omega
    · have hltB : decide (((k + 1 : Nat) : Int) < (n : Int)) = false := decide_eq_false (by omega)
      have hk : r.take k = r := List.take_of_length_le (by have := Hlen.out; simp at this; omega)
      rw [hk]
      go_wp2_with fail
      go_ret
      exact ⟨rfl, Ext.refl _⟩
set_option maxRecDepth 100000 in
theorem hull_any (a : Option Addr) (n cap : Nat) (l : List Int) (w : World) (hl : IntsAt .i64 w a n l) (h1 : 1 ≤ n) (hn : n ≤ 1000) : Calls Try.prog 85 #[.slice a n cap] w fun e w' => e = .returned (Span.val ⟨minL l, maxL l⟩) ∧ Ext w w' := by
  have hmi := fun W (hW : Ext w W) => min_any a n cap l W (hl.ext hW) h1 hn
  have hma := fun W (hW : Ext w W) => max_any a n cap l W (hl.ext hW) h1 hn
  have hx1 : Ext w (w.alloc (.cells #[.int .i64 0, .int .i64 0] 28)) := (Ext.refl _).alloc _
  have hbb := heap_alloc_new w (.cells #[.int .i64 0, .int .i64 0] 28)
  generalize minL l = m at *
  generalize maxL l = M at *
  unfold Span.val
  have Hmi := Lib.hid hmi
  have Hma := Lib.hid hma
  have Hx1 := Lib.hid hx1
  have Hbb := Lib.hid hbb
  clear hmi hma hx1 hbb
  clear hl
  go_enter Try.func85, Try.ntmps85
  go_wp2_with (first | (go_at_call 109; refine (Hmi.out _ Hx1.out).mono ?_; rintro e w1 ⟨rfl, hx2⟩; have hx02 := Hx1.out.trans hx2; have hb2 := hx2.heap Hbb.out; have Hb2 := Lib.hid hb2; clear hb2) | (go_at_call 110; refine (Hma.out _ hx02).mono ?_; rintro e w2 ⟨rfl, hx3⟩; have hx03 := hx02.trans hx3; have hb3 := hx3.heap Hb2.out; obtain ⟨f0, f1⟩ := (Ext.refl _).box hb3))
  refine bodyPost_ret (results_cell_row rfl _ _ w.heap.size 28 #[.int .i64 m, .int .i64 M] (0, 0) _ rfl (by simp only [heap_setCell_box, hb3, Option.map_some, setIn_cells, List.setIfInBounds_toArray, List.set_cons_zero, List.set_cons_succ]) Try.underlying28 rfl (by kernel_rfl)) rfl ?_
  refine ⟨rfl, ?_⟩
  exact (hx03.setCell (p := ⟨w.heap.size, 0, none⟩) (Nat.le_refl _) _).setCell (p := ⟨w.heap.size, 1, none⟩) (Nat.le_refl _) _
end Go.Proofs.Ytacdndehlkaaeaa
