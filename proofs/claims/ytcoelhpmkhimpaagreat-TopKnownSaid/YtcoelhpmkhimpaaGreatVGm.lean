/- Contracts of small functions. -/
import Derived.Test.YtcoelhpmkhimpaaGreatVGl
import Derived.Test.YtcoelhpmkhimpaaGreatVGh
import Derived.Test.YtcoelhpmkhimpaaGreatVEveryG
import Derived.Test.YtcoelhpmkhimpaaGreatVGb
import Derived.Deep.CutRange
import Derived.Deep.CutBlock
import Derived.Carry
namespace Go.Proofs.YtcoelhpmkhimpaaGreat
open Go.RowKit
set_option linter.unusedVariables false
set_option linter.unusedSimpArgs false
theorem fromFn_any (x lo hi : Int) (c d : Nat) (w : World) (hc : w.cell? ⟨c, 0, none⟩ = some (.int .i64 lo)) (hd : w.cell? ⟨d, 0, none⟩ = some (.int .i64 hi)) :
    Calls Tryz.prog 83 #[.int .i64 x, .pointer (some ⟨c, 0, none⟩), .pointer (some ⟨d, 0, none⟩)] w fun e w' => e = .returned (.bool (!inB x lo hi)) ∧ Ext w w' := by
  rw [inB_not]
  by_cases h1 : x < lo
  · have b1 : decide (x < lo) = true := decide_eq_true h1
    go_enter Tryz.func83, Tryz.ntmps83
    go_wp2_with fail
    go_ret
    exact ⟨ret_bool (by rw [b1]; rfl), Ext.refl _⟩
  · have b1 : decide (x < lo) = false := decide_eq_false h1
    by_cases h2 : hi < x
    · have b2 : decide (hi < x) = true := decide_eq_true h2
      go_enter Tryz.func83, Tryz.ntmps83
      go_wp2_with fail
      go_ret
      exact ⟨rfl, Ext.refl _⟩
    · have b2 : decide (hi < x) = false := decide_eq_false h2
      go_enter Tryz.func83, Tryz.ntmps83
      go_wp2_with fail
      go_ret
      exact ⟨rfl, Ext.refl _⟩
theorem from_any (lo hi : Int) (a : Option Addr) (n cap : Nat) (l : List Int) (w : World) (hl : IntsAt .i64 w a n l) (hn : n ≤ 1000) :
    Calls Tryz.prog 54 #[.int .i64 lo, .int .i64 hi, .slice a n cap] w fun e w' => e = .returned (.bool (l.all fun x => inB x lo hi)) ∧ Ext w w' := by
  have hx1 : Ext w ((w.alloc (.cells #[.int .i64 lo] 3)).alloc (.cells #[.int .i64 hi] 3)) := ((Ext.refl _).alloc _).alloc _
  have hb1 := heap_alloc_new w (.cells #[.int .i64 lo] 3)
  have hb2 := heap_alloc_new (w.alloc (.cells #[.int .i64 lo] 3)) (.cells #[.int .i64 hi] 3)
  rw [show (w.alloc (.cells #[.int .i64 lo] 3)).heap.size = w.heap.size + 1 by simp] at hb2
  have hb1' := ((Ext.refl (w.alloc (.cells #[.int .i64 lo] 3))).alloc (.cells #[.int .i64 hi] 3)).heap hb1
  have c1 := ((Ext.refl _).box hb1').1 0
  have c2 := ((Ext.refl _).box hb2).1 0
  have hc := contains_int a n cap w.heap.size (w.heap.size + 1) l (fun x => !inB x lo hi) _ (hl.ext hx1) (by omega) (fun o _ W hW => fromFn_any o lo hi _ _ W (hW.cell c1) (hW.cell c2))
  have Hc := Lib.hid hc
  have Hx1 := Lib.hid hx1
  clear hc hx1
  clear hl hb1 hb2 hb1' c1 c2
  go_enter Tryz.func54, Tryz.ntmps54
  go_wp2_with (go_at_call 82; refine Hc.out.mono ?_; rintro e w3 ⟨rfl, hx3⟩)
  go_ret
  exact ⟨ret_bool (any_not (fun x => inB x lo hi) l), Hx1.out.trans hx3⟩
theorem ints1 {w w' : World} {b : Nat} {x : Int} (hb : w.heap[b]? = some (.cells #[.int .i64 x] 3 (0, 0))) : IntsAt .i64 w (some ⟨b, 0, none⟩) 1 [x] := by
  refine ⟨rfl, fun _ => ⟨b, 0, rfl, fun k hk j v hv => ?_⟩⟩
  obtain rfl : k = 0 := by omega
  cases j with
  | zero =>
    cases hv
    rw [cell_of_row w b _ _ 3 (0, 0) hb]
    rfl
  | succ j => simp at hv
theorem from1 (lo hi x : Int) (w : World) (b : Nat) (hb : w.heap[b]? = some (.cells #[.int .i64 x] 3 (0, 0))) : Calls Tryz.prog 54 #[.int .i64 lo, .int .i64 hi, .slice (some ⟨b, 0, none⟩) 1 1] w fun e w' => e = .returned (.bool (inB x lo hi)) ∧ Ext w w' := by
  have := from_any lo hi (some ⟨b, 0, none⟩) 1 1 [x] w (ints_built (l := [x]) hb) (by omega)
  simpa using this
theorem from2 (lo hi x y : Int) (w : World) (b : Nat) (hb : w.heap[b]? = some (.cells #[.int .i64 x, .int .i64 y] 3 (0, 0))) : Calls Tryz.prog 54 #[.int .i64 lo, .int .i64 hi, .slice (some ⟨b, 0, none⟩) 2 2] w fun e w' => e = .returned (.bool (inB x lo hi && inB y lo hi)) ∧ Ext w w' := by
  have := from_any lo hi (some ⟨b, 0, none⟩) 2 2 [x, y] w (ints_built (l := [x, y]) hb) (by omega)
  simpa using this
theorem from4 (lo hi x y z u : Int) (w : World) (b : Nat) (hb : w.heap[b]? = some (.cells #[.int .i64 x, .int .i64 y, .int .i64 z, .int .i64 u] 3 (0, 0))) : Calls Tryz.prog 54 #[.int .i64 lo, .int .i64 hi, .slice (some ⟨b, 0, none⟩) 4 4] w fun e w' => e = .returned (.bool (inB x lo hi && inB y lo hi && inB z lo hi && inB u lo hi)) ∧ Ext w w' := by
  have := from_any lo hi (some ⟨b, 0, none⟩) 4 4 [x, y, z, u] w (ints_built (l := [x, y, z, u]) hb) (by omega)
  simpa [Bool.and_assoc] using this
/-- Check$1 -/
theorem half_any (h : Half) (w : World) : Calls Tryz.prog 72 #[h.val] w fun e w' => e = .returned (.bool (halfOk h)) ∧ Ext w w' := by
  obtain ⟨a, b, c⟩ := h
  have hf2 := fun W k hb => from2 (-1000) 1000 a b W k hb
  have hf1 := fun W k hb => from1 (-100000000000) 100000000000 c W k hb
  unfold Half.val halfOk partOk edgeOk
  simp only
  have hnew := fun (W : World) (o : Obj) (b : Nat) (hb : b = W.heap.size) => show (W.alloc o).heap[b]? = some o from by rw [hb]; exact heap_alloc_new W o
  have Hf1 := Lib.hid hf1
  have Hf2 := Lib.hid hf2
  have Hnew := Lib.hid hnew
  clear hf1 hf2 hnew
  cases p1 : inB a (-1000) 1000 && inB b (-1000) 1000 with
  | false =>
    rw [p1] at Hf2
    clear p1
    go_enter Tryz.func72, Tryz.ntmps72
    go_wp2_with (go_at_call 54; refine (Hf2.out _ _ (Hnew.out _ _ _ (by simp))).mono ?_; rintro e w1 ⟨rfl, hx1⟩)
    go_ret
    exact ⟨rfl, (((Ext.refl _).alloc _).alloc _).trans hx1⟩
  | true =>
    rw [p1] at Hf2
    clear p1
    by_cases ha : a = 0
    · subst ha
      by_cases hb : b = 0
      · subst hb
        go_enter Tryz.func72, Tryz.ntmps72
        go_wp2_with (go_at_call 54; refine (Hf2.out _ _ (Hnew.out _ _ _ (by simp))).mono ?_; rintro e w1 ⟨rfl, hx1⟩; obtain ⟨f0, _⟩ := hx1.box (Ext.heap ((Ext.refl _).alloc _) (heap_alloc_new w (.cells #[.int .i64 0, .int .i64 0, .int .i64 c] 79))))
        go_ret
        exact ⟨ret_bool (by simp), (((Ext.refl _).alloc _).alloc _).trans hx1⟩
      · have hbB : (b != 0) = true := by rw [bne_iff_ne]; exact hb
        cases p2 : inB c (-100000000000) 100000000000
        all_goals
          rw [p2] at Hf1
          clear p2
          go_enter Tryz.func72, Tryz.ntmps72
          go_wp2_with (first | (go_at_call 54; refine (Hf2.out _ _ (Hnew.out _ _ _ (by simp))).mono ?_; rintro e w1 ⟨rfl, hx1⟩; obtain ⟨f0, _⟩ := hx1.box (Ext.heap ((Ext.refl _).alloc _) (heap_alloc_new w (.cells #[.int .i64 0, .int .i64 b, .int .i64 c] 79))); clear Hf2) | (go_at_call 54; refine (Hf1.out _ _ (Hnew.out _ _ _ (by simp))).mono ?_; rintro e w2 ⟨rfl, hx2⟩))
          go_ret
          exact ⟨ret_bool (by simp [hbB]), (((((Ext.refl _).alloc _).alloc _).trans hx1).alloc _).trans hx2⟩
    · have haB : (a != 0) = true := by rw [bne_iff_ne]; exact ha
      cases p2 : inB c (-100000000000) 100000000000
      all_goals
        rw [p2] at Hf1
        clear p2
        go_enter Tryz.func72, Tryz.ntmps72
        go_wp2_with (first | (go_at_call 54; refine (Hf2.out _ _ (Hnew.out _ _ _ (by simp))).mono ?_; rintro e w1 ⟨rfl, hx1⟩; obtain ⟨f0, _⟩ := hx1.box (Ext.heap ((Ext.refl _).alloc _) (heap_alloc_new w (.cells #[.int .i64 a, .int .i64 b, .int .i64 c] 79))); clear Hf2) | (go_at_call 54; refine (Hf1.out _ _ (Hnew.out _ _ _ (by simp))).mono ?_; rintro e w2 ⟨rfl, hx2⟩))
        go_ret
        exact ⟨ret_bool (by simp [haB]), (((((Ext.refl _).alloc _).alloc _).trans hx1).alloc _).trans hx2⟩
end Go.Proofs.YtcoelhpmkhimpaaGreat

/- Contracts of small functions: floor, ceil, meet, corners within a half. -/
namespace Go.Proofs.YtcoelhpmkhimpaaGreat
open Go.RowKit
set_option linter.unusedVariables false
set_option linter.unusedSimpArgs false

theorem ediv_uniq {a b q : Int} (hb : 0 < b) (h1 : q * b ≤ a) (h2 : a < (q + 1) * b) : a / b = q := by
  have h3 := Int.ediv_mul_le a (show b ≠ 0 by omega)
  have h4 := Int.lt_ediv_add_one_mul_self a hb
  have e1 := Int.lt_of_mul_lt_mul_right (Int.lt_of_le_of_lt h1 h4) (Int.le_of_lt hb)
  have e2 := Int.lt_of_mul_lt_mul_right (Int.lt_of_le_of_lt h3 h2) (Int.le_of_lt hb)
  omega
theorem flo_neg {a b : Int} (hb : 0 < b) : flo a b = -((b - 1 - a) / b) := by
  have h3 := Int.ediv_mul_le (b - 1 - a) (show b ≠ 0 by omega)
  have h4 := Int.lt_ediv_add_one_mul_self (b - 1 - a) hb
  unfold flo
  generalize (b - 1 - a) / b = q at *
  refine ediv_uniq hb ?_ ?_
  · rw [Int.neg_mul]
    rw [Int.add_mul] at h4
    omega
  · rw [Int.add_mul, Int.neg_mul]
    omega
theorem flo_bd {a b M : Int} (hb : 0 < b) (h0 : -M ≤ a) (h1 : a ≤ M) : -M ≤ flo a b ∧ flo a b ≤ M := by
  have h2 := flo_le (a := a) hb
  obtain ⟨q, hq⟩ : ∃ q, flo a b = q := ⟨_, rfl⟩
  rw [hq] at h2 ⊢
  obtain ⟨l, h⟩ := h2
  have hM : 0 ≤ M := by omega
  constructor
  · rcases Int.le_total (-M) q with h' | h'
    · exact h'
    · rcases Int.lt_or_le q (-M) with h3 | h3
      · have e1 : (q + 1) * b ≤ -M * b := Int.mul_le_mul_of_nonneg_right (by omega) (by omega)
        have e2 : -M * b ≤ -M * 1 := Int.mul_le_mul_of_nonpos_left (by omega) (by omega)
        omega
      · exact h3
  · rcases Int.lt_or_le M q with h3 | h3
    · have e1 : M * 1 < q * b := by
        have e2 : M * b ≤ (q - 1) * b := Int.mul_le_mul_of_nonneg_right (by omega) (by omega)
        have e3 : M * 1 ≤ M * b := Int.mul_le_mul_of_nonneg_left (by omega) hM
        rw [Int.sub_mul] at e2
        omega
      omega
    · exact h3
def CornerIn (c : Corner) : Prop := -200000000000000 ≤ c.x ∧ c.x ≤ 200000000000000 ∧ -200000000000000 ≤ c.y ∧ c.y ≤ 200000000000000 ∧ 0 ≤ c.d ∧ c.d ≤ 2000000
def Corner.val (c : Corner) : Value := .agg #[.int .i64 c.x, .int .i64 c.y, .int .i64 c.d]
theorem meet_bd {p q : Half} (hp : HalfIn p) (hq : HalfIn q) : CornerIn (meet p q) := by
  obtain ⟨a0, a1, b0, b1, _, c0, c1⟩ := hp
  obtain ⟨d0, d1, e0, e1, _, f0, f1⟩ := hq
  have m1 := mul_le (A := 100000000000) (B := 1000) c0 c1 e0 e1
  have m2 := mul_le (A := 100000000000) (B := 1000) f0 f1 b0 b1
  have m3 := mul_le (A := 1000) (B := 100000000000) a0 a1 f0 f1
  have m4 := mul_le (A := 1000) (B := 100000000000) d0 d1 c0 c1
  have m5 := mul_le (A := 1000) (B := 1000) a0 a1 e0 e1
  have m6 := mul_le (A := 1000) (B := 1000) d0 d1 b0 b1
  unfold CornerIn meet
  split
  · rename_i h
    simp only [meet0] at h ⊢
    omega
  · rename_i h
    simp only [meet0] at h ⊢
    omega
set_option maxRecDepth 100000 in
theorem meet_any (p q : Half) (w : World) (hp : HalfIn p) (hq : HalfIn q) : Calls Tryz.prog 86 #[p.val, q.val] w fun e w' => e = .returned (meet p q).val ∧ Ext w w' := by
  obtain ⟨pa, pb, pc⟩ := p
  obtain ⟨qa, qb, qc⟩ := q
  obtain ⟨a0, a1, b0, b1, _, c0, c1⟩ := hp
  obtain ⟨d0, d1, e0, e1, _, f0, f1⟩ := hq
  simp only at *
  have m1 := mul_le (A := 100000000000) (B := 1000) c0 c1 e0 e1
  have m2 := mul_le (A := 100000000000) (B := 1000) f0 f1 b0 b1
  have m3 := mul_le (A := 1000) (B := 100000000000) a0 a1 f0 f1
  have m4 := mul_le (A := 1000) (B := 100000000000) d0 d1 c0 c1
  have m5 := mul_le (A := 1000) (B := 1000) a0 a1 e0 e1
  have m6 := mul_le (A := 1000) (B := 1000) d0 d1 b0 b1
  simp only [Int.reduceMul, Int.reduceNeg] at m1 m2 m3 m4 m5 m6
  have hm : meet0 ⟨pa, pb, pc⟩ ⟨qa, qb, qc⟩ = ⟨pc * qb - qc * pb, pa * qc - qa * pc, pa * qb - qa * pb⟩ := rfl
  unfold meet
  rw [hm]
  clear hm
  unfold Half.val Corner.val
  simp only
  obtain ⟨P1, h1⟩ : ∃ P, pc * qb = P := ⟨_, rfl⟩
  obtain ⟨P2, h2⟩ : ∃ P, qc * pb = P := ⟨_, rfl⟩
  obtain ⟨P3, h3⟩ : ∃ P, pa * qc = P := ⟨_, rfl⟩
  obtain ⟨P4, h4⟩ : ∃ P, qa * pc = P := ⟨_, rfl⟩
  obtain ⟨P5, h5⟩ : ∃ P, pa * qb = P := ⟨_, rfl⟩
  obtain ⟨P6, h6⟩ : ∃ P, qa * pb = P := ⟨_, rfl⟩
  rw [h1] at m1 ⊢
  rw [h2] at m2 ⊢
  rw [h3] at m3 ⊢
  rw [h4] at m4 ⊢
  rw [h5] at m5 ⊢
  rw [h6] at m6 ⊢
  by_cases hd : P5 - P6 < 0
  · have hdB : decide (P5 - P6 < 0) = true := decide_eq_true hd
    rw [if_pos hd]
    go_enter Tryz.func86, Tryz.ntmps86
    go_wp2_with fail
    refine bodyPost_ret (by simp [results, Tryz.results86, asAddr, go_sem]; rfl) rfl ?_
    refine ⟨rfl, ?_⟩
    repeat (first | exact Ext.refl _ | refine Ext.alloc ?_ _ | refine Ext.setCell ?_ (by first | (simp; done) | (simp; omega)) _ | refine Ext.drew ?_)
  · have hdB : decide (P5 - P6 < 0) = false := decide_eq_false hd
    rw [if_neg hd]
    go_enter Tryz.func86, Tryz.ntmps86
    go_wp2_with fail
    refine bodyPost_ret (by simp [results, Tryz.results86, asAddr, go_sem]; rfl) rfl ?_
    refine ⟨rfl, ?_⟩
    repeat (first | exact Ext.refl _ | refine Ext.alloc ?_ _ | refine Ext.setCell ?_ (by first | (simp; done) | (simp; omega)) _ | refine Ext.drew ?_)
end Go.Proofs.YtcoelhpmkhimpaaGreat

/- Contracts of small functions: a corner in a half; spans; products. -/
namespace Go.Proofs.YtcoelhpmkhimpaaGreat
open Go.RowKit
set_option linter.unusedVariables false
set_option linter.unusedSimpArgs false

/-- the cells of a corner -/
def CornerAt (w : World) (g : Nat) (c : Corner) : Prop := w.cell? ⟨g, 0, none⟩ = some (.int .i64 c.x) ∧ w.cell? ⟨g, 1, none⟩ = some (.int .i64 c.y) ∧ w.cell? ⟨g, 2, none⟩ = some (.int .i64 c.d)
theorem CornerAt.ext {w w' : World} {g : Nat} {c : Corner} (h : CornerAt w g c) (e : Ext w w') : CornerAt w' g c := ⟨e.cell h.1, e.cell h.2.1, e.cell h.2.2⟩
theorem inFn_any (h : Half) (c : Corner) (g : Nat) (w : World) (hh : HalfIn h) (hc : CornerIn c) (hg : CornerAt w g c) : Calls Tryz.prog 87 #[h.val, .pointer (some ⟨g, 0, none⟩)] w fun e w' => e = .returned (.bool (inH h c)) ∧ Ext w w' := by
  obtain ⟨ha, hb, hcc⟩ := h
  obtain ⟨cx, cy, cd⟩ := c
  obtain ⟨a0, a1, b0, b1, _, c0, c1⟩ := hh
  obtain ⟨x0, x1, y0, y1, d0, d1⟩ := hc
  obtain ⟨g0, g1, g2⟩ := hg
  simp only at *
  have m1 := mul_le (A := 1000) (B := 200000000000000) a0 a1 x0 x1
  have m2 := mul_le (A := 1000) (B := 200000000000000) b0 b1 y0 y1
  have m3 := mul_le (A := 100000000000) (B := 2000000) c0 c1 (show -2000000 ≤ cd by omega) d1
  simp only [Int.reduceMul, Int.reduceNeg] at m1 m2 m3
  unfold Half.val inH
  simp only
  obtain ⟨P1, h1⟩ : ∃ P, ha * cx = P := ⟨_, rfl⟩
  obtain ⟨P2, h2⟩ : ∃ P, hb * cy = P := ⟨_, rfl⟩
  obtain ⟨P3, h3⟩ : ∃ P, hcc * cd = P := ⟨_, rfl⟩
  rw [h1] at m1 ⊢
  rw [h2] at m2 ⊢
  rw [h3] at m3 ⊢
  have hgl : g < w.heap.size := block_lt_of_cell g0
  go_enter Tryz.func87, Tryz.ntmps87
  go_wp2_with fail
  go_ret
  refine ⟨rfl, ?_⟩
  repeat (first | exact Ext.refl _ | refine Ext.alloc ?_ _ | refine Ext.setCell ?_ (by first | (simp; done) | (simp; omega)) _ | refine Ext.drew ?_)
/-- moved$1 -/
theorem fitFn_any (h : Half) (w : World) : Calls Tryz.prog 62 #[h.val] w fun e w' => e = .returned (.bool (edgeOk h.c)) ∧ Ext w w' := by
  obtain ⟨a, b, c⟩ := h
  have hf1 := fun W k hb => from1 (-100000000000) 100000000000 c W k hb
  have hnew := fun (W : World) (o : Obj) (b : Nat) (hb : b = W.heap.size) => show (W.alloc o).heap[b]? = some o from by rw [hb]; exact heap_alloc_new W o
  unfold Half.val edgeOk
  simp only
  have Hf1 := Lib.hid hf1
  have Hnew := Lib.hid hnew
  clear hf1 hnew
  go_enter Tryz.func62, Tryz.ntmps62
  go_wp2_with (go_at_call 54; refine (Hf1.out _ _ (Hnew.out _ _ _ (by simp))).mono ?_; rintro e w1 ⟨rfl, hx1⟩)
  go_ret
  exact ⟨rfl, (((Ext.refl _).alloc _).alloc _).trans hx1⟩
/-- the least and the greatest -/
def minL : List Int → Int
  | [] => 0
  | x :: l => l.foldl min x
def maxL : List Int → Int
  | [] => 0
  | x :: l => l.foldl max x
theorem foldl_take_succ {f : Int → Int → Int} {x : Int} {l : List Int} {k : Nat} {y : Int} (h : l[k]? = some y) : (l.take (k + 1)).foldl f x = f ((l.take k).foldl f x) y := by
  rw [List.take_add_one, h]
  simp
theorem gmin_any (a : Option Addr) (n cap : Nat) (l : List Int) (w : World) (hl : IntsAt .i64 w a n l) (h1 : 1 ≤ n) (hn : n ≤ 1000) : Calls Tryz.prog 107 #[.slice a n cap] w fun e w' => e = .returned (.int .i64 (minL l)) ∧ Ext w w' := by
  obtain ⟨x, r, rfl⟩ : ∃ x r, l = x :: r := by
    cases l with
    | nil => have := hl.1; simp at this; omega
    | cons x r => exact ⟨x, r, rfl⟩
  have hlen := hl.1
  obtain ⟨b, off, x', rfl, hx', hb, c0⟩ := hl.get 0 (by omega)
  simp only [List.getElem?_cons_zero, Option.some.injEq] at hx'
  subst hx'
  rw [Nat.add_zero] at c0
  have hnB : decide ((n : Int) < 1) = false := decide_eq_false (by omega)
  have Hl := Lib.hid hl
  have Hlen := Lib.hid hlen
  clear hl hlen
  go_enter Tryz.func107, Tryz.ntmps107
  go_upto_region 5 with fail
  go_loopw [3, 4] (fun m i wr => ∃ k : Nat, k + 1 ≤ n ∧ i = .int .i64 ((k + 1 : Nat) : Int) ∧ m = .int .i64 ((r.take k).foldl min x) ∧ wr = w) (fun _ i _ => n - (intOf i).toNat)
  case atStart => exact ⟨0, by omega, rfl, rfl, rfl⟩
  case round =>
    obtain ⟨k, hk, rfl, rfl, rfl⟩ := hrel
    by_cases hlt : k + 1 < n
    · have hltB : decide (((k + 1 : Nat) : Int) < (n : Int)) = true := decide_eq_true (by omega)
      obtain ⟨b', off', y, e, hy, _, c1⟩ := Hl.out.get (k + 1) hlt
      cases e
      rw [List.getElem?_cons_succ] at hy
      have hs := foldl_take_succ (f := min) (x := x) hy
      generalize (r.take k).foldl min x = M at *
      have Hs := Lib.hid hs
      clear hs
      clear hy
      go_wp2_with fail
      go_roundw
      case rel => exact ⟨k + 1, by omega, by go_num, by rw [Hs.out]; congr 1; split <;> omega, trivial⟩
      case measure => simp [intOf]; omega
    · have hltB : decide (((k + 1 : Nat) : Int) < (n : Int)) = false := decide_eq_false (by omega)
      have hk : r.take k = r := List.take_of_length_le (by have := Hlen.out; simp at this; omega)
      rw [hk]
      go_wp2_with fail
      go_ret
      exact ⟨rfl, Ext.refl _⟩
theorem max_any (a : Option Addr) (n cap : Nat) (l : List Int) (w : World) (hl : IntsAt .i64 w a n l) (h1 : 1 ≤ n) (hn : n ≤ 1000) : Calls Tryz.prog 108 #[.slice a n cap] w fun e w' => e = .returned (.int .i64 (maxL l)) ∧ Ext w w' := by
  obtain ⟨x, r, rfl⟩ : ∃ x r, l = x :: r := by
    cases l with
    | nil => have := hl.1; simp at this; omega
    | cons x r => exact ⟨x, r, rfl⟩
  have hlen := hl.1
  obtain ⟨b, off, x', rfl, hx', hb, c0⟩ := hl.get 0 (by omega)
  simp only [List.getElem?_cons_zero, Option.some.injEq] at hx'
  subst hx'
  rw [Nat.add_zero] at c0
  have hnB : decide ((n : Int) < 1) = false := decide_eq_false (by omega)
  have Hl := Lib.hid hl
  have Hlen := Lib.hid hlen
  clear hl hlen
  go_enter Tryz.func108, Tryz.ntmps108
  go_upto_region 5 with fail
  go_loopw [3, 4] (fun m i wr => ∃ k : Nat, k + 1 ≤ n ∧ i = .int .i64 ((k + 1 : Nat) : Int) ∧ m = .int .i64 ((r.take k).foldl max x) ∧ wr = w) (fun _ i _ => n - (intOf i).toNat)
  case atStart => exact ⟨0, by omega, rfl, rfl, rfl⟩
  case round =>
    obtain ⟨k, hk, rfl, rfl, rfl⟩ := hrel
    by_cases hlt : k + 1 < n
    · have hltB : decide (((k + 1 : Nat) : Int) < (n : Int)) = true := decide_eq_true (by omega)
      obtain ⟨b', off', y, e, hy, _, c1⟩ := Hl.out.get (k + 1) hlt
      cases e
      rw [List.getElem?_cons_succ] at hy
      have hs := foldl_take_succ (f := max) (x := x) hy
      generalize (r.take k).foldl max x = M at *
      have Hs := Lib.hid hs
      clear hs
      clear hy
      go_wp2_with fail
      go_roundw
      case rel => exact ⟨k + 1, by omega, by go_num, by rw [Hs.out]; congr 1; split <;> omega, trivial⟩
      case measure => simp [intOf]; omega
    · have hltB : decide (((k + 1 : Nat) : Int) < (n : Int)) = false := decide_eq_false (by omega)
      have hk : r.take k = r := List.take_of_length_le (by have := Hlen.out; simp at this; omega)
      rw [hk]
      go_wp2_with fail
      go_ret
      exact ⟨rfl, Ext.refl _⟩
set_option maxRecDepth 100000 in
theorem hull_any (a : Option Addr) (n cap : Nat) (l : List Int) (w : World) (hl : IntsAt .i64 w a n l) (h1 : 1 ≤ n) (hn : n ≤ 1000) : Calls Tryz.prog 77 #[.slice a n cap] w fun e w' => e = .returned (Span.val ⟨minL l, maxL l⟩) ∧ Ext w w' := by
  have hmi := fun W (hW : Ext w W) => gmin_any a n cap l W (hl.ext hW) h1 hn
  have hma := fun W (hW : Ext w W) => max_any a n cap l W (hl.ext hW) h1 hn
  have hx1 : Ext w (w.alloc (.cells #[.int .i64 0, .int .i64 0] 27)) := (Ext.refl _).alloc _
  have hbb := heap_alloc_new w (.cells #[.int .i64 0, .int .i64 0] 27)
  generalize minL l = m at *
  generalize maxL l = M at *
  unfold Span.val
  have Hmi := Lib.hid hmi
  have Hma := Lib.hid hma
  have Hx1 := Lib.hid hx1
  have Hbb := Lib.hid hbb
  clear hmi hma hx1 hbb
  clear hl
  go_enter Tryz.func77, Tryz.ntmps77
  go_wp2_with (first | (go_at_call 107; refine (Hmi.out _ Hx1.out).mono ?_; rintro e w1 ⟨rfl, hx2⟩; have hx02 := Hx1.out.trans hx2; have hb2 := hx2.heap Hbb.out; have Hb2 := Lib.hid hb2; clear hb2) | (go_at_call 108; refine (Hma.out _ hx02).mono ?_; rintro e w2 ⟨rfl, hx3⟩; have hx03 := hx02.trans hx3; have hb3 := hx3.heap Hb2.out; obtain ⟨f0, f1⟩ := (Ext.refl _).box hb3))
  refine bodyPost_ret (results_cell_row rfl _ _ w.heap.size 27 #[.int .i64 m, .int .i64 M] (0, 0) _ rfl (by simp only [heap_setCell_box, hb3, Option.map_some, setIn_cells, List.setIfInBounds_toArray, List.set_cons_zero, List.set_cons_succ]) Tryz.underlying27 rfl (by kernel_rfl)) rfl ?_
  refine ⟨rfl, ?_⟩
  exact (hx03.setCell (p := ⟨w.heap.size, 0, none⟩) (Nat.le_refl _) _).setCell (p := ⟨w.heap.size, 1, none⟩) (Nat.le_refl _) _
end Go.Proofs.YtcoelhpmkhimpaaGreat

/- Contracts: boxes, products of spans, spans in order, a landmark's place. -/
namespace Go.Proofs.YtcoelhpmkhimpaaGreat
open Go.RowKit
set_option linter.unusedVariables false
set_option linter.unusedSimpArgs false
theorem halfRows_row (l : List Half) : ∀ r ∈ halfRows l, r.length = 3 ∧ ∀ u ∈ r, u.oneCell' = true := by
  intro r hr
  obtain ⟨x, _, rfl⟩ := List.mem_map.1 hr
  exact ⟨rfl, fun u hu => by simp [Half.cells] at hu; rcases hu with rfl | rfl | rfl <;> rfl⟩
theorem halfRows_append (l m : List Half) : halfRows (l ++ m) = halfRows l ++ halfRows m := by simp [halfRows]
theorem halves_block {w : World} {b : Nat} (l : List Half) (hb : w.heap[b]? = some (.cells (halfRows l).flatten.toArray 79 (0, 0))) : HalvesAt w (some ⟨b, 0, none⟩) l.length l := by
  have := slAt_block hb (fun r hr => (halfRows_row _ r hr).1)
  rw [show (halfRows l).length = l.length by simp [halfRows]] at this
  exact ⟨rfl, this.congr fun i hi => by simp [halfRows, List.getD, List.getElem?_map, List.getElem?_eq_getElem hi]⟩
theorem HalvesAt.src {w : World} {a : Option Addr} {n : Nat} {l : List Half} (h : HalvesAt w a n l) : SlAt w 3 a n (fun i => (halfRows l).getD i []) :=
  h.2.congr fun i hi => by
    have : i < l.length := by rw [h.1]; exact hi
    simp [halfRows, List.getD, List.getElem?_map, List.getElem?_eq_getElem this]
theorem halves_of_owns {w : World} {B : Nat} {e : TypeId} {v : Value} {l : List Half} (h : Owns w B e 3 v (halfRows l)) : ∃ a c, v = .slice a l.length c ∧ From B a ∧ l.length ≤ c ∧ c ≤ maxLen ∧ HalvesAt w a l.length l := by
  obtain ⟨a, c, hv, h1, h2, h3, h4⟩ := h.slAt
  rw [show (halfRows l).length = l.length by simp [halfRows]] at hv h2 h4
  refine ⟨a, c, hv, h1, h2, h3, rfl, h4.congr fun i hi => ?_⟩
  simp [halfRows, List.getD, List.getElem?_map, List.getElem?_eq_getElem hi]
/-- halves in a block of their own -/
def NewHalves (l : List Half) (w : World) (e : Ending) (w' : World) : Prop := ∃ b, e = .returned (.slice (some ⟨b, 0, none⟩) l.length l.length) ∧ w.heap.size ≤ b ∧ Ext w w' ∧ w'.heap[b]? = some (.cells (halfRows l).flatten.toArray 79 (0, 0))
theorem NewHalves.at {l : List Half} {w w' : World} {e : Ending} (h : NewHalves l w e w') : ∃ b, e = .returned (.slice (some ⟨b, 0, none⟩) l.length l.length) ∧ w.heap.size ≤ b ∧ Ext w w' ∧ HalvesAt w' (some ⟨b, 0, none⟩) l.length l :=
  let ⟨b, h1, h2, h3, h4⟩ := h; ⟨b, h1, h2, h3, halves_block l h4⟩
def Small (n : Int) : Prop := -1000000000000 ≤ n ∧ n ≤ 1000000000000
set_option maxRecDepth 100000 in
theorem box_any (e n : Span) (w : World) (h0 : Small e.lo) (h1 : Small e.hi) (h2 : Small n.lo) (h3 : Small n.hi) : Calls Tryz.prog 44 #[e.val, n.val] w (NewHalves (box e n) w) := by
  obtain ⟨el, eh⟩ := e
  obtain ⟨nl, nh⟩ := n
  obtain ⟨a0, a1⟩ := h0
  obtain ⟨b0, b1⟩ := h1
  obtain ⟨c0, c1⟩ := h2
  obtain ⟨d0, d1⟩ := h3
  simp only at *
  unfold Span.val
  go_enter Tryz.func44, Tryz.ntmps44
  go_wp2_with fail
  go_ret
  refine ⟨_, rfl, ?_, ?_, alloc_at _ _ _ (by simp)⟩
  · first | omega | (simp; done) | (simp; omega)
  · repeat (first | exact Ext.refl _ | refine Ext.alloc ?_ _ | refine Ext.setCell ?_ (by first | (simp; done) | (simp; omega)) _ | refine Ext.drew ?_)
theorem times4 (a b c d : Int) : minL [a, b, c, d] = min (min a b) (min c d) ∧ maxL [a, b, c, d] = max (max a b) (max c d) := by
  simp only [minL, maxL, List.foldl_cons, List.foldl_nil]
  omega
set_option maxRecDepth 100000 in
theorem times_any (a b : Span) (w : World) (h0 : -1000000 ≤ a.lo ∧ a.lo ≤ 1000000) (h1 : -1000000 ≤ a.hi ∧ a.hi ≤ 1000000) (h2 : -1000000 ≤ b.lo ∧ b.lo ≤ 1000000) (h3 : -1000000 ≤ b.hi ∧ b.hi ≤ 1000000) :
    Calls Tryz.prog 59 #[a.val, b.val] w fun e w' => e = .returned (times a b).val ∧ Ext w w' := by
  obtain ⟨p, q⟩ := a
  obtain ⟨r, s⟩ := b
  simp only at *
  have m1 := mul_le (A := 1000000) (B := 1000000) h0.1 h0.2 h2.1 h2.2
  have m2 := mul_le (A := 1000000) (B := 1000000) h0.1 h0.2 h3.1 h3.2
  have m3 := mul_le (A := 1000000) (B := 1000000) h1.1 h1.2 h2.1 h2.2
  have m4 := mul_le (A := 1000000) (B := 1000000) h1.1 h1.2 h3.1 h3.2
  simp only [Int.reduceMul, Int.reduceNeg] at m1 m2 m3 m4
  have ht : times ⟨p, q⟩ ⟨r, s⟩ = ⟨min (min (p * r) (p * s)) (min (q * r) (q * s)), max (max (p * r) (p * s)) (max (q * r) (q * s))⟩ := rfl
  rw [ht]
  clear ht
  obtain ⟨P1, e1⟩ : ∃ P, p * r = P := ⟨_, rfl⟩
  obtain ⟨P2, e2⟩ : ∃ P, p * s = P := ⟨_, rfl⟩
  obtain ⟨P3, e3⟩ : ∃ P, q * r = P := ⟨_, rfl⟩
  obtain ⟨P4, e4⟩ : ∃ P, q * s = P := ⟨_, rfl⟩
  rw [e1] at m1 ⊢
  rw [e2] at m2 ⊢
  rw [e3] at m3 ⊢
  rw [e4] at m4 ⊢
  have hh := fun W k (hk : W.heap[k]? = some (.cells #[.int .i64 P1, .int .i64 P2, .int .i64 P3, .int .i64 P4] 3 (0, 0))) => hull_any (some ⟨k, 0, none⟩) 4 4 [P1, P2, P3, P4] W (ints_built (l := [P1, P2, P3, P4]) hk) (by omega) (by omega)
  rw [(times4 P1 P2 P3 P4).1, (times4 P1 P2 P3 P4).2] at hh
  generalize min (min P1 P2) (min P3 P4) = m at *
  generalize max (max P1 P2) (max P3 P4) = M at *
  have hnew := fun (W : World) (o : Obj) (b : Nat) (hb : b = W.heap.size) => show (W.alloc o).heap[b]? = some o from by rw [hb]; exact heap_alloc_new W o
  have hx3 : Ext w (((w.alloc (.cells #[.int .i64 p, .int .i64 q] 27)).alloc (.cells #[.int .i64 r, .int .i64 s] 27)).alloc (.cells #[.int .i64 0, .int .i64 0] 27)) := (((Ext.refl _).alloc _).alloc _).alloc _
  have hb3 : (((w.alloc (.cells #[.int .i64 p, .int .i64 q] 27)).alloc (.cells #[.int .i64 r, .int .i64 s] 27)).alloc (.cells #[.int .i64 0, .int .i64 0] 27)).heap[w.heap.size + 1 + 1]? = some (.cells #[.int .i64 0, .int .i64 0] 27 (0, 0)) := hnew _ _ _ (by simp)
  unfold Span.val at hh ⊢
  simp only at hh ⊢
  have Hh := Lib.hid hh
  have Hnew := Lib.hid hnew
  have Hx3 := Lib.hid hx3
  have Hb3 := Lib.hid hb3
  clear hh hnew hx3 hb3
  go_enter Tryz.func59, Tryz.ntmps59
  go_wp2_with (go_at_call 77; refine (Hh.out _ _ (Hnew.out _ _ _ (by simp))).mono ?_; rintro e w1 ⟨rfl, hx1⟩; have hb4 := ((Ext.refl _).alloc _ |>.trans hx1).heap Hb3.out; have hx4 := (Hx3.out.alloc _).trans hx1; obtain ⟨f0, f1⟩ := (Ext.refl _).box hb4)
  refine bodyPost_ret (results_cell_row rfl _ _ (w.heap.size + 1 + 1) 27 #[.int .i64 m, .int .i64 M] (0, 0) _ rfl (by simp only [heap_setCell_box, hb4, Option.map_some, setIn_cells, List.setIfInBounds_toArray, List.set_cons_zero, List.set_cons_succ]) Tryz.underlying27 rfl (by kernel_rfl)) rfl ?_
  refine ⟨rfl, ?_⟩
  exact (hx4.setCell (p := ⟨w.heap.size + 1 + 1, 0, none⟩) (by simp only; omega) _).setCell (p := ⟨w.heap.size + 1 + 1, 1, none⟩) (by simp only; omega) _
theorem orderedFn_any (s : Span) (lo hi : Int) (c d : Nat) (w : World) (hc : w.cell? ⟨c, 0, none⟩ = some (.int .i64 lo)) (hd : w.cell? ⟨d, 0, none⟩ = some (.int .i64 hi)) :
    Calls Tryz.prog 71 #[s.val, .pointer (some ⟨c, 0, none⟩), .pointer (some ⟨d, 0, none⟩)] w fun e w' => e = .returned (.bool (spanOk s lo hi)) ∧ Ext w w' := by
  obtain ⟨p, q⟩ := s
  have hcl : c < w.heap.size := block_lt_of_cell hc
  have hdl : d < w.heap.size := block_lt_of_cell hd
  have hs : spanOk ⟨p, q⟩ lo hi = (decide (p ≤ q) && (inB p lo hi && inB q lo hi)) := by
    unfold spanOk inB
    simp only
    rw [Bool.eq_iff_iff]
    simp only [Bool.and_eq_true, decide_eq_true_eq]
    omega
  rw [hs]
  clear hs
  unfold Span.val
  simp only
  by_cases h : p ≤ q
  · have hB : decide (p ≤ q) = true := decide_eq_true h
    have hf2 := fun W k hb => from2 lo hi p q W k hb
    rw [hB]
    generalize (inB p lo hi && inB q lo hi) = r at *
    have hx2 : Ext w ((w.alloc (.cells #[.int .i64 p, .int .i64 q] 27)).alloc (.cells #[.int .i64 p, .int .i64 q] 3)) := ((Ext.refl _).alloc _).alloc _
    have Hf2 := Lib.hid hf2
    have Hx2 := Lib.hid hx2
    clear hf2 hx2
    go_enter Tryz.func71, Tryz.ntmps71
    go_wp2_with (go_at_call 54; refine (Hf2.out _ _ (alloc_at _ _ _ (by simp))).mono ?_; rintro e w1 ⟨rfl, hx1⟩)
    go_ret
    exact ⟨rfl, Hx2.out.trans hx1⟩
  · have hB : decide (p ≤ q) = false := decide_eq_false h
    rw [hB]
    go_enter Tryz.func71, Tryz.ntmps71
    go_wp2_with fail
    go_ret
    exact ⟨rfl, (Ext.refl _).alloc _⟩
theorem ordered_any (lo hi : Int) (a : Option Addr) (n cap : Nat) (l : List Span) (w : World) (hl : SpansAt w a n l) (hn : n ≤ 1000) :
    Calls Tryz.prog 43 #[.int .i64 lo, .int .i64 hi, .slice a n cap] w fun e w' => e = .returned (.bool (l.all fun s => spanOk s lo hi)) ∧ Ext w w' := by
  have hx1 : Ext w ((w.alloc (.cells #[.int .i64 lo] 3)).alloc (.cells #[.int .i64 hi] 3)) := ((Ext.refl _).alloc _).alloc _
  have hb1 := heap_alloc_new w (.cells #[.int .i64 lo] 3)
  have hb2 := heap_alloc_new (w.alloc (.cells #[.int .i64 lo] 3)) (.cells #[.int .i64 hi] 3)
  rw [show (w.alloc (.cells #[.int .i64 lo] 3)).heap.size = w.heap.size + 1 by simp] at hb2
  have hb1' := ((Ext.refl (w.alloc (.cells #[.int .i64 lo] 3))).alloc (.cells #[.int .i64 hi] 3)).heap hb1
  have c1 := ((Ext.refl _).box hb1').1 0
  have c2 := ((Ext.refl _).box hb2).1 0
  have hc := every_span2 71 w.heap.size (w.heap.size + 1) (enters_of Tryz.func71 (by kernel_rfl) rfl) a n cap l (fun s => spanOk s lo hi) _ (hl.ext hx1) (by omega) (fun o _ W hW => orderedFn_any o lo hi _ _ W (hW.cell c1) (hW.cell c2))
  have Hc := Lib.hid hc
  have Hx1 := Lib.hid hx1
  clear hc hx1
  clear hl hb1 hb2 hb1' c1 c2
  go_enter Tryz.func43, Tryz.ntmps43
  go_wp2_with (go_at_call 70; refine Hc.out.mono ?_; rintro e w3 ⟨rfl, hx3⟩)
  go_ret
  exact ⟨rfl, Hx1.out.trans hx3⟩
theorem ordered1 (lo hi : Int) (s : Span) (w : World) (b : Nat) (hb : w.heap[b]? = some (.cells #[.int .i64 s.lo, .int .i64 s.hi] 27 (0, 0))) : Calls Tryz.prog 43 #[.int .i64 lo, .int .i64 hi, .slice (some ⟨b, 0, none⟩) 1 1] w fun e w' => e = .returned (.bool (spanOk s lo hi)) ∧ Ext w w' := by
  have := ordered_any lo hi (some ⟨b, 0, none⟩) 1 1 [s] w (spans_built (l := [s]) hb) (by omega)
  simpa using this
theorem ordered2 (lo hi : Int) (s t : Span) (w : World) (b : Nat) (hb : w.heap[b]? = some (.cells #[.int .i64 s.lo, .int .i64 s.hi, .int .i64 t.lo, .int .i64 t.hi] 27 (0, 0))) : Calls Tryz.prog 43 #[.int .i64 lo, .int .i64 hi, .slice (some ⟨b, 0, none⟩) 2 2] w fun e w' => e = .returned (.bool (spanOk s lo hi && spanOk t lo hi)) ∧ Ext w w' := by
  have := ordered_any lo hi (some ⟨b, 0, none⟩) 2 2 [s, t] w (spans_built (l := [s, t]) hb) (by omega)
  simpa using this
end Go.Proofs.YtcoelhpmkhimpaaGreat
