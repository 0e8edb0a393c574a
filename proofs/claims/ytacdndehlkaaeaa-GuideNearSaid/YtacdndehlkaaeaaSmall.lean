/- Contracts of small functions. -/
import Derived.Test.YtacdndehlkaaeaaEvery
import Derived.Test.YtacdndehlkaaeaaMix
namespace Go.Proofs.Ytacdndehlkaaeaa
open Go.RowKit
set_option linter.unusedVariables false
set_option linter.unusedSimpArgs false

theorem inB_not (x lo hi : Int) : (!inB x lo hi) = (decide (x < lo) || decide (hi < x)) := by
  unfold inB
  by_cases h1 : lo ≤ x <;> by_cases h2 : x ≤ hi <;> simp [h1, h2] <;> omega
theorem fromFn_any (x lo hi : Int) (c d : Nat) (w : World) (hc : w.cell? ⟨c, 0, none⟩ = some (.int .i64 lo)) (hd : w.cell? ⟨d, 0, none⟩ = some (.int .i64 hi)) :
    Calls Try.prog 88 #[.int .i64 x, .pointer (some ⟨c, 0, none⟩), .pointer (some ⟨d, 0, none⟩)] w fun e w' => e = .returned (.bool (!inB x lo hi)) ∧ Ext w w' := by
  rw [inB_not]
  by_cases h1 : x < lo
  · have b1 : decide (x < lo) = true := decide_eq_true h1
    go_enter Try.func88, Try.ntmps88
    go_wp2_with fail
    go_ret
    exact ⟨ret_bool (by rw [b1]; rfl), Ext.refl _⟩
  · have b1 : decide (x < lo) = false := decide_eq_false h1
    by_cases h2 : hi < x
    · have b2 : decide (hi < x) = true := decide_eq_true h2
      go_enter Try.func88, Try.ntmps88
      go_wp2_with fail
      go_ret
      exact ⟨rfl, Ext.refl _⟩
    · have b2 : decide (hi < x) = false := decide_eq_false h2
      go_enter Try.func88, Try.ntmps88
      go_wp2_with fail
      go_ret
      exact ⟨rfl, Ext.refl _⟩
theorem from_any (lo hi : Int) (a : Option Addr) (n cap : Nat) (l : List Int) (w : World) (hl : IntsAt .i64 w a n l) (hn : n ≤ 1000) :
    Calls Try.prog 66 #[.int .i64 lo, .int .i64 hi, .slice a n cap] w fun e w' => e = .returned (.bool (l.all fun x => inB x lo hi)) ∧ Ext w w' := by
  have hx1 : Ext w ((w.alloc (.cells #[.int .i64 lo] 3)).alloc (.cells #[.int .i64 hi] 3)) := ((Ext.refl _).alloc _).alloc _
  have hb1 := heap_alloc_new w (.cells #[.int .i64 lo] 3)
  have hb2 := heap_alloc_new (w.alloc (.cells #[.int .i64 lo] 3)) (.cells #[.int .i64 hi] 3)
  rw [show (w.alloc (.cells #[.int .i64 lo] 3)).heap.size = w.heap.size + 1 by simp] at hb2
  have hb1' := ((Ext.refl (w.alloc (.cells #[.int .i64 lo] 3))).alloc (.cells #[.int .i64 hi] 3)).heap hb1
  have c1 := ((Ext.refl _).box hb1').1 0
  have c2 := ((Ext.refl _).box hb2).1 0
  have hc := contains_int a n cap w.heap.size (w.heap.size + 1) l (fun x => !inB x lo hi) _ (hl.ext hx1) (by omega) (fun o _ W hW => fromFn_any o lo hi _ _ W (hW.cell c1) (hW.cell c2))
  have Hc := Lib.hid hc
  have Hx1 := Lib.hid hx1
  clear hc hx1
  clear hl hb1 hb2 hb1' c1 c2
  go_enter Try.func66, Try.ntmps66
  go_wp2_with (go_at_call 87; refine Hc.out.mono ?_; rintro e w3 ⟨rfl, hx3⟩)
  go_ret
  exact ⟨ret_bool (any_not (fun x => inB x lo hi) l), Hx1.out.trans hx3⟩
theorem ints1 {w w' : World} {b : Nat} {x : Int} (hb : w.heap[b]? = some (.cells #[.int .i64 x] 3 (0, 0))) : IntsAt .i64 w (some ⟨b, 0, none⟩) 1 [x] := by
  refine ⟨rfl, fun _ => ⟨b, 0, rfl, fun k hk j v hv => ?_⟩⟩
  obtain rfl : k = 0 := by omega
  cases j with
  | zero =>
    cases hv
    rw [cell_of_row w b _ _ 3 (0, 0) hb]
    rfl
  | succ j => simp at hv
/-- a slice of integers that has just been built -/
theorem ints_built {w : World} {b : Nat} {l : List Int} (hb : w.heap[b]? = some (.cells (l.map (Value.int .i64)).toArray 3 (0, 0))) : IntsAt .i64 w (some ⟨b, 0, none⟩) l.length l := by
  refine ⟨rfl, fun _ => ⟨b, 0, rfl, fun k hk j v hv => ?_⟩⟩
  cases j with
  | zero =>
    cases hv
    rw [cell_of_row w b _ _ 3 (0, 0) hb, List.getElem?_toArray]
    simp [List.getD, hk]
  | succ j => simp at hv
theorem from1 (lo hi x : Int) (w : World) (b : Nat) (hb : w.heap[b]? = some (.cells #[.int .i64 x] 3 (0, 0))) : Calls Try.prog 66 #[.int .i64 lo, .int .i64 hi, .slice (some ⟨b, 0, none⟩) 1 1] w fun e w' => e = .returned (.bool (inB x lo hi)) ∧ Ext w w' := by
  have := from_any lo hi (some ⟨b, 0, none⟩) 1 1 [x] w (ints_built (l := [x]) hb) (by omega)
  simpa using this
theorem from2 (lo hi x y : Int) (w : World) (b : Nat) (hb : w.heap[b]? = some (.cells #[.int .i64 x, .int .i64 y] 3 (0, 0))) : Calls Try.prog 66 #[.int .i64 lo, .int .i64 hi, .slice (some ⟨b, 0, none⟩) 2 2] w fun e w' => e = .returned (.bool (inB x lo hi && inB y lo hi)) ∧ Ext w w' := by
  have := from_any lo hi (some ⟨b, 0, none⟩) 2 2 [x, y] w (ints_built (l := [x, y]) hb) (by omega)
  simpa using this
theorem from4 (lo hi x y z u : Int) (w : World) (b : Nat) (hb : w.heap[b]? = some (.cells #[.int .i64 x, .int .i64 y, .int .i64 z, .int .i64 u] 3 (0, 0))) : Calls Try.prog 66 #[.int .i64 lo, .int .i64 hi, .slice (some ⟨b, 0, none⟩) 4 4] w fun e w' => e = .returned (.bool (inB x lo hi && inB y lo hi && inB z lo hi && inB u lo hi)) ∧ Ext w w' := by
  have := from_any lo hi (some ⟨b, 0, none⟩) 4 4 [x, y, z, u] w (ints_built (l := [x, y, z, u]) hb) (by omega)
  simpa [Bool.and_assoc] using this
/-- Check$1 -/
theorem half_any (h : Half) (w : World) : Calls Try.prog 67 #[h.val] w fun e w' => e = .returned (.bool (halfOk h)) ∧ Ext w w' := by
  obtain ⟨a, b, c⟩ := h
  have hf2 := fun W k hb => from2 (-1000) 1000 a b W k hb
  have hf1 := fun W k hb => from1 (-100000000000) 100000000000 c W k hb
  unfold Half.val halfOk partOk edgeOk
  simp only
  have hnew := fun (W : World) (o : Obj) (b : Nat) (hb : b = W.heap.size) => show (W.alloc o).heap[b]? = some o from by rw [hb]; exact heap_alloc_new W o
  have Hf1 := Lib.hid hf1
  have Hf2 := Lib.hid hf2
  have Hnew := Lib.hid hnew
  clear hf1 hf2 hnew
  cases p1 : inB a (-1000) 1000 && inB b (-1000) 1000 with
  | false =>
    rw [p1] at Hf2
    clear p1
    go_enter Try.func67, Try.ntmps67
    go_wp2_with (go_at_call 66; refine (Hf2.out _ _ (Hnew.out _ _ _ (by simp))).mono ?_; rintro e w1 ⟨rfl, hx1⟩)
    go_ret
    exact ⟨rfl, (((Ext.refl _).alloc _).alloc _).trans hx1⟩
  | true =>
    rw [p1] at Hf2
    clear p1
    by_cases ha : a = 0
    · subst ha
      by_cases hb : b = 0
      · subst hb
        go_enter Try.func67, Try.ntmps67
        go_wp2_with (go_at_call 66; refine (Hf2.out _ _ (Hnew.out _ _ _ (by simp))).mono ?_; rintro e w1 ⟨rfl, hx1⟩; obtain ⟨f0, _⟩ := hx1.box (Ext.heap ((Ext.refl _).alloc _) (heap_alloc_new w (.cells #[.int .i64 0, .int .i64 0, .int .i64 c] 47))))
        go_ret
        exact ⟨ret_bool (by simp), (((Ext.refl _).alloc _).alloc _).trans hx1⟩
      · have hbB : (b != 0) = true := by rw [bne_iff_ne]; exact hb
        cases p2 : inB c (-100000000000) 100000000000
        all_goals
          rw [p2] at Hf1
          clear p2
          go_enter Try.func67, Try.ntmps67
          go_wp2_with (first | (go_at_call 66; refine (Hf2.out _ _ (Hnew.out _ _ _ (by simp))).mono ?_; rintro e w1 ⟨rfl, hx1⟩; obtain ⟨f0, _⟩ := hx1.box (Ext.heap ((Ext.refl _).alloc _) (heap_alloc_new w (.cells #[.int .i64 0, .int .i64 b, .int .i64 c] 47))); clear Hf2) | (go_at_call 66; refine (Hf1.out _ _ (Hnew.out _ _ _ (by simp))).mono ?_; rintro e w2 ⟨rfl, hx2⟩))
          go_ret
          exact ⟨ret_bool (by simp [hbB]), (((((Ext.refl _).alloc _).alloc _).trans hx1).alloc _).trans hx2⟩
    · have haB : (a != 0) = true := by rw [bne_iff_ne]; exact ha
      cases p2 : inB c (-100000000000) 100000000000
      all_goals
        rw [p2] at Hf1
        clear p2
        go_enter Try.func67, Try.ntmps67
        go_wp2_with (first | (go_at_call 66; refine (Hf2.out _ _ (Hnew.out _ _ _ (by simp))).mono ?_; rintro e w1 ⟨rfl, hx1⟩; obtain ⟨f0, _⟩ := hx1.box (Ext.heap ((Ext.refl _).alloc _) (heap_alloc_new w (.cells #[.int .i64 a, .int .i64 b, .int .i64 c] 47))); clear Hf2) | (go_at_call 66; refine (Hf1.out _ _ (Hnew.out _ _ _ (by simp))).mono ?_; rintro e w2 ⟨rfl, hx2⟩))
        go_ret
        exact ⟨ret_bool (by simp [haB]), (((((Ext.refl _).alloc _).alloc _).trans hx1).alloc _).trans hx2⟩
end Go.Proofs.Ytacdndehlkaaeaa
