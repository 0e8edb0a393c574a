/- Contracts of 'from' and 'ordered'. Printed by wip/tools/genfrom.py. -/
import Derived.Test.YtcoelhpmkhimpaaGreatDoorEvery
namespace Go.Proofs.YtcoelhpmkhimpaaGreatDoor
open Go.RowKit
set_option linter.unusedVariables false
set_option linter.unusedSimpArgs false
theorem inB_not (x lo hi : Int) : (!inB x lo hi) = (decide (x < lo) || decide (hi < x)) := by
  unfold inB
  by_cases h1 : lo ≤ x <;> by_cases h2 : x ≤ hi <;> simp [h1, h2] <;> omega
theorem alloc_at (W : World) (o : Obj) (b : Nat) (hb : b = W.heap.size) : (W.alloc o).heap[b]? = some o := by rw [hb]; exact heap_alloc_new W o
/-- a slice of integers that has just been built -/
theorem ints_built {w : World} {b : Nat} {l : List Int} (hb : w.heap[b]? = some (.cells (l.map (Value.int .i64)).toArray 3 (0, 0))) : IntsAt .i64 w (some ⟨b, 0, none⟩) l.length l := by
  refine ⟨rfl, fun _ => ⟨b, 0, rfl, fun k hk j v hv => ?_⟩⟩
  cases j with
  | zero =>
    cases hv
    rw [cell_of_row w b _ _ 3 (0, 0) hb, List.getElem?_toArray]
    simp [List.getD, hk]
  | succ j => simp at hv
theorem spans_built {w : World} {b : Nat} {l : List Span} (hb : w.heap[b]? = some (.cells (l.flatMap Span.cells).toArray 23 (0, 0))) : SpansAt w (some ⟨b, 0, none⟩) l.length l := by
  refine ⟨rfl, fun _ => ⟨b, 0, rfl, fun k hk j v hv => ?_⟩⟩
  have hj : j < 2 := by have := (List.getElem?_eq_some_iff.1 hv).1; simpa [Span.cells] using this
  have key : ∀ (l : List Span) (k : Nat), k < l.length → (l.flatMap Span.cells)[k * 2 + j]? = (l.getD k zs).cells[j]? := by
    intro l
    induction l with
    | nil => intro k hk; simp at hk
    | cons x r ih =>
      intro k hk
      cases k with
      | zero =>
        simp only [List.flatMap_cons, Nat.zero_mul, Nat.zero_add]
        rw [List.getElem?_append_left (by simp [Span.cells]; omega)]
        rfl
      | succ k =>
        simp only [List.flatMap_cons]
        rw [List.getElem?_append_right (by simp [Span.cells]; omega)]
        have h2 := ih k (by simpa using hk)
        rw [show (k + 1) * 2 + j - x.cells.length = k * 2 + j by simp [Span.cells]; omega]
        simpa [List.getD] using h2
  rw [cell_of_row w b _ _ 23 (0, 0) hb, Nat.zero_add, List.getElem?_toArray, key l k hk]
  exact hv
theorem spanOk_not (s : Span) (lo hi : Int) : (!spanOk s lo hi) = (decide (s.hi < s.lo) || !(inB s.lo lo hi && inB s.hi lo hi)) := by
  unfold spanOk inB
  by_cases h1 : lo ≤ s.lo <;> by_cases h2 : s.lo ≤ s.hi <;> by_cases h3 : s.hi ≤ hi <;> by_cases h4 : s.hi < s.lo <;> by_cases h5 : s.lo ≤ hi <;> by_cases h6 : lo ≤ s.hi <;> simp [h1, h2, h3, h4, h5, h6] <;> omega

theorem fromFnW_any (x lo hi : Int) (c d : Nat) (w : World) (hc : w.cell? ⟨c, 0, none⟩ = some (.int .i64 lo)) (hd : w.cell? ⟨d, 0, none⟩ = some (.int .i64 hi)) :
    Calls Tryz.prog 107 #[.int .i64 x, .pointer (some ⟨c, 0, none⟩), .pointer (some ⟨d, 0, none⟩)] w fun e w' => e = .returned (.bool (!inB x lo hi)) ∧ Ext w w' := by
  rw [inB_not]
  by_cases h1 : x < lo
  · have b1 : decide (x < lo) = true := decide_eq_true h1
    go_enter Tryz.func107, Tryz.ntmps107
    go_wp2_with fail
    go_ret
    exact ⟨ret_bool (by rw [b1]; rfl), Ext.refl _⟩
  · have b1 : decide (x < lo) = false := decide_eq_false h1
    by_cases h2 : hi < x
    · have b2 : decide (hi < x) = true := decide_eq_true h2
      go_enter Tryz.func107, Tryz.ntmps107
      go_wp2_with fail
      go_ret
      exact ⟨rfl, Ext.refl _⟩
    · have b2 : decide (hi < x) = false := decide_eq_false h2
      go_enter Tryz.func107, Tryz.ntmps107
      go_wp2_with fail
      go_ret
      exact ⟨rfl, Ext.refl _⟩
theorem fromW_any (lo hi : Int) (a : Option Addr) (n cap : Nat) (l : List Int) (w : World) (hl : IntsAt .i64 w a n l) (hn : n ≤ 1000) :
    Calls Tryz.prog 77 #[.int .i64 lo, .int .i64 hi, .slice a n cap] w fun e w' => e = .returned (.bool (l.all fun x => inB x lo hi)) ∧ Ext w w' := by
  have hx1 : Ext w ((w.alloc (.cells #[.int .i64 lo] 3)).alloc (.cells #[.int .i64 hi] 3)) := ((Ext.refl _).alloc _).alloc _
  have hb1 := heap_alloc_new w (.cells #[.int .i64 lo] 3)
  have hb2 := heap_alloc_new (w.alloc (.cells #[.int .i64 lo] 3)) (.cells #[.int .i64 hi] 3)
  rw [show (w.alloc (.cells #[.int .i64 lo] 3)).heap.size = w.heap.size + 1 by simp] at hb2
  have hb1' := ((Ext.refl (w.alloc (.cells #[.int .i64 lo] 3))).alloc (.cells #[.int .i64 hi] 3)).heap hb1
  have c1 := ((Ext.refl _).box hb1').1 0
  have c2 := ((Ext.refl _).box hb2).1 0
  have hc := contains_int94 a n cap w.heap.size (w.heap.size + 1) l (fun x => !inB x lo hi) _ (hl.ext hx1) (by omega) (fun o _ W hW => fromFnW_any o lo hi _ _ W (hW.cell c1) (hW.cell c2))
  have Hc := Lib.hid hc
  have Hx1 := Lib.hid hx1
  clear hc hx1
  clear hl hb1 hb2 hb1' c1 c2
  go_enter Tryz.func77, Tryz.ntmps77
  go_wp2_with (go_at_call 53; refine Hc.out.mono ?_; rintro e w3 ⟨rfl, hx3⟩)
  go_ret
  exact ⟨ret_bool (any_not (fun x => inB x lo hi) l), Hx1.out.trans hx3⟩
theorem fromW1 {lo hi x : Int} {r : Bool} {w : World} {b : Nat} (hb : w.heap[b]? = some (.cells #[.int .i64 x] 3 (0, 0))) (hr : inB x lo hi = r) : Calls Tryz.prog 77 #[.int .i64 lo, .int .i64 hi, .slice (some ⟨b, 0, none⟩) 1 1] w fun e w' => e = .returned (.bool r) ∧ Ext w w' := by
  have := fromW_any lo hi (some ⟨b, 0, none⟩) 1 1 [x] w (ints_built (l := [x]) hb) (by omega)
  subst hr
  simpa using this
theorem fromW2 {lo hi x y : Int} {r : Bool} {w : World} {b : Nat} (hb : w.heap[b]? = some (.cells #[.int .i64 x, .int .i64 y] 3 (0, 0))) (hr : (inB x lo hi && inB y lo hi) = r) : Calls Tryz.prog 77 #[.int .i64 lo, .int .i64 hi, .slice (some ⟨b, 0, none⟩) 2 2] w fun e w' => e = .returned (.bool r) ∧ Ext w w' := by
  have := fromW_any lo hi (some ⟨b, 0, none⟩) 2 2 [x, y] w (ints_built (l := [x, y]) hb) (by omega)
  subst hr
  simpa using this
theorem ordFnW_any (s : Span) (lo hi : Int) (c d : Nat) (w : World) (hc : w.cell? ⟨c, 0, none⟩ = some (.int .i64 lo)) (hd : w.cell? ⟨d, 0, none⟩ = some (.int .i64 hi)) :
    Calls Tryz.prog 137 #[s.val, .pointer (some ⟨c, 0, none⟩), .pointer (some ⟨d, 0, none⟩)] w fun e w' => e = .returned (.bool (!spanOk s lo hi)) ∧ Ext w w' := by
  obtain ⟨a, b⟩ := s
  rw [spanOk_not]
  unfold Span.val
  simp only
  have hcb : c < w.heap.size := block_lt_of_cell hc
  have hdb : d < w.heap.size := block_lt_of_cell hd
  by_cases h1 : b < a
  · have b1 : decide (b < a) = true := decide_eq_true h1
    go_enter Tryz.func137, Tryz.ntmps137
    go_wp2_with fail
    go_ret
    exact ⟨ret_bool (by rw [b1]; rfl), (Ext.refl _).alloc _⟩
  · have b1 : decide (b < a) = false := decide_eq_false h1
    obtain ⟨P, hP⟩ : ∃ P, (inB a lo hi && inB b lo hi) = P := ⟨_, rfl⟩
    rw [b1, hP]
    have HP := Lib.hid hP
    clear hP h1
    go_enter Tryz.func137, Tryz.ntmps137
    go_wp2_with (go_at_call 77; refine (fromW2 (alloc_at _ _ _ (by simp)) HP.out).mono ?_; rintro e w3 ⟨rfl, hx3⟩)
    go_ret
    exact ⟨rfl, (((Ext.refl _).alloc _).alloc _).trans hx3⟩
theorem ordW_any (lo hi : Int) (a : Option Addr) (n cap : Nat) (l : List Span) (w : World) (hl : SpansAt w a n l) (hn : n ≤ 1000) :
    Calls Tryz.prog 126 #[.int .i64 lo, .int .i64 hi, .slice a n cap] w fun e w' => e = .returned (.bool (l.all fun x => spanOk x lo hi)) ∧ Ext w w' := by
  have hx1 : Ext w ((w.alloc (.cells #[.int .i64 lo] 3)).alloc (.cells #[.int .i64 hi] 3)) := ((Ext.refl _).alloc _).alloc _
  have hb1 := heap_alloc_new w (.cells #[.int .i64 lo] 3)
  have hb2 := heap_alloc_new (w.alloc (.cells #[.int .i64 lo] 3)) (.cells #[.int .i64 hi] 3)
  rw [show (w.alloc (.cells #[.int .i64 lo] 3)).heap.size = w.heap.size + 1 by simp] at hb2
  have hb1' := ((Ext.refl (w.alloc (.cells #[.int .i64 lo] 3))).alloc (.cells #[.int .i64 hi] 3)).heap hb1
  have c1 := ((Ext.refl _).box hb1').1 0
  have c2 := ((Ext.refl _).box hb2).1 0
  have hc := contains_span133 a n cap w.heap.size (w.heap.size + 1) l (fun x => !spanOk x lo hi) _ (hl.ext hx1) (by omega) (fun o _ W hW => ordFnW_any o lo hi _ _ W (hW.cell c1) (hW.cell c2))
  have Hc := Lib.hid hc
  have Hx1 := Lib.hid hx1
  clear hc hx1
  clear hl hb1 hb2 hb1' c1 c2
  go_enter Tryz.func126, Tryz.ntmps126
  go_wp2_with (go_at_call 99; refine Hc.out.mono ?_; rintro e w3 ⟨rfl, hx3⟩)
  go_ret
  exact ⟨ret_bool (any_not (fun x => spanOk x lo hi) l), Hx1.out.trans hx3⟩
theorem ordW1 {lo hi x0 x1 : Int} {r : Bool} {w : World} {b : Nat} (hb : w.heap[b]? = some (.cells #[.int .i64 x0, .int .i64 x1] 23 (0, 0))) (hr : spanOk ⟨x0, x1⟩ lo hi = r) : Calls Tryz.prog 126 #[.int .i64 lo, .int .i64 hi, .slice (some ⟨b, 0, none⟩) 1 1] w fun e w' => e = .returned (.bool r) ∧ Ext w w' := by
  have := ordW_any lo hi (some ⟨b, 0, none⟩) 1 1 [⟨x0, x1⟩] w (spans_built (l := [⟨x0, x1⟩]) hb) (by omega)
  subst hr
  simpa using this
theorem ordW2 {lo hi x0 x1 y0 y1 : Int} {r : Bool} {w : World} {b : Nat} (hb : w.heap[b]? = some (.cells #[.int .i64 x0, .int .i64 x1, .int .i64 y0, .int .i64 y1] 23 (0, 0))) (hr : (spanOk ⟨x0, x1⟩ lo hi && spanOk ⟨y0, y1⟩ lo hi) = r) : Calls Tryz.prog 126 #[.int .i64 lo, .int .i64 hi, .slice (some ⟨b, 0, none⟩) 2 2] w fun e w' => e = .returned (.bool r) ∧ Ext w w' := by
  have := ordW_any lo hi (some ⟨b, 0, none⟩) 2 2 [⟨x0, x1⟩, ⟨y0, y1⟩] w (spans_built (l := [⟨x0, x1⟩, ⟨y0, y1⟩]) hb) (by omega)
  subst hr
  simpa using this


theorem fromFnC_any (x lo hi : Int) (c d : Nat) (w : World) (hc : w.cell? ⟨c, 0, none⟩ = some (.int .i64 lo)) (hd : w.cell? ⟨d, 0, none⟩ = some (.int .i64 hi)) :
    Calls Tryz.prog 123 #[.int .i64 x, .pointer (some ⟨c, 0, none⟩), .pointer (some ⟨d, 0, none⟩)] w fun e w' => e = .returned (.bool (!inB x lo hi)) ∧ Ext w w' := by
  rw [inB_not]
  by_cases h1 : x < lo
  · have b1 : decide (x < lo) = true := decide_eq_true h1
    go_enter Tryz.func123, Tryz.ntmps123
    go_wp2_with fail
    go_ret
    exact ⟨ret_bool (by rw [b1]; rfl), Ext.refl _⟩
  · have b1 : decide (x < lo) = false := decide_eq_false h1
    by_cases h2 : hi < x
    · have b2 : decide (hi < x) = true := decide_eq_true h2
      go_enter Tryz.func123, Tryz.ntmps123
      go_wp2_with fail
      go_ret
      exact ⟨rfl, Ext.refl _⟩
    · have b2 : decide (hi < x) = false := decide_eq_false h2
      go_enter Tryz.func123, Tryz.ntmps123
      go_wp2_with fail
      go_ret
      exact ⟨rfl, Ext.refl _⟩
theorem fromC_any (lo hi : Int) (a : Option Addr) (n cap : Nat) (l : List Int) (w : World) (hl : IntsAt .i64 w a n l) (hn : n ≤ 1000) :
    Calls Tryz.prog 98 #[.int .i64 lo, .int .i64 hi, .slice a n cap] w fun e w' => e = .returned (.bool (l.all fun x => inB x lo hi)) ∧ Ext w w' := by
  have hx1 : Ext w ((w.alloc (.cells #[.int .i64 lo] 3)).alloc (.cells #[.int .i64 hi] 3)) := ((Ext.refl _).alloc _).alloc _
  have hb1 := heap_alloc_new w (.cells #[.int .i64 lo] 3)
  have hb2 := heap_alloc_new (w.alloc (.cells #[.int .i64 lo] 3)) (.cells #[.int .i64 hi] 3)
  rw [show (w.alloc (.cells #[.int .i64 lo] 3)).heap.size = w.heap.size + 1 by simp] at hb2
  have hb1' := ((Ext.refl (w.alloc (.cells #[.int .i64 lo] 3))).alloc (.cells #[.int .i64 hi] 3)).heap hb1
  have c1 := ((Ext.refl _).box hb1').1 0
  have c2 := ((Ext.refl _).box hb2).1 0
  have hc := contains_int111 a n cap w.heap.size (w.heap.size + 1) l (fun x => !inB x lo hi) _ (hl.ext hx1) (by omega) (fun o _ W hW => fromFnC_any o lo hi _ _ W (hW.cell c1) (hW.cell c2))
  have Hc := Lib.hid hc
  have Hx1 := Lib.hid hx1
  clear hc hx1
  clear hl hb1 hb2 hb1' c1 c2
  go_enter Tryz.func98, Tryz.ntmps98
  go_wp2_with (go_at_call 53; refine Hc.out.mono ?_; rintro e w3 ⟨rfl, hx3⟩)
  go_ret
  exact ⟨ret_bool (any_not (fun x => inB x lo hi) l), Hx1.out.trans hx3⟩
theorem fromC1 {lo hi x : Int} {r : Bool} {w : World} {b : Nat} (hb : w.heap[b]? = some (.cells #[.int .i64 x] 3 (0, 0))) (hr : inB x lo hi = r) : Calls Tryz.prog 98 #[.int .i64 lo, .int .i64 hi, .slice (some ⟨b, 0, none⟩) 1 1] w fun e w' => e = .returned (.bool r) ∧ Ext w w' := by
  have := fromC_any lo hi (some ⟨b, 0, none⟩) 1 1 [x] w (ints_built (l := [x]) hb) (by omega)
  subst hr
  simpa using this
theorem fromC2 {lo hi x y : Int} {r : Bool} {w : World} {b : Nat} (hb : w.heap[b]? = some (.cells #[.int .i64 x, .int .i64 y] 3 (0, 0))) (hr : (inB x lo hi && inB y lo hi) = r) : Calls Tryz.prog 98 #[.int .i64 lo, .int .i64 hi, .slice (some ⟨b, 0, none⟩) 2 2] w fun e w' => e = .returned (.bool r) ∧ Ext w w' := by
  have := fromC_any lo hi (some ⟨b, 0, none⟩) 2 2 [x, y] w (ints_built (l := [x, y]) hb) (by omega)
  subst hr
  simpa using this
theorem ordFnC_any (s : Span) (lo hi : Int) (c d : Nat) (w : World) (hc : w.cell? ⟨c, 0, none⟩ = some (.int .i64 lo)) (hd : w.cell? ⟨d, 0, none⟩ = some (.int .i64 hi)) :
    Calls Tryz.prog 100 #[s.val, .pointer (some ⟨c, 0, none⟩), .pointer (some ⟨d, 0, none⟩)] w fun e w' => e = .returned (.bool (!spanOk s lo hi)) ∧ Ext w w' := by
  obtain ⟨a, b⟩ := s
  rw [spanOk_not]
  unfold Span.val
  simp only
  have hcb : c < w.heap.size := block_lt_of_cell hc
  have hdb : d < w.heap.size := block_lt_of_cell hd
  by_cases h1 : b < a
  · have b1 : decide (b < a) = true := decide_eq_true h1
    go_enter Tryz.func100, Tryz.ntmps100
    go_wp2_with fail
    go_ret
    exact ⟨ret_bool (by rw [b1]; rfl), (Ext.refl _).alloc _⟩
  · have b1 : decide (b < a) = false := decide_eq_false h1
    obtain ⟨P, hP⟩ : ∃ P, (inB a lo hi && inB b lo hi) = P := ⟨_, rfl⟩
    rw [b1, hP]
    have HP := Lib.hid hP
    clear hP h1
    go_enter Tryz.func100, Tryz.ntmps100
    go_wp2_with (go_at_call 98; refine (fromC2 (alloc_at _ _ _ (by simp)) HP.out).mono ?_; rintro e w3 ⟨rfl, hx3⟩)
    go_ret
    exact ⟨rfl, (((Ext.refl _).alloc _).alloc _).trans hx3⟩
theorem ordC_any (lo hi : Int) (a : Option Addr) (n cap : Nat) (l : List Span) (w : World) (hl : SpansAt w a n l) (hn : n ≤ 1000) :
    Calls Tryz.prog 68 #[.int .i64 lo, .int .i64 hi, .slice a n cap] w fun e w' => e = .returned (.bool (l.all fun x => spanOk x lo hi)) ∧ Ext w w' := by
  have hx1 : Ext w ((w.alloc (.cells #[.int .i64 lo] 3)).alloc (.cells #[.int .i64 hi] 3)) := ((Ext.refl _).alloc _).alloc _
  have hb1 := heap_alloc_new w (.cells #[.int .i64 lo] 3)
  have hb2 := heap_alloc_new (w.alloc (.cells #[.int .i64 lo] 3)) (.cells #[.int .i64 hi] 3)
  rw [show (w.alloc (.cells #[.int .i64 lo] 3)).heap.size = w.heap.size + 1 by simp] at hb2
  have hb1' := ((Ext.refl (w.alloc (.cells #[.int .i64 lo] 3))).alloc (.cells #[.int .i64 hi] 3)).heap hb1
  have c1 := ((Ext.refl _).box hb1').1 0
  have c2 := ((Ext.refl _).box hb2).1 0
  have hc := contains_span113 a n cap w.heap.size (w.heap.size + 1) l (fun x => !spanOk x lo hi) _ (hl.ext hx1) (by omega) (fun o _ W hW => ordFnC_any o lo hi _ _ W (hW.cell c1) (hW.cell c2))
  have Hc := Lib.hid hc
  have Hx1 := Lib.hid hx1
  clear hc hx1
  clear hl hb1 hb2 hb1' c1 c2
  go_enter Tryz.func68, Tryz.ntmps68
  go_wp2_with (go_at_call 99; refine Hc.out.mono ?_; rintro e w3 ⟨rfl, hx3⟩)
  go_ret
  exact ⟨ret_bool (any_not (fun x => spanOk x lo hi) l), Hx1.out.trans hx3⟩
theorem ordC1 {lo hi x0 x1 : Int} {r : Bool} {w : World} {b : Nat} (hb : w.heap[b]? = some (.cells #[.int .i64 x0, .int .i64 x1] 23 (0, 0))) (hr : spanOk ⟨x0, x1⟩ lo hi = r) : Calls Tryz.prog 68 #[.int .i64 lo, .int .i64 hi, .slice (some ⟨b, 0, none⟩) 1 1] w fun e w' => e = .returned (.bool r) ∧ Ext w w' := by
  have := ordC_any lo hi (some ⟨b, 0, none⟩) 1 1 [⟨x0, x1⟩] w (spans_built (l := [⟨x0, x1⟩]) hb) (by omega)
  subst hr
  simpa using this
theorem ordC2 {lo hi x0 x1 y0 y1 : Int} {r : Bool} {w : World} {b : Nat} (hb : w.heap[b]? = some (.cells #[.int .i64 x0, .int .i64 x1, .int .i64 y0, .int .i64 y1] 23 (0, 0))) (hr : (spanOk ⟨x0, x1⟩ lo hi && spanOk ⟨y0, y1⟩ lo hi) = r) : Calls Tryz.prog 68 #[.int .i64 lo, .int .i64 hi, .slice (some ⟨b, 0, none⟩) 2 2] w fun e w' => e = .returned (.bool r) ∧ Ext w w' := by
  have := ordC_any lo hi (some ⟨b, 0, none⟩) 2 2 [⟨x0, x1⟩, ⟨y0, y1⟩] w (spans_built (l := [⟨x0, x1⟩, ⟨y0, y1⟩]) hb) (by omega)
  subst hr
  simpa using this

end Go.Proofs.YtcoelhpmkhimpaaGreatDoor
