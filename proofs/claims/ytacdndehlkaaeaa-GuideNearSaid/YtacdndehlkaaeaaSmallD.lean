/- Contracts: boxes, products of spans, spans in order, a landmark's place. -/
import Derived.Test.YtacdndehlkaaeaaSmallC
namespace Go.Proofs.Ytacdndehlkaaeaa
open Go.RowKit
set_option linter.unusedVariables false
set_option linter.unusedSimpArgs false

theorem flat_get {sz : Nat} : ∀ (rows : List (List Value)), (∀ r ∈ rows, r.length = sz) → ∀ (k j : Nat), j < sz → rows.flatten[k * sz + j]? = (rows[k]?.bind fun r => r[j]?)
  | [], _, k, j, _ => by simp
  | r :: rows, h, 0, j, hj => by
    have hr := h r (List.mem_cons_self ..)
    simp only [List.flatten_cons, Nat.zero_mul, Nat.zero_add, List.getElem?_cons_zero, Option.bind_some]
    rw [List.getElem?_append_left (by omega)]
  | r :: rows, h, k + 1, j, hj => by
    have hr := h r (List.mem_cons_self ..)
    have ih := flat_get rows (fun r hr => h r (List.mem_cons_of_mem _ hr)) k j hj
    simp only [List.flatten_cons, List.getElem?_cons_succ]
    rw [List.getElem?_append_right (by rw [hr, Nat.succ_mul]; omega), hr, show (k + 1) * sz + j - sz = k * sz + j by rw [Nat.succ_mul]; omega]
    exact ih
theorem slAt_block {w : World} {b : Nat} {t : TypeId} {sz : Nat} {rows : List (List Value)} (hb : w.heap[b]? = some (.cells rows.flatten.toArray t (0, 0))) (hr : ∀ r ∈ rows, r.length = sz) : SlAt w sz (some ⟨b, 0, none⟩) rows.length (fun i => rows.getD i []) := by
  intro _
  refine ⟨b, 0, rfl, fun k hk j v hv => ?_⟩
  have hrow : (rows.getD k []).length = sz := by
    simp only [List.getD, List.getElem?_eq_getElem hk, Option.getD_some]
    exact hr _ (List.getElem_mem hk)
  have hj : j < sz := by
    rw [← hrow]
    exact (List.getElem?_eq_some_iff.1 hv).1
  rw [((Ext.refl w).box hb).1, Nat.zero_add, List.getElem?_toArray, flat_get rows hr k j hj]
  simp only [List.getD, List.getElem?_eq_getElem hk, Option.getD_some, Option.bind_some] at hv ⊢
  exact hv

def halfRows (l : List Half) : List (List Value) := l.map Half.cells
theorem halfRows_row (l : List Half) : ∀ r ∈ halfRows l, r.length = 3 ∧ ∀ u ∈ r, u.oneCell' = true := by
  intro r hr
  obtain ⟨x, _, rfl⟩ := List.mem_map.1 hr
  exact ⟨rfl, fun u hu => by simp [Half.cells] at hu; rcases hu with rfl | rfl | rfl <;> rfl⟩
theorem halfRows_append (l m : List Half) : halfRows (l ++ m) = halfRows l ++ halfRows m := by simp [halfRows]
theorem halves_block {w : World} {b : Nat} (l : List Half) (hb : w.heap[b]? = some (.cells (halfRows l).flatten.toArray 47 (0, 0))) : HalvesAt w (some ⟨b, 0, none⟩) l.length l := by
  have := slAt_block hb (fun r hr => (halfRows_row _ r hr).1)
  rw [show (halfRows l).length = l.length by simp [halfRows]] at this
  exact ⟨rfl, this.congr fun i hi => by simp [halfRows, List.getD, List.getElem?_map, List.getElem?_eq_getElem hi]⟩
theorem HalvesAt.src {w : World} {a : Option Addr} {n : Nat} {l : List Half} (h : HalvesAt w a n l) : SlAt w 3 a n (fun i => (halfRows l).getD i []) :=
  h.2.congr fun i hi => by
    have : i < l.length := by rw [h.1]; exact hi
    simp [halfRows, List.getD, List.getElem?_map, List.getElem?_eq_getElem this]
theorem halves_of_owns {w : World} {B : Nat} {e : TypeId} {v : Value} {l : List Half} (h : Owns w B e 3 v (halfRows l)) : ∃ a c, v = .slice a l.length c ∧ From B a ∧ l.length ≤ c ∧ c ≤ maxLen ∧ HalvesAt w a l.length l := by
  obtain ⟨a, c, hv, h1, h2, h3, h4⟩ := h.slAt
  rw [show (halfRows l).length = l.length by simp [halfRows]] at hv h2 h4
  refine ⟨a, c, hv, h1, h2, h3, rfl, h4.congr fun i hi => ?_⟩
  simp [halfRows, List.getD, List.getElem?_map, List.getElem?_eq_getElem hi]
theorem alloc_at (W : World) (o : Obj) (b : Nat) (hb : b = W.heap.size) : (W.alloc o).heap[b]? = some o := by rw [hb]; exact heap_alloc_new W o
/-- halves in a block of their own -/
def NewHalves (l : List Half) (w : World) (e : Ending) (w' : World) : Prop := ∃ b, e = .returned (.slice (some ⟨b, 0, none⟩) l.length l.length) ∧ w.heap.size ≤ b ∧ Ext w w' ∧ w'.heap[b]? = some (.cells (halfRows l).flatten.toArray 47 (0, 0))
theorem NewHalves.at {l : List Half} {w w' : World} {e : Ending} (h : NewHalves l w e w') : ∃ b, e = .returned (.slice (some ⟨b, 0, none⟩) l.length l.length) ∧ w.heap.size ≤ b ∧ Ext w w' ∧ HalvesAt w' (some ⟨b, 0, none⟩) l.length l :=
  let ⟨b, h1, h2, h3, h4⟩ := h; ⟨b, h1, h2, h3, halves_block l h4⟩
def Small (n : Int) : Prop := -1000000000000 ≤ n ∧ n ≤ 1000000000000
set_option maxRecDepth 100000 in
theorem box_any (e n : Span) (w : World) (h0 : Small e.lo) (h1 : Small e.hi) (h2 : Small n.lo) (h3 : Small n.hi) : Calls Try.prog 58 #[e.val, n.val] w (NewHalves (box e n) w) := by
  obtain ⟨el, eh⟩ := e
  obtain ⟨nl, nh⟩ := n
  obtain ⟨a0, a1⟩ := h0
  obtain ⟨b0, b1⟩ := h1
  obtain ⟨c0, c1⟩ := h2
  obtain ⟨d0, d1⟩ := h3
  simp only at *
  unfold Span.val
  go_enter Try.func58, Try.ntmps58
  go_wp2_with fail
  go_ret
  refine ⟨_, rfl, ?_, ?_, alloc_at _ _ _ (by simp)⟩
  · first | omega | (simp; done) | (simp; omega)
  · repeat (first | exact Ext.refl _ | refine Ext.alloc ?_ _ | refine Ext.setCell ?_ (by first | (simp; done) | (simp; omega)) _ | refine Ext.drew ?_)
theorem times4 (a b c d : Int) : minL [a, b, c, d] = min (min a b) (min c d) ∧ maxL [a, b, c, d] = max (max a b) (max c d) := by
  simp only [minL, maxL, List.foldl_cons, List.foldl_nil]
  omega
set_option maxRecDepth 100000 in
theorem times_any (a b : Span) (w : World) (h0 : -1000000 ≤ a.lo ∧ a.lo ≤ 1000000) (h1 : -1000000 ≤ a.hi ∧ a.hi ≤ 1000000) (h2 : -1000000 ≤ b.lo ∧ b.lo ≤ 1000000) (h3 : -1000000 ≤ b.hi ∧ b.hi ≤ 1000000) :
    Calls Try.prog 91 #[a.val, b.val] w fun e w' => e = .returned (times a b).val ∧ Ext w w' := by
  obtain ⟨p, q⟩ := a
  obtain ⟨r, s⟩ := b
  simp only at *
  have m1 := mul_le (A := 1000000) (B := 1000000) h0.1 h0.2 h2.1 h2.2
  have m2 := mul_le (A := 1000000) (B := 1000000) h0.1 h0.2 h3.1 h3.2
  have m3 := mul_le (A := 1000000) (B := 1000000) h1.1 h1.2 h2.1 h2.2
  have m4 := mul_le (A := 1000000) (B := 1000000) h1.1 h1.2 h3.1 h3.2
  simp only [Int.reduceMul, Int.reduceNeg] at m1 m2 m3 m4
  have ht : times ⟨p, q⟩ ⟨r, s⟩ = ⟨min (min (p * r) (p * s)) (min (q * r) (q * s)), max (max (p * r) (p * s)) (max (q * r) (q * s))⟩ := rfl
  rw [ht]
  clear ht
  obtain ⟨P1, e1⟩ : ∃ P, p * r = P := ⟨_, rfl⟩
  obtain ⟨P2, e2⟩ : ∃ P, p * s = P := ⟨_, rfl⟩
  obtain ⟨P3, e3⟩ : ∃ P, q * r = P := ⟨_, rfl⟩
  obtain ⟨P4, e4⟩ : ∃ P, q * s = P := ⟨_, rfl⟩
  rw [e1] at m1 ⊢
  rw [e2] at m2 ⊢
  rw [e3] at m3 ⊢
  rw [e4] at m4 ⊢
  have hh := fun W k (hk : W.heap[k]? = some (.cells #[.int .i64 P1, .int .i64 P2, .int .i64 P3, .int .i64 P4] 3 (0, 0))) => hull_any (some ⟨k, 0, none⟩) 4 4 [P1, P2, P3, P4] W (ints_built (l := [P1, P2, P3, P4]) hk) (by omega) (by omega)
  rw [(times4 P1 P2 P3 P4).1, (times4 P1 P2 P3 P4).2] at hh
  generalize min (min P1 P2) (min P3 P4) = m at *
  generalize max (max P1 P2) (max P3 P4) = M at *
  have hnew := fun (W : World) (o : Obj) (b : Nat) (hb : b = W.heap.size) => show (W.alloc o).heap[b]? = some o from by rw [hb]; exact heap_alloc_new W o
  have hx3 : Ext w (((w.alloc (.cells #[.int .i64 p, .int .i64 q] 28)).alloc (.cells #[.int .i64 r, .int .i64 s] 28)).alloc (.cells #[.int .i64 0, .int .i64 0] 28)) := (((Ext.refl _).alloc _).alloc _).alloc _
  have hb3 : (((w.alloc (.cells #[.int .i64 p, .int .i64 q] 28)).alloc (.cells #[.int .i64 r, .int .i64 s] 28)).alloc (.cells #[.int .i64 0, .int .i64 0] 28)).heap[w.heap.size + 1 + 1]? = some (.cells #[.int .i64 0, .int .i64 0] 28 (0, 0)) := hnew _ _ _ (by simp)
  unfold Span.val at hh ⊢
  simp only at hh ⊢
  have Hh := Lib.hid hh
  have Hnew := Lib.hid hnew
  have Hx3 := Lib.hid hx3
  have Hb3 := Lib.hid hb3
  clear hh hnew hx3 hb3
  go_enter Try.func91, Try.ntmps91
  go_wp2_with (go_at_call 85; refine (Hh.out _ _ (Hnew.out _ _ _ (by simp))).mono ?_; rintro e w1 ⟨rfl, hx1⟩; have hb4 := ((Ext.refl _).alloc _ |>.trans hx1).heap Hb3.out; have hx4 := (Hx3.out.alloc _).trans hx1; obtain ⟨f0, f1⟩ := (Ext.refl _).box hb4)
  refine bodyPost_ret (results_cell_row rfl _ _ (w.heap.size + 1 + 1) 28 #[.int .i64 m, .int .i64 M] (0, 0) _ rfl (by simp only [heap_setCell_box, hb4, Option.map_some, setIn_cells, List.setIfInBounds_toArray, List.set_cons_zero, List.set_cons_succ]) Try.underlying28 rfl (by kernel_rfl)) rfl ?_
  refine ⟨rfl, ?_⟩
  exact (hx4.setCell (p := ⟨w.heap.size + 1 + 1, 0, none⟩) (by simp only; omega) _).setCell (p := ⟨w.heap.size + 1 + 1, 1, none⟩) (by simp only; omega) _
theorem orderedFn_any (s : Span) (lo hi : Int) (c d : Nat) (w : World) (hc : w.cell? ⟨c, 0, none⟩ = some (.int .i64 lo)) (hd : w.cell? ⟨d, 0, none⟩ = some (.int .i64 hi)) :
    Calls Try.prog 82 #[s.val, .pointer (some ⟨c, 0, none⟩), .pointer (some ⟨d, 0, none⟩)] w fun e w' => e = .returned (.bool (spanOk s lo hi)) ∧ Ext w w' := by
  obtain ⟨p, q⟩ := s
  have hcl : c < w.heap.size := block_lt_of_cell hc
  have hdl : d < w.heap.size := block_lt_of_cell hd
  have hs : spanOk ⟨p, q⟩ lo hi = (decide (p ≤ q) && (inB p lo hi && inB q lo hi)) := by
    unfold spanOk inB
    simp only
    rw [Bool.eq_iff_iff]
    simp only [Bool.and_eq_true, decide_eq_true_eq]
    omega
  rw [hs]
  clear hs
  unfold Span.val
  simp only
  by_cases h : p ≤ q
  · have hB : decide (p ≤ q) = true := decide_eq_true h
    have hf2 := fun W k hb => from2 lo hi p q W k hb
    rw [hB]
    generalize (inB p lo hi && inB q lo hi) = r at *
    have hx2 : Ext w ((w.alloc (.cells #[.int .i64 p, .int .i64 q] 28)).alloc (.cells #[.int .i64 p, .int .i64 q] 3)) := ((Ext.refl _).alloc _).alloc _
    have Hf2 := Lib.hid hf2
    have Hx2 := Lib.hid hx2
    clear hf2 hx2
    go_enter Try.func82, Try.ntmps82
    go_wp2_with (go_at_call 66; refine (Hf2.out _ _ (alloc_at _ _ _ (by simp))).mono ?_; rintro e w1 ⟨rfl, hx1⟩)
    go_ret
    exact ⟨rfl, Hx2.out.trans hx1⟩
  · have hB : decide (p ≤ q) = false := decide_eq_false h
    rw [hB]
    go_enter Try.func82, Try.ntmps82
    go_wp2_with fail
    go_ret
    exact ⟨rfl, (Ext.refl _).alloc _⟩
theorem ordered_any (lo hi : Int) (a : Option Addr) (n cap : Nat) (l : List Span) (w : World) (hl : SpansAt w a n l) (hn : n ≤ 1000) :
    Calls Try.prog 57 #[.int .i64 lo, .int .i64 hi, .slice a n cap] w fun e w' => e = .returned (.bool (l.all fun s => spanOk s lo hi)) ∧ Ext w w' := by
  have hx1 : Ext w ((w.alloc (.cells #[.int .i64 lo] 3)).alloc (.cells #[.int .i64 hi] 3)) := ((Ext.refl _).alloc _).alloc _
  have hb1 := heap_alloc_new w (.cells #[.int .i64 lo] 3)
  have hb2 := heap_alloc_new (w.alloc (.cells #[.int .i64 lo] 3)) (.cells #[.int .i64 hi] 3)
  rw [show (w.alloc (.cells #[.int .i64 lo] 3)).heap.size = w.heap.size + 1 by simp] at hb2
  have hb1' := ((Ext.refl (w.alloc (.cells #[.int .i64 lo] 3))).alloc (.cells #[.int .i64 hi] 3)).heap hb1
  have c1 := ((Ext.refl _).box hb1').1 0
  have c2 := ((Ext.refl _).box hb2).1 0
  have hc := every_span2 82 w.heap.size (w.heap.size + 1) (enters_of Try.func82 (by kernel_rfl) rfl) a n cap l (fun s => spanOk s lo hi) _ (hl.ext hx1) (by omega) (fun o _ W hW => orderedFn_any o lo hi _ _ W (hW.cell c1) (hW.cell c2))
  have Hc := Lib.hid hc
  have Hx1 := Lib.hid hx1
  clear hc hx1
  clear hl hb1 hb2 hb1' c1 c2
  go_enter Try.func57, Try.ntmps57
  go_wp2_with (go_at_call 81; refine Hc.out.mono ?_; rintro e w3 ⟨rfl, hx3⟩)
  go_ret
  exact ⟨rfl, Hx1.out.trans hx3⟩
/-- spans that have just been built into a slice -/
theorem spans_built {w : World} {b : Nat} {l : List Span} (hb : w.heap[b]? = some (.cells (l.map Span.cells).flatten.toArray 28 (0, 0))) : SpansAt w (some ⟨b, 0, none⟩) l.length l := by
  have := slAt_block hb (sz := 2) (fun r hr => by obtain ⟨x, _, rfl⟩ := List.mem_map.1 hr; rfl)
  rw [List.length_map] at this
  exact ⟨rfl, this.congr fun i hi => by simp [List.getD, List.getElem?_map, List.getElem?_eq_getElem hi]⟩
theorem ordered1 (lo hi : Int) (s : Span) (w : World) (b : Nat) (hb : w.heap[b]? = some (.cells #[.int .i64 s.lo, .int .i64 s.hi] 28 (0, 0))) : Calls Try.prog 57 #[.int .i64 lo, .int .i64 hi, .slice (some ⟨b, 0, none⟩) 1 1] w fun e w' => e = .returned (.bool (spanOk s lo hi)) ∧ Ext w w' := by
  have := ordered_any lo hi (some ⟨b, 0, none⟩) 1 1 [s] w (spans_built (l := [s]) hb) (by omega)
  simpa using this
theorem ordered2 (lo hi : Int) (s t : Span) (w : World) (b : Nat) (hb : w.heap[b]? = some (.cells #[.int .i64 s.lo, .int .i64 s.hi, .int .i64 t.lo, .int .i64 t.hi] 28 (0, 0))) : Calls Try.prog 57 #[.int .i64 lo, .int .i64 hi, .slice (some ⟨b, 0, none⟩) 2 2] w fun e w' => e = .returned (.bool (spanOk s lo hi && spanOk t lo hi)) ∧ Ext w w' := by
  have := ordered_any lo hi (some ⟨b, 0, none⟩) 2 2 [s, t] w (spans_built (l := [s, t]) hb) (by omega)
  simpa using this
end Go.Proofs.Ytacdndehlkaaeaa
