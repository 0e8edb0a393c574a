/- Start, asked and Near, of the guide and of the reference. -/
import Derived.Test.YtacdndehlkaaeaaVRefFlo
import Derived.Test.YtacdndehlkaaeaaVRefBnd
namespace Go.Proofs.Ytacdndehlkaaeaa
open Go.RowKit
set_option linter.unusedVariables false
set_option linter.unusedSimpArgs false
/-- an area, in memory of its own, and an error -/
def AreaOwn (r : List Half × Int) (w : World) (e : Ending) (w' : World) : Prop := ∃ v, e = .returned (.tuple #[.agg #[v], .int .i64 r.2]) ∧ Ext w w' ∧ Owns w' w.heap.size 47 3 v (halfRows r.1)
theorem areaown_none {w : World} (k : Int) (w' : World) (hx : Ext w w') : AreaOwn ([], k) w (.returned (.tuple #[.agg #[.slice none 0 0], .int .i64 k])) w' := ⟨_, rfl, hx, Owns.nil _ _ _ _⟩
theorem owns_block {w : World} {B b : Nat} {l : List Half} {n : Nat} (hn : l.length = n) (hb : w.heap[b]? = some (.cells (halfRows l).flatten.toArray 47 (0, 0))) (hB : B ≤ b) (hl : n ≤ maxLen) : Owns w B 47 3 (.slice (some ⟨b, 0, none⟩) n n) (halfRows l) := by
  obtain rfl : n = (halfRows l).length := by rw [halfRows_len, hn]
  have e : (halfRows l).flatten.length = (halfRows l).length * 3 := flatten_length (fun r hr => (halfRows_row l r hr).1)
  refine ⟨⟨e, .inr ⟨b, _, _, rfl, hB, hb, Nat.le_refl _, hl, by simp only [List.size_toArray]; exact e, ?_⟩⟩, fun r hr => (halfRows_row l r hr).1⟩
  rw [List.take_of_length_le (by simp only; omega)]
/-- the result of a call, put into the variable of the first result -/
theorem areaown_set {r : List Half × Int} {w W : World} {b g : Nat} {l : List Half} {n : Nat} (hr : r = (l, 0)) (hn : l.length = n) (hb : W.heap[b]? = some (.cells (halfRows l).flatten.toArray 47 (0, 0))) (hB : w.heap.size ≤ b) (hl : n ≤ maxLen) (hx : Ext w W) (hg : w.heap.size ≤ g) (hgb : g < b) (u : Value) :
    AreaOwn r w (.returned (.tuple #[.agg #[.slice (some ⟨b, 0, none⟩) n n], .int .i64 0])) (W.setCell ⟨g, 0, none⟩ u) := by
  subst hr
  exact ⟨_, rfl, hx.setCell (p := ⟨g, 0, none⟩) hg _, (owns_set (owns_block hn hb (Nat.le_refl b) hl) hgb).mono hB⟩
set_option maxRecDepth 100000 in
theorem start_any (e n : Span) (w : World) : Calls Try.prog 22 #[e.val, n.val] w (AreaOwn (startOf e n) w) := by
  have hor := fun W k hb => ordered2 (-10000000) 10000000 e n W k hb
  have hbo : (spanOk e (-10000000) 10000000 && spanOk n (-10000000) 10000000) = true → ∀ W, Calls Try.prog 58 #[e.val, n.val] W (NewHalves (box e n) W) := fun h W => by
    simp only [spanOk, Bool.and_eq_true, decide_eq_true_eq] at h
    exact box_any e n W ⟨by omega, by omega⟩ ⟨by omega, by omega⟩ ⟨by omega, by omega⟩ ⟨by omega, by omega⟩
  have hst : startOf e n = if spanOk e (-10000000) 10000000 && spanOk n (-10000000) 10000000 then (box e n, 0) else ([], 2) := rfl
  have hbl : (box e n).length = 4 := rfl
  generalize box e n = B at *
  obtain ⟨e0, e1⟩ := e
  obtain ⟨n0, n1⟩ := n
  unfold Span.val at *
  simp only at hor hbo ⊢
  obtain ⟨W0, hW0⟩ : ∃ W0, ((w.alloc (.cells #[.int .i64 e0, .int .i64 e1] 28)).alloc (.cells #[.int .i64 n0, .int .i64 n1] 28)).alloc (.cells #[.slice none 0 0] 24) = W0 := ⟨_, rfl⟩
  have hx0 : Ext w W0 := by rw [← hW0]; exact (((Ext.refl w).alloc _).alloc _).alloc _
  have ha0 : W0.heap[w.heap.size]? = some (.cells #[.int .i64 e0, .int .i64 e1] 28 (0, 0)) := by rw [← hW0]; exact (((Ext.refl _).alloc _).alloc _).heap (heap_alloc_new w _)
  have hs0 : W0.heap[w.heap.size + 1]? = some (.cells #[.int .i64 n0, .int .i64 n1] 28 (0, 0)) := by rw [← hW0]; exact ((Ext.refl _).alloc _).heap (alloc_at _ _ _ (by simp))
  have hr0 : W0.heap[w.heap.size + 1 + 1]? = some (.cells #[.slice none 0 0] 24 (0, 0)) := by rw [← hW0]; exact alloc_at _ _ _ (by simp)
  obtain ⟨z0, _⟩ := (Ext.refl W0).box ha0
  obtain ⟨y0, _⟩ := (Ext.refl W0).box hs0
  have hl0 := heap_lt ha0
  have hl1 := heap_lt hs0
  have hl2 := heap_lt hr0
  have hsz := hx0.size
  have hnew := fun (W : World) (o : Obj) (b : Nat) (hb : b = W.heap.size) => show (W.alloc o).heap[b]? = some o from by rw [hb]; exact heap_alloc_new W o
  cases h : (spanOk ⟨e0, e1⟩ (-10000000) 10000000 && spanOk ⟨n0, n1⟩ (-10000000) 10000000) with
  | false =>
    rw [h] at hor
    rw [hst, if_neg (by rw [h]; simp)]
    have Hor := Lib.hid hor
    have Hx0 := Lib.hid hx0
    have Ha0 := Lib.hid ha0
    have Hs0 := Lib.hid hs0
    have Hr0 := Lib.hid hr0
    have Hnew := Lib.hid hnew
    clear hor hx0 ha0 hs0 hr0 hnew
    clear hbo hst h
    go_enter Try.func22, Try.ntmps22
    go_wp2_with (go_at_call 57; refine (Hor.out _ _ (Hnew.out _ _ _ rfl)).mono ?_; rintro e w1 ⟨rfl, hx1⟩; have hx01 := ((Ext.refl W0).alloc _).trans hx1; have hr1 := hx01.heap Hr0.out; obtain ⟨q1, r1⟩ := (Ext.refl w1).box hr1; have hlr := heap_lt hr1; clear z0 y0)
    refine bodyPost_ret (results_cell_tmp (P := Try.prog) (fn := Try.f22) rfl _ _ (w.heap.size + 1 + 1) 24 #[.slice none 0 0] (0, 0) _ rfl (by simp only [heap_setCell_box, hr1, Option.map_some, setIn_cells, List.setIfInBounds_toArray, List.set_cons_zero, List.set_cons_succ]) Try.underlying24 rfl (by kernel_rfl)) rfl ?_
    exact areaown_none _ _ ((Hx0.out.trans hx01).setCell (p := ⟨w.heap.size + 1 + 1, 0, none⟩) (by simp only; omega) _)
  | true =>
    rw [h] at hor
    rw [hst, if_pos h]
    replace hbo := hbo h
    unfold NewHalves at hbo
    rw [hbl] at hbo
    have Hor := Lib.hid hor
    have Hx0 := Lib.hid hx0
    have Ha0 := Lib.hid ha0
    have Hs0 := Lib.hid hs0
    have Hr0 := Lib.hid hr0
    have Hnew := Lib.hid hnew
    have Hbo := Lib.hid hbo
    have Hbl := Lib.hid hbl
    clear hor hx0 ha0 hs0 hr0 hnew hbo hbl
    clear hst h
    go_enter Try.func22, Try.ntmps22
    go_wp2_with (first | (go_at_call 57; refine (Hor.out _ _ (Hnew.out _ _ _ rfl)).mono ?_; rintro e w1 ⟨rfl, hx1⟩; have hx01 := ((Ext.refl W0).alloc _).trans hx1; obtain ⟨z1, _⟩ := hx01.box Ha0.out; obtain ⟨y1, _⟩ := hx01.box Hs0.out; clear z0 y0) | (go_at_call 58; refine (Hbo.out _).mono ?_; rintro e w2 ⟨bb, rfl, hbb, hx2, hbh⟩; have hx02 := hx01.trans hx2; have hr2 := hx02.heap Hr0.out; obtain ⟨q1, r1⟩ := (Ext.refl w2).box hr2; have hlr := heap_lt hr2; have hs01 := hx01.size; clear z1 y1))
    refine bodyPost_ret (results_cell_tmp (P := Try.prog) (fn := Try.f22) rfl _ _ (w.heap.size + 1 + 1) 24 #[.slice (some ⟨bb, 0, none⟩) 4 4] (0, 0) _ rfl (by simp only [heap_setCell_box, hr2, Option.map_some, setIn_cells, List.setIfInBounds_toArray, List.set_cons_zero, List.set_cons_succ]) Try.underlying24 rfl (by kernel_rfl)) rfl ?_
    exact areaown_set rfl Hbl.out hbh (by omega) (by decide) (Hx0.out.trans hx02) (by omega) (by omega) _
set_option maxRecDepth 100000 in
theorem rstart_any (e n : Span) (w : World) : Calls Try.prog 23 #[e.val, n.val] w (AreaOwn (startOf e n) w) := by
  have hs1 := fun W => spanned_any e (-10000000) 10000000 W
  have hs2 := fun W => spanned_any n (-10000000) 10000000 W
  have hst : startOf e n = if spanOk e (-10000000) 10000000 && spanOk n (-10000000) 10000000 then (box e n, 0) else ([], 2) := rfl
  have hbx : box e n = [⟨1, 0, e.hi⟩, ⟨-1, 0, -e.lo⟩, ⟨0, 1, n.hi⟩, ⟨0, -1, -n.lo⟩] := rfl
  obtain ⟨e0, e1⟩ := e
  obtain ⟨n0, n1⟩ := n
  unfold Span.val at *
  simp only at hs1 hs2 hbx ⊢
  obtain ⟨W0, hW0⟩ : ∃ W0, ((w.alloc (.cells #[.int .i64 e0, .int .i64 e1] 28)).alloc (.cells #[.int .i64 n0, .int .i64 n1] 28)).alloc (.cells #[.slice none 0 0] 24) = W0 := ⟨_, rfl⟩
  have hx0 : Ext w W0 := by rw [← hW0]; exact (((Ext.refl w).alloc _).alloc _).alloc _
  have ha0 : W0.heap[w.heap.size]? = some (.cells #[.int .i64 e0, .int .i64 e1] 28 (0, 0)) := by rw [← hW0]; exact (((Ext.refl _).alloc _).alloc _).heap (heap_alloc_new w _)
  have hs0 : W0.heap[w.heap.size + 1]? = some (.cells #[.int .i64 n0, .int .i64 n1] 28 (0, 0)) := by rw [← hW0]; exact ((Ext.refl _).alloc _).heap (alloc_at _ _ _ (by simp))
  have hr0 : W0.heap[w.heap.size + 1 + 1]? = some (.cells #[.slice none 0 0] 24 (0, 0)) := by rw [← hW0]; exact alloc_at _ _ _ (by simp)
  obtain ⟨z0, _⟩ := (Ext.refl W0).box ha0
  obtain ⟨y0, _⟩ := (Ext.refl W0).box hs0
  have hl0 := heap_lt ha0
  have hl1 := heap_lt hs0
  have hl2 := heap_lt hr0
  have hsz := hx0.size
  cases h1 : spanOk ⟨e0, e1⟩ (-10000000) 10000000 with
  | false =>
    rw [h1] at hs1
    rw [hst, if_neg (by rw [h1]; simp)]
    have Hs1 := Lib.hid hs1
    have Hx0 := Lib.hid hx0
    have Ha0 := Lib.hid ha0
    have Hs0 := Lib.hid hs0
    have Hr0 := Lib.hid hr0
    clear hs1 hx0 ha0 hs0 hr0
    clear hst h1 hs2
    go_enter Try.func23, Try.ntmps23
    go_wp2_with (go_at_call 59; refine (Hs1.out _).mono ?_; rintro e w1 ⟨rfl, hx1⟩; have hr1 := hx1.heap Hr0.out; obtain ⟨q1, r1⟩ := (Ext.refl w1).box hr1; have hlr := heap_lt hr1; clear z0 y0)
    refine bodyPost_ret (results_cell_tmp (P := Try.prog) (fn := Try.f23) rfl _ _ (w.heap.size + 1 + 1) 24 #[.slice none 0 0] (0, 0) _ rfl (by simp only [heap_setCell_box, hr1, Option.map_some, setIn_cells, List.setIfInBounds_toArray, List.set_cons_zero, List.set_cons_succ]) Try.underlying24 rfl (by kernel_rfl)) rfl ?_
    exact areaown_none _ _ ((Hx0.out.trans hx1).setCell (p := ⟨w.heap.size + 1 + 1, 0, none⟩) (by simp only; omega) _)
  | true =>
    rw [h1] at hs1
    cases h2 : spanOk ⟨n0, n1⟩ (-10000000) 10000000 with
    | false =>
      rw [h2] at hs2
      rw [hst, if_neg (by rw [h2]; simp)]
      have Hs1 := Lib.hid hs1
      have Hs2 := Lib.hid hs2
      have Hx0 := Lib.hid hx0
      have Ha0 := Lib.hid ha0
      have Hs0 := Lib.hid hs0
      have Hr0 := Lib.hid hr0
      clear hs1 hs2 hx0 ha0 hs0 hr0
      clear hst h1 h2
      go_enter Try.func23, Try.ntmps23
      go_wp2_with (first | (go_at_call 59; refine (Hs1.out _).mono ?_; rintro e w1 ⟨rfl, hx1⟩; obtain ⟨y1, _⟩ := hx1.box Hs0.out; have hl11 := heap_lt (hx1.heap Hs0.out); clear z0 y0 Hs1) | (go_at_call 59; refine (Hs2.out _).mono ?_; rintro e w2 ⟨rfl, hx2⟩; have hr1 := (hx1.trans hx2).heap Hr0.out; obtain ⟨q1, r1⟩ := (Ext.refl w2).box hr1; have hlr := heap_lt hr1; clear y1))
      refine bodyPost_ret (results_cell_tmp (P := Try.prog) (fn := Try.f23) rfl _ _ (w.heap.size + 1 + 1) 24 #[.slice none 0 0] (0, 0) _ rfl (by simp only [heap_setCell_box, hr1, Option.map_some, setIn_cells, List.setIfInBounds_toArray, List.set_cons_zero, List.set_cons_succ]) Try.underlying24 rfl (by kernel_rfl)) rfl ?_
      exact areaown_none _ _ ((Hx0.out.trans (hx1.trans hx2)).setCell (p := ⟨w.heap.size + 1 + 1, 0, none⟩) (by simp only; omega) _)
    | true =>
      rw [h2] at hs2
      have hr : startOf ⟨e0, e1⟩ ⟨n0, n1⟩ = ([⟨1, 0, e1⟩, ⟨-1, 0, -e0⟩, ⟨0, 1, n1⟩, ⟨0, -1, -n0⟩], 0) := by rw [hst, if_pos (by rw [h1, h2]; rfl), hbx]
      simp only [spanOk, Bool.and_eq_true, decide_eq_true_eq] at h1 h2
      have Hs1 := Lib.hid hs1
      have Hs2 := Lib.hid hs2
      have Hx0 := Lib.hid hx0
      have Ha0 := Lib.hid ha0
      have Hs0 := Lib.hid hs0
      have Hr0 := Lib.hid hr0
      have Hr := Lib.hid hr
      clear hs1 hs2 hx0 ha0 hs0 hr0 hr
      clear hst hbx
      go_enter Try.func23, Try.ntmps23
      go_wp2_with (first | (go_at_call 59; refine (Hs1.out _).mono ?_; rintro e w1 ⟨rfl, hx1⟩; obtain ⟨y1, _⟩ := hx1.box Hs0.out; have hl11 := heap_lt (hx1.heap Hs0.out); clear z0 y0 Hs1) | (go_at_call 59; refine (Hs2.out _).mono ?_; rintro e w2 ⟨rfl, hx2⟩; have hx12 := hx1.trans hx2; have hr1 := hx12.heap Hr0.out; obtain ⟨q1, r1⟩ := (Ext.refl w2).box hr1; have hlr := heap_lt hr1; obtain ⟨y2, _⟩ := (Ext.refl w2).box (hx12.heap Hs0.out); obtain ⟨z2, _⟩ := (Ext.refl w2).box (hx12.heap Ha0.out); have hl12 := heap_lt (hx12.heap Hs0.out); have hl02 := heap_lt (hx12.heap Ha0.out); have hsz2 := hx12.size; clear y1))
      have hr2 := ((Ext.refl (w2.setCell ⟨w.heap.size + 1 + 1, 0, none⟩ (.slice (some ⟨w2.heap.size, 0, none⟩) 4 4))).alloc (.cells #[.int .i64 1, .int .i64 0, .int .i64 e1, .int .i64 (-1), .int .i64 0, .int .i64 (-e0), .int .i64 0, .int .i64 1, .int .i64 n1, .int .i64 0, .int .i64 (-1), .int .i64 (-n0)] 47)).heap (b := w.heap.size + 1 + 1) (o := .cells #[.slice (some ⟨w2.heap.size, 0, none⟩) 4 4] 24 (0, 0)) (by simp only [heap_setCell_box, hr1, Option.map_some, setIn_cells, List.setIfInBounds_toArray, List.set_cons_zero, List.set_cons_succ])
      refine bodyPost_ret (results_cell_tmp (P := Try.prog) (fn := Try.f23) rfl _ _ (w.heap.size + 1 + 1) 24 #[.slice (some ⟨w2.heap.size, 0, none⟩) 4 4] (0, 0) _ rfl hr2 Try.underlying24 rfl (by kernel_rfl)) rfl ?_
      rw [Hr.out]
      exact ⟨_, rfl, ((Hx0.out.trans hx12).setCell (p := ⟨w.heap.size + 1 + 1, 0, none⟩) (by simp only; omega) _).alloc _, owns_block (show [_, _, _, _].length = 4 from rfl) (alloc_at (w2.setCell ⟨w.heap.size + 1 + 1, 0, none⟩ (.slice (some ⟨w2.heap.size, 0, none⟩) 4 4)) _ _ (by simp)) (by omega) (by decide)⟩
end Go.Proofs.Ytacdndehlkaaeaa
