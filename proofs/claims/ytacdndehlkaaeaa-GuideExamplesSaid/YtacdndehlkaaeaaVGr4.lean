/- The small functions of the laws' examples. -/
import Derived.Test.YtacdndehlkaaeaaVStarts
import Derived.BigQuiet
namespace Go.Proofs.Ytacdndehlkaaeaa
open Go.RowKit
set_option linter.unusedVariables false
set_option linter.unusedSimpArgs false
/-- the laws' own field -/
def fieldL : List Half := box ⟨0, 10000⟩ ⟨0, 10000⟩
def exA : Sight := ⟨1, 12000, 0, 1, -1, 1, 0, 0, 0, 0⟩
def exB : Sight := ⟨1, 0, 20000, 0, 1, -1, 4, 0, 0, 0⟩
def exC : Sight := ⟨2, 0, 0, 0, 0, 0, 0, 9000, 30000, 0⟩
def exEast : Trek := ⟨⟨1, 1⟩, ⟨2000, 2000⟩, ⟨0, 0⟩⟩
set_option maxRecDepth 100000 in
theorem span_any (lo hi : Int) (w : World) : Calls Try.prog 38 #[.int .i64 lo, .int .i64 hi] w fun e w' => e = .returned (.agg #[.int .i64 lo, .int .i64 hi]) ∧ Ext w w' := by
  go_enter Try.func38, Try.ntmps38
  go_wp2_with fail
  refine bodyPost_ret (results_cell_row rfl _ _ w.heap.size 28 #[.int .i64 lo, .int .i64 hi] (0, 0) _ rfl (alloc_at _ _ _ (by simp)) Try.underlying28 rfl (by kernel_rfl)) rfl ?_
  exact ⟨rfl, (Ext.refl _).alloc _⟩
def FieldPost (w : World) (e : Ending) (w' : World) : Prop := ∃ b, e = .returned (.agg #[.slice (some ⟨b, 0, none⟩) 4 4]) ∧ w.heap.size ≤ b ∧ Ext w w' ∧ w'.heap[b]? = some (.cells (halfRows fieldL).flatten.toArray 47 (0, 0))
set_option maxRecDepth 100000 in
theorem field_any (w : World) : Calls Try.prog 35 #[] w (FieldPost w) := by
  obtain ⟨Q, hQ⟩ : ∃ Q, FieldPost w = Q := ⟨_, rfl⟩
  rw [hQ]
  go_enter Try.func35, Try.ntmps35
  go_wp2_with fail
  refine bodyPost_ret (results_cell_row rfl _ _ w.heap.size 24 #[.slice (some ⟨w.heap.size + 1, 0, none⟩) 4 4] (0, 0) _ rfl (((Ext.refl _).alloc _).heap (heap_alloc_new w _)) Try.underlying24 rfl (by kernel_rfl)) rfl ?_
  rw [← hQ]
  exact ⟨w.heap.size + 1, rfl, by omega, ((Ext.refl _).alloc _).alloc _, alloc_at _ _ _ (by simp)⟩
set_option maxRecDepth 100000 in
theorem exA_any (w : World) : Calls Try.prog 36 #[] w fun e w' => e = .returned (.agg #[.int .u8 1, .int .i64 12000, .int .i64 0, .int .i64 1, .int .i64 (-1), .int .i64 1, .int .i64 0, .int .i64 0, .int .i64 0, .int .i64 0]) ∧ Ext w w' := by
  go_enter Try.func36, Try.ntmps36
  go_wp2_with fail
  refine bodyPost_ret (results_cell_row rfl _ _ w.heap.size 30 #[.int .u8 1, .int .i64 12000, .int .i64 0, .int .i64 1, .int .i64 (-1), .int .i64 1, .int .i64 0, .int .i64 0, .int .i64 0, .int .i64 0] (0, 0) _ rfl (alloc_at _ _ _ (by simp)) Try.underlying30 rfl (by kernel_rfl)) rfl ?_
  exact ⟨rfl, (Ext.refl _).alloc _⟩
set_option maxRecDepth 100000 in
theorem exB_any (w : World) : Calls Try.prog 39 #[] w fun e w' => e = .returned (.agg #[.int .u8 1, .int .i64 0, .int .i64 20000, .int .i64 0, .int .i64 1, .int .i64 (-1), .int .i64 4, .int .i64 0, .int .i64 0, .int .i64 0]) ∧ Ext w w' := by
  go_enter Try.func39, Try.ntmps39
  go_wp2_with fail
  refine bodyPost_ret (results_cell_row rfl _ _ w.heap.size 30 #[.int .u8 1, .int .i64 0, .int .i64 20000, .int .i64 0, .int .i64 1, .int .i64 (-1), .int .i64 4, .int .i64 0, .int .i64 0, .int .i64 0] (0, 0) _ rfl (alloc_at _ _ _ (by simp)) Try.underlying30 rfl (by kernel_rfl)) rfl ?_
  exact ⟨rfl, (Ext.refl _).alloc _⟩
set_option maxRecDepth 100000 in
theorem exC_any (w : World) : Calls Try.prog 74 #[] w fun e w' => e = .returned (.agg #[.int .u8 2, .int .i64 0, .int .i64 0, .int .i64 0, .int .i64 0, .int .i64 0, .int .i64 0, .int .i64 9000, .int .i64 30000, .int .i64 0]) ∧ Ext w w' := by
  have hsp := span_any
  obtain ⟨W0, hW0⟩ : ∃ W0, w.alloc (.cells #[.int .u8 0, .int .i64 0, .int .i64 0, .int .i64 0, .int .i64 0, .int .i64 0, .int .i64 0, .int .i64 0, .int .i64 0, .int .i64 0] 30) = W0 := ⟨_, rfl⟩
  have hx0 : Ext w W0 := by rw [← hW0]; exact (Ext.refl w).alloc _
  have hb0 : W0.heap[w.heap.size]? = some (.cells #[.int .u8 0, .int .i64 0, .int .i64 0, .int .i64 0, .int .i64 0, .int .i64 0, .int .i64 0, .int .i64 0, .int .i64 0, .int .i64 0] 30 (0, 0)) := by rw [← hW0]; exact heap_alloc_new w _
  have Hsp := Lib.hid hsp
  have Hx0 := Lib.hid hx0
  have Hb0 := Lib.hid hb0
  clear hsp hx0 hb0
  go_enter Try.func74, Try.ntmps74
  go_wp2_with (go_at_call 38; refine (Hsp.out _ _ _).mono ?_; rintro e w1 ⟨rfl, hx1⟩; have hb1 := hx1.heap Hb0.out; obtain ⟨z1, z2⟩ := (Ext.refl w1).box hb1; have hl1 := heap_lt hb1; clear hW0)
  refine bodyPost_ret (results_cell_row rfl _ _ w.heap.size 30 #[.int .u8 2, .int .i64 0, .int .i64 0, .int .i64 0, .int .i64 0, .int .i64 0, .int .i64 0, .int .i64 9000, .int .i64 30000, .int .i64 0] (0, 0) _ rfl (by simp only [heap_setCell_box, hb1, Option.map_some, setIn_cells, List.setIfInBounds_toArray, List.set_cons_zero, List.set_cons_succ]) Try.underlying30 rfl (by kernel_rfl)) rfl ?_
  refine ⟨rfl, ?_⟩
  repeat (refine Ext.setCell ?_ (Nat.le_refl _) _)
  exact Hx0.out.trans hx1
set_option maxRecDepth 100000 in
theorem exEast_any (w : World) : Calls Try.prog 37 #[] w fun e w' => e = .returned exEast.val ∧ Ext w w' := by
  have hsp := span_any
  obtain ⟨W0, hW0⟩ : ∃ W0, w.alloc (.cells #[.int .i64 0, .int .i64 0, .int .i64 0, .int .i64 0, .int .i64 0, .int .i64 0] 63) = W0 := ⟨_, rfl⟩
  have hx0 : Ext w W0 := by rw [← hW0]; exact (Ext.refl w).alloc _
  have hb0 : W0.heap[w.heap.size]? = some (.cells #[.int .i64 0, .int .i64 0, .int .i64 0, .int .i64 0, .int .i64 0, .int .i64 0] 63 (0, 0)) := by rw [← hW0]; exact heap_alloc_new w _
  have Hsp := Lib.hid hsp
  have Hx0 := Lib.hid hx0
  have Hb0 := Lib.hid hb0
  clear hsp hx0 hb0
  go_enter Try.func37, Try.ntmps37
  go_wp2_with (go_at_call 38; refine (Hsp.out _ _ _).mono ?_; rintro e w1 ⟨rfl, hx1⟩; first | (have hx2 := hx0'.trans hx1; have hb1 := hx2.heap Hb0.out; obtain ⟨z1, z2⟩ := (Ext.refl _).box hb1; have hl1 := heap_lt hb1) | (have hx0' := hx1; clear hW0))
  refine bodyPost_ret (results_cell_row rfl _ _ w.heap.size 63 #[.int .i64 1, .int .i64 1, .int .i64 2000, .int .i64 2000, .int .i64 0, .int .i64 0] (0, 0) _ rfl (by simp only [heap_setCell_box, hb1, Option.map_some, setIn_cells, List.setIfInBounds_toArray, List.set_cons_zero, List.set_cons_succ]) Try.underlying63 rfl (by kernel_rfl)) rfl ?_
  refine ⟨rfl, ?_⟩
  repeat (refine Ext.setCell ?_ (Nat.le_refl _) _)
  exact Hx0.out.trans hx2
end Go.Proofs.Ytacdndehlkaaeaa

/- The laws' own small functions. -/
namespace Go.Proofs.Ytacdndehlkaaeaa
open Go.RowKit
set_option linter.unusedVariables false
set_option linter.unusedSimpArgs false
/-- the draw at a place, round and round -/
def drawAt (l : List Int) (i : Nat) : Int := if l.length = 0 then 0 else l.getD (i % l.length) 0
set_option maxRecDepth 100000 in
theorem at_any (a : Option Addr) (n c : Nat) (l : List Int) (i : Nat) (w : World) (hl : IntsAt .u32 w a n l) (hn : n ≤ maxLen) (hi : i ≤ 1000000) : Calls Try.prog 44 #[.slice a n c, .int .i64 i] w fun e w' => e = .returned (.int .u32 (drawAt l i)) ∧ w' = w := by
  have hll := hl.1
  unfold maxLen at hn
  unfold drawAt
  rw [hll]
  by_cases h0 : n = 0
  · rw [if_pos h0]
    have h0B : ((n : Int) == 0) = true := by simp; omega
    have Hl := Lib.hid hl
    have Hll := Lib.hid hll
    clear hl hll
    clear h0
    go_enter Try.func44, Try.ntmps44
    go_wp2_with fail
    go_ret
    exact ⟨rfl, rfl⟩
  · rw [if_neg h0]
    have h0B : ((n : Int) == 0) = false := by simp; omega
    obtain ⟨k, hk⟩ : ∃ k, i % n = k := ⟨_, rfl⟩
    have hkn : k < n := by rw [← hk]; exact Nat.mod_lt _ (by omega)
    obtain ⟨b, off, u, rfl, hu, hb, hcell⟩ := hl.get k hkn
    have hg : l.getD k 0 = u := by simp [List.getD, hu]
    have hrem : (i : Int).tmod (n : Int) = (k : Int) := by rw [Int.tmod_eq_emod_of_nonneg (by omega)]; omega
    rw [hk, hg]
    have Hl := Lib.hid hl
    have Hll := Lib.hid hll
    clear hl hll
    clear hu hg hk
    go_enter Try.func44, Try.ntmps44
    go_wp2_with fail
    go_ret
    exact ⟨rfl, rfl⟩
/-- one of a span, by a draw -/
def pickOf (s : Span) (k : Int) : Int := s.lo + k % (s.hi - s.lo + 1)
set_option maxRecDepth 100000 in
theorem inner_any (s t : Span) (w : World) : Calls Try.prog 47 #[s.val, t.val] w fun e w' => e = .returned (.bool (decide (t.lo ≤ s.lo) && decide (s.hi ≤ t.hi))) ∧ Ext w w' := by
  obtain ⟨p, q⟩ := s
  obtain ⟨r, u⟩ := t
  unfold Span.val
  simp only
  by_cases h1 : r ≤ p
  · have h1B : decide (r ≤ p) = true := decide_eq_true h1
    by_cases h2 : q ≤ u
    · have h2B : decide (q ≤ u) = true := decide_eq_true h2
      rw [h1B, h2B]
      go_enter Try.func47, Try.ntmps47
      go_wp2_with fail
      go_ret
      exact ⟨rfl, ((Ext.refl _).alloc _).alloc _⟩
    · have h2B : decide (q ≤ u) = false := decide_eq_false h2
      rw [h1B, h2B]
      go_enter Try.func47, Try.ntmps47
      go_wp2_with fail
      go_ret
      exact ⟨rfl, ((Ext.refl _).alloc _).alloc _⟩
  · have h1B : decide (r ≤ p) = false := decide_eq_false h1
    rw [h1B]
    go_enter Try.func47, Try.ntmps47
    go_wp2_with fail
    go_ret
    exact ⟨rfl, ((Ext.refl _).alloc _).alloc _⟩
end Go.Proofs.Ytacdndehlkaaeaa

/- The laws' own small functions: picks and parts. -/
namespace Go.Proofs.Ytacdndehlkaaeaa
open Go.RowKit
set_option linter.unusedVariables false
set_option linter.unusedSimpArgs false
set_option maxRecDepth 100000 in
theorem pick_any (s : Span) (k : Int) (w : World) (h0 : -100000000 ≤ s.lo) (h1 : s.lo ≤ s.hi) (h2 : s.hi ≤ 100000000) (k0 : 0 ≤ k) (k1 : k ≤ 4294967295) : Calls Try.prog 46 #[s.val, .int .u32 k] w fun e w' => e = .returned (.int .i64 (pickOf s k)) ∧ Ext w w' := by
  obtain ⟨p, q⟩ := s
  unfold Span.val pickOf
  simp only at *
  obtain ⟨m, hm⟩ : ∃ m, k % (q - p + 1) = m := ⟨_, rfl⟩
  have hrem : k.tmod (q - p + 1) = m := by rw [Int.tmod_eq_emod_of_nonneg k0, hm]
  have hm0 : 0 ≤ m := by rw [← hm]; exact Int.emod_nonneg _ (by omega)
  have hm1 : m < q - p + 1 := by rw [← hm]; exact Int.emod_lt_of_pos _ (by omega)
  have hne : (q - p + 1 == 0) = false := by simp; omega
  have hne' : ¬q - p + 1 = 0 := by omega
  rw [hm]
  obtain ⟨W0, hW0⟩ : ∃ W0, w.alloc (.cells #[.int .i64 p, .int .i64 q] 28) = W0 := ⟨_, rfl⟩
  have hx0 : Ext w W0 := by rw [← hW0]; exact (Ext.refl w).alloc _
  have hb0 : W0.heap[w.heap.size]? = some (.cells #[.int .i64 p, .int .i64 q] 28 (0, 0)) := by rw [← hW0]; exact heap_alloc_new w _
  have Hx0 := Lib.hid hx0
  have Hb0 := Lib.hid hb0
  clear hx0 hb0
  clear hm
  go_enter Try.func46, Try.ntmps46
  go_upto_region 1 with fail
  clear hW0
  refine wp_region_ext (by kernel_rfl) (by kernel_rfl) (fun f hf hs => ?_)
  have f0 := fun q => ((hf q).box Hb0.out).1
  clear hf hs
  repeat (go_big_quiet_step (fail))
  refine wpQuiet_nil ?_
  intro W1 hW1
  clear f0
  go_wp2_with fail
  go_ret
  exact ⟨rfl, Hx0.out.trans hW1⟩
theorem pick_in {s : Span} {k : Int} (h : s.lo ≤ s.hi) (k0 : 0 ≤ k) : s.lo ≤ pickOf s k ∧ pickOf s k ≤ s.hi := by
  unfold pickOf
  have h1 := Int.emod_nonneg k (show s.hi - s.lo + 1 ≠ 0 by omega)
  have h2 := Int.emod_lt_of_pos k (show 0 < s.hi - s.lo + 1 by omega)
  omega
/-- a part of a span, by two draws -/
def partOf (s : Span) (k k' : Int) : Span := ⟨pickOf s k, pickOf ⟨pickOf s k, s.hi⟩ k'⟩
set_option maxRecDepth 100000 in
theorem part_any (s : Span) (k k' : Int) (w : World) (h0 : -100000000 ≤ s.lo) (h1 : s.lo ≤ s.hi) (h2 : s.hi ≤ 100000000) (k0 : 0 ≤ k) (k1 : k ≤ 4294967295) (k2 : 0 ≤ k') (k3 : k' ≤ 4294967295) : Calls Try.prog 49 #[s.val, .int .u32 k, .int .u32 k'] w fun e w' => e = .returned (partOf s k k').val ∧ Ext w w' := by
  have hp := pick_in h1 k0
  have hp1 := fun W => pick_any s k W h0 h1 h2 k0 k1
  have hp2 := fun W => pick_any ⟨pickOf s k, s.hi⟩ k' W (by simp only; omega) hp.2 h2 k2 k3
  have hsp := span_any
  unfold partOf
  generalize pickOf ⟨pickOf s k, s.hi⟩ k' = N at *
  generalize pickOf s k = M at *
  obtain ⟨p, q⟩ := s
  unfold Span.val at *
  simp only at *
  obtain ⟨W0, hW0⟩ : ∃ W0, (w.alloc (.cells #[.int .i64 p, .int .i64 q] 28)).alloc (.cells #[.int .i64 0, .int .i64 0] 28) = W0 := ⟨_, rfl⟩
  have hx0 : Ext w W0 := by rw [← hW0]; exact ((Ext.refl w).alloc _).alloc _
  have hb0 : W0.heap[w.heap.size]? = some (.cells #[.int .i64 p, .int .i64 q] 28 (0, 0)) := by rw [← hW0]; exact ((Ext.refl _).alloc _).heap (heap_alloc_new w _)
  have hr0 : W0.heap[w.heap.size + 1]? = some (.cells #[.int .i64 0, .int .i64 0] 28 (0, 0)) := by rw [← hW0]; exact alloc_at _ _ _ (by simp)
  obtain ⟨z0, _⟩ := (Ext.refl W0).box hb0
  have Hp1 := Lib.hid hp1
  have Hp2 := Lib.hid hp2
  have Hsp := Lib.hid hsp
  have Hx0 := Lib.hid hx0
  have Hb0 := Lib.hid hb0
  have Hr0 := Lib.hid hr0
  clear hp1 hp2 hsp hx0 hb0 hr0
  go_enter Try.func49, Try.ntmps49
  go_wp2_with (first
    | (go_at_call 46; first | (have hz := hx12; clear hz; refine (Hp2.out _).mono ?_; rintro e w3 ⟨rfl, hx3⟩; have hx13 := hx12.trans hx3) | (refine (Hp1.out _).mono ?_; rintro e w1 ⟨rfl, hx1⟩; obtain ⟨z1, _⟩ := (Ext.refl w1).box (hx1.heap Hb0.out); clear hW0 z0))
    | (go_at_call 38; refine (Hsp.out _ _ _).mono ?_; rintro e w2 ⟨rfl, hx2⟩; first | (have hx14 := hx13.trans hx2; have hb4 := hx14.heap Hr0.out; obtain ⟨y4, y4'⟩ := (Ext.refl _).box hb4; have hl4 := heap_lt hb4) | (have hx12 := hx1.trans hx2; clear z1)))
  refine bodyPost_ret (results_cell_row rfl _ _ (w.heap.size + 1) 28 #[.int .i64 M, .int .i64 N] (0, 0) _ rfl (by simp only [heap_setCell_box, hb4, Option.map_some, setIn_cells, List.setIfInBounds_toArray, List.set_cons_zero, List.set_cons_succ]) Try.underlying28 rfl (by kernel_rfl)) rfl ?_
  refine ⟨rfl, ?_⟩
  repeat (refine Ext.setCell ?_ (by simp only; omega) _)
  exact Hx0.out.trans hx14
end Go.Proofs.Ytacdndehlkaaeaa
