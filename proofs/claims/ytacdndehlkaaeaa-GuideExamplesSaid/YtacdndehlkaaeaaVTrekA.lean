/- Whether a trek is valid; products of spans; copies of halves. -/
import Derived.Test.YtacdndehlkaaeaaVRefFlo
import Derived.Test.YtacdndehlkaaeaaVGr1
import Derived.Test.YtacdndehlkaaeaaVRefBnd
import Derived.Test.YtacdndehlkaaeaaVGr5
import Derived.Lib.SliceRun
import Derived.BigQuiet
namespace Go.Proofs.Ytacdndehlkaaeaa
open Go.RowKit
set_option linter.unusedVariables false
set_option linter.unusedSimpArgs false
set_option maxRecDepth 100000 in
theorem gone_any (t : Trek) (w : World) : Calls Try.prog 69 #[t.val] w fun e w' => e = .returned (.bool (trekOk t)) ∧ Ext w w' := by
  have h1 := fun W k hb => ordered1 0 60 t.d W k hb
  have h2 := fun W k hb => ordered2 (-100000) 100000 t.e t.n W k hb
  have hT : trekOk t = (spanOk t.d 0 60 && (spanOk t.e (-100000) 100000 && spanOk t.n (-100000) 100000)) := by unfold trekOk; rw [Bool.and_assoc]
  rw [hT]
  obtain ⟨⟨d0, d1⟩, ⟨e0, e1⟩, ⟨n0, n1⟩⟩ := t
  unfold Trek.val
  simp only at h1 h2 ⊢
  have hnew := fun (W : World) (o : Obj) (b : Nat) (hb : b = W.heap.size) => show (W.alloc o).heap[b]? = some o from by rw [hb]; exact heap_alloc_new W o
  obtain ⟨W0, hW0⟩ : ∃ W0, w.alloc (.cells #[.int .i64 d0, .int .i64 d1, .int .i64 e0, .int .i64 e1, .int .i64 n0, .int .i64 n1] 63) = W0 := ⟨_, rfl⟩
  have hx0 : Ext w W0 := by rw [← hW0]; exact (Ext.refl w).alloc _
  have hb0 : W0.heap[w.heap.size]? = some (.cells #[.int .i64 d0, .int .i64 d1, .int .i64 e0, .int .i64 e1, .int .i64 n0, .int .i64 n1] 63 (0, 0)) := by rw [← hW0]; exact heap_alloc_new w _
  obtain ⟨z0, _⟩ := (Ext.refl W0).box hb0
  clear hT
  generalize (spanOk ⟨e0, e1⟩ (-100000) 100000 && spanOk ⟨n0, n1⟩ (-100000) 100000) = R at *
  cases hA : spanOk ⟨d0, d1⟩ 0 60 with
  | false =>
    rw [hA] at h1
    have H1 := Lib.hid h1
    have Hnew := Lib.hid hnew
    have Hx0 := Lib.hid hx0
    have Hb0 := Lib.hid hb0
    clear h1 hnew hx0 hb0
    clear h2 hA
    go_enter Try.func69, Try.ntmps69
    go_wp2_with (go_at_call 57; refine (H1.out _ _ (Hnew.out _ _ _ rfl)).mono ?_; rintro e w1 ⟨rfl, hx1⟩)
    go_ret
    exact ⟨rfl, Hx0.out.trans (((Ext.refl _).alloc _).trans hx1)⟩
  | true =>
    rw [hA] at h1
    have H1 := Lib.hid h1
    have H2 := Lib.hid h2
    have Hnew := Lib.hid hnew
    have Hx0 := Lib.hid hx0
    have Hb0 := Lib.hid hb0
    clear h1 h2 hnew hx0 hb0
    clear hA
    go_enter Try.func69, Try.ntmps69
    go_wp2_with (first | (go_at_call 57; refine (H1.out _ _ (Hnew.out _ _ _ rfl)).mono ?_; rintro e w1 ⟨rfl, hx1⟩; have hx01 := ((Ext.refl W0).alloc _).trans hx1; obtain ⟨z1, _⟩ := hx01.box Hb0.out; have hl1 := heap_lt (hx01.heap Hb0.out); clear z0 hW0 H1) | (go_at_call 57; refine (H2.out _ _ (Hnew.out _ _ _ rfl)).mono ?_; rintro e w2 ⟨rfl, hx2⟩))
    go_ret
    exact ⟨rfl, Hx0.out.trans (hx01.trans (((Ext.refl _).alloc _).trans hx2))⟩
set_option maxRecDepth 100000 in
theorem rtrek_any (t : Trek) (w : World) : Calls Try.prog 45 #[t.val] w fun e w' => e = .returned (.bool (trekOk t)) ∧ Ext w w' := by
  have h1 := fun W => spanned_any t.d 0 60 W
  have h2 := fun W => spanned_any t.e (-100000) 100000 W
  have h3 := fun W => spanned_any t.n (-100000) 100000 W
  have hT : trekOk t = (spanOk t.d 0 60 && spanOk t.e (-100000) 100000 && spanOk t.n (-100000) 100000) := rfl
  rw [hT]
  obtain ⟨⟨d0, d1⟩, ⟨e0, e1⟩, ⟨n0, n1⟩⟩ := t
  unfold Trek.val
  unfold Span.val at h1 h2 h3
  simp only at h1 h2 h3 ⊢
  obtain ⟨W0, hW0⟩ : ∃ W0, w.alloc (.cells #[.int .i64 d0, .int .i64 d1, .int .i64 e0, .int .i64 e1, .int .i64 n0, .int .i64 n1] 63) = W0 := ⟨_, rfl⟩
  have hx0 : Ext w W0 := by rw [← hW0]; exact (Ext.refl w).alloc _
  have hb0 : W0.heap[w.heap.size]? = some (.cells #[.int .i64 d0, .int .i64 d1, .int .i64 e0, .int .i64 e1, .int .i64 n0, .int .i64 n1] 63 (0, 0)) := by rw [← hW0]; exact heap_alloc_new w _
  obtain ⟨z0, _⟩ := (Ext.refl W0).box hb0
  clear hT
  generalize spanOk ⟨n0, n1⟩ (-100000) 100000 = R at *
  cases hA : spanOk ⟨d0, d1⟩ 0 60 with
  | false =>
    rw [hA] at h1
    have H1 := Lib.hid h1
    have Hx0 := Lib.hid hx0
    have Hb0 := Lib.hid hb0
    clear h1 hx0 hb0
    clear h2 hA h3
    go_enter Try.func45, Try.ntmps45
    go_wp2_with (go_at_call 59; refine (H1.out _).mono ?_; rintro e w1 ⟨rfl, hx1⟩)
    go_ret
    exact ⟨ret_bool (by simp), Hx0.out.trans hx1⟩
  | true =>
    cases hB : spanOk ⟨e0, e1⟩ (-100000) 100000 with
    | false =>
      rw [hA] at h1
      rw [hB] at h2
      have H1 := Lib.hid h1
      have H2 := Lib.hid h2
      have Hx0 := Lib.hid hx0
      have Hb0 := Lib.hid hb0
      clear h1 h2 hx0 hb0
      clear hA hB h3
      go_enter Try.func45, Try.ntmps45
      go_wp2_with (first | (go_at_call 59; refine (H1.out _).mono ?_; rintro e w1 ⟨rfl, hx1⟩; obtain ⟨z1, _⟩ := hx1.box Hb0.out; clear z0 hW0 H1) | (go_at_call 59; refine (H2.out _).mono ?_; rintro e w2 ⟨rfl, hx2⟩))
      go_ret
      exact ⟨ret_bool (by simp), Hx0.out.trans (hx1.trans hx2)⟩
    | true =>
      rw [hA] at h1
      rw [hB] at h2
      have H1 := Lib.hid h1
      have H2 := Lib.hid h2
      have H3 := Lib.hid h3
      have Hx0 := Lib.hid hx0
      have Hb0 := Lib.hid hb0
      clear h1 h2 h3 hx0 hb0
      clear hA hB
      go_enter Try.func45, Try.ntmps45
      go_wp2_with (first | (go_at_call 59; refine (H1.out _).mono ?_; rintro e w1 ⟨rfl, hx1⟩; obtain ⟨z1, _⟩ := hx1.box Hb0.out; clear z0 hW0 H1) | (go_at_call 59; refine (H2.out _).mono ?_; rintro e w2 ⟨rfl, hx2⟩; have hx12 := hx1.trans hx2; obtain ⟨z2, _⟩ := hx12.box Hb0.out; clear z1 H2) | (go_at_call 59; refine (H3.out _).mono ?_; rintro e w3 ⟨rfl, hx3⟩))
      go_ret
      exact ⟨ret_bool (by simp), Hx0.out.trans (hx12.trans hx3)⟩
set_option maxRecDepth 100000 in
theorem movedFn_any (h : Half) (w : World) : Calls Try.prog 93 #[h.val] w fun e w' => e = .returned (.bool (edgeOk h.c)) ∧ Ext w w' := by
  have h1 := fun W k hb => from1 (-100000000000) 100000000000 h.c W k hb
  have hT : edgeOk h.c = inB h.c (-100000000000) 100000000000 := rfl
  rw [hT]
  obtain ⟨ha, hb, hc⟩ := h
  unfold Half.val
  simp only at h1 ⊢
  have hnew := fun (W : World) (o : Obj) (b : Nat) (hb : b = W.heap.size) => show (W.alloc o).heap[b]? = some o from by rw [hb]; exact heap_alloc_new W o
  have H1 := Lib.hid h1
  have Hnew := Lib.hid hnew
  clear h1 hnew
  clear hT
  go_enter Try.func93, Try.ntmps93
  go_wp2_with (go_at_call 66; refine (H1.out _ _ (Hnew.out _ _ _ (by simp))).mono ?_; rintro e w1 ⟨rfl, hx1⟩)
  go_ret
  exact ⟨rfl, (((Ext.refl _).alloc _).alloc _).trans hx1⟩
set_option maxRecDepth 100000 in
theorem clone_any (b off len cap : Nat) (l : List Half) (w : World) (hl : HalvesAt w (some ⟨b, off, none⟩) len l) (hlen : len ≤ 100000) : Calls Try.prog 92 #[.slice (some ⟨b, off, none⟩) len cap] w (OwnHalvesO l w) := by
  have hll := hl.1
  have hrl : (halfRows l).length = len := by rw [halfRows_len]; exact hll
  have hsl : SlAt w 3 (some ⟨b, off, none⟩) len (fun k => (halfRows l).getD k []) := hl.src
  have heq : (binOp .eql 22 (.slice (some ⟨b, off, none⟩) len cap) (.slice none 0 0)).run Try.prog w = .ok (.bool false) w := by
    have := Go.Lib.run_eql_slice_nil (P := Try.prog) w 22 47 (some ⟨b, off, none⟩) len cap 0 0 Try.underlying22
    simpa using this
  have Hrl := Lib.hid hrl
  have Hsl := Lib.hid hsl
  have Hl := Lib.hid hl
  clear hrl hsl hl
  go_enter Try.func92, Try.ntmps92
  go_wp2_with (at_builtin; refine wpList_app elem22 _ rfl (.tmp 5) (.tmp 6) rfl w.heap.size _ (halfRows []) rfl (Owns.empty' (alloc_at _ _ _ rfl) (Nat.le_refl _) rfl (by decide)) (some ⟨b, off, none⟩) len cap (halfRows l) rfl Hrl.out (Hsl.out.ext ((Ext.refl _).alloc _)) (halfRows_row _) ?_ ?_ ?_)
  · show 0 + len ≤ 1000000000
    omega
  · simp
  intro v4 w4 ho4 hg4 _
  rw [show halfRows [] ++ halfRows l = halfRows l from rfl] at ho4
  have hx4 : Ext w w4 := ((Ext.refl w).alloc _).app (Owns.empty' (sz := 3) (cap := 0) (alloc_at _ _ _ rfl) (Nat.le_refl _) rfl (by decide)) hg4
  have Ho4 := Lib.hid ho4
  have Hx4 := Lib.hid hx4
  clear ho4 hx4
  clear hg4
  go_wp2_with fail
  go_ret
  exact ⟨_, rfl, Hx4.out, Ho4.out⟩
theorem run_min4 (a b c d : Int) (w : World) : (Builtin.min_ #[3, 3, 3, 3] 3 #[.int .i64 a, .int .i64 b, .int .i64 c, .int .i64 d]).run Try.prog w = .ok (.int .i64 (min (min a b) (min c d))) w := by
  simp [Builtin.min_, Builtin.min2]
  omega
theorem run_max4 (a b c d : Int) (w : World) : (Builtin.max_ #[3, 3, 3, 3] 3 #[.int .i64 a, .int .i64 b, .int .i64 c, .int .i64 d]).run Try.prog w = .ok (.int .i64 (max (max a b) (max c d))) w := by
  simp [Builtin.max_, Builtin.max2]
  omega
set_option maxRecDepth 100000 in
theorem rtimes_any (a b : Span) (w : World) (h0 : -1000000 ≤ a.lo ∧ a.lo ≤ 1000000) (h1 : -1000000 ≤ a.hi ∧ a.hi ≤ 1000000) (h2 : -1000000 ≤ b.lo ∧ b.lo ≤ 1000000) (h3 : -1000000 ≤ b.hi ∧ b.hi ≤ 1000000) :
    Calls Try.prog 94 #[a.val, b.val] w fun e w' => e = .returned (times a b).val ∧ Ext w w' := by
  obtain ⟨p, q⟩ := a
  obtain ⟨r, s⟩ := b
  simp only at *
  have m1 := mul_le (A := 1000000) (B := 1000000) h0.1 h0.2 h2.1 h2.2
  have m2 := mul_le (A := 1000000) (B := 1000000) h0.1 h0.2 h3.1 h3.2
  have m3 := mul_le (A := 1000000) (B := 1000000) h1.1 h1.2 h2.1 h2.2
  have m4 := mul_le (A := 1000000) (B := 1000000) h1.1 h1.2 h3.1 h3.2
  simp only [Int.reduceMul, Int.reduceNeg] at m1 m2 m3 m4
  have ht : times ⟨p, q⟩ ⟨r, s⟩ = ⟨min (min (p * r) (p * s)) (min (q * r) (q * s)), max (max (p * r) (p * s)) (max (q * r) (q * s))⟩ := rfl
  rw [ht]
  clear ht
  obtain ⟨P1, e1⟩ : ∃ P, p * r = P := ⟨_, rfl⟩
  obtain ⟨P2, e2⟩ : ∃ P, p * s = P := ⟨_, rfl⟩
  obtain ⟨P3, e3⟩ : ∃ P, q * r = P := ⟨_, rfl⟩
  obtain ⟨P4, e4⟩ : ∃ P, q * s = P := ⟨_, rfl⟩
  rw [e1] at m1 ⊢
  rw [e2] at m2 ⊢
  rw [e3] at m3 ⊢
  rw [e4] at m4 ⊢
  unfold Span.val
  simp only
  have hmi := fun W => run_min4 P1 P2 P3 P4 W
  have hma := fun W => run_max4 P1 P2 P3 P4 W
  generalize min (min P1 P2) (min P3 P4) = m at *
  generalize max (max P1 P2) (max P3 P4) = M at *
  obtain ⟨W0, hW0⟩ : ∃ W0, ((w.alloc (.cells #[.int .i64 p, .int .i64 q] 28)).alloc (.cells #[.int .i64 r, .int .i64 s] 28)).alloc (.cells #[.int .i64 0, .int .i64 0] 28) = W0 := ⟨_, rfl⟩
  have hx0 : Ext w W0 := by rw [← hW0]; exact (((Ext.refl w).alloc _).alloc _).alloc _
  have ha0 : W0.heap[w.heap.size]? = some (.cells #[.int .i64 p, .int .i64 q] 28 (0, 0)) := by rw [← hW0]; exact (((Ext.refl _).alloc _).alloc _).heap (heap_alloc_new w _)
  have hb0 : W0.heap[w.heap.size + 1]? = some (.cells #[.int .i64 r, .int .i64 s] 28 (0, 0)) := by rw [← hW0]; exact ((Ext.refl _).alloc _).heap (alloc_at _ _ _ (by simp))
  have hr0 : W0.heap[w.heap.size + 1 + 1]? = some (.cells #[.int .i64 0, .int .i64 0] 28 (0, 0)) := by rw [← hW0]; exact alloc_at _ _ _ (by simp)
  have Hx0 := Lib.hid hx0
  have Ha0 := Lib.hid ha0
  have Hb0 := Lib.hid hb0
  have Hr0 := Lib.hid hr0
  clear hx0 ha0 hb0 hr0
  go_enter Try.func94, Try.ntmps94
  go_upto_region 1 with fail
  clear hW0
  refine wp_region_ext (by kernel_rfl) (by kernel_rfl) (fun f hf hs => ?_)
  have f0 := fun q => ((hf q).box Ha0.out).1
  have f1 := fun q => ((hf q).box Hb0.out).1
  clear hf hs
  repeat (go_big_quiet_step (fail))
  refine wpQuiet_nil ?_
  intro W8 hW8
  clear f0 f1
  have hr8 := hW8.heap Hr0.out
  obtain ⟨k0, k1⟩ := (Ext.refl W8).box hr8
  have hlr := heap_lt hr8
  go_wp2_with fail
  refine bodyPost_ret (results_cell_row rfl _ _ (w.heap.size + 1 + 1) 28 #[.int .i64 m, .int .i64 M] (0, 0) _ rfl (set2_at hr8) Try.underlying28 rfl (by kernel_rfl)) rfl ?_
  exact ⟨rfl, set2_ext (Hx0.out.trans hW8) (by omega)⟩
end Go.Proofs.Ytacdndehlkaaeaa
