/- Contract of layer 1: After, where the animal lives. -/
import Derived.Test.YtcoelhpmkhimpaaDaysIt
import Derived.Test.YtcoelhpmkhimpaaCamD
import Derived.Test.YtcoelhpmkhimpaaRepC
import Derived.Test.YtcoelhpmkhimpaaWaterP
namespace Go.Proofs.Ytcoelhpmkhimpaa
open Go.RowKit
set_option linter.unusedVariables false
set_option linter.unusedSimpArgs false
set_option maxRecDepth 100000 in
set_option maxHeartbeats 8000000 in
theorem after_any (s : Breed) (c : Camel) (m : March) (w : World) (hb : breedOk s = true) (hc : camelOk s c = true) (hm : dayOk m = true) (hd : diesB s c m = false) :
    Calls Try.prog 38 #[s.val, c.val, m.val] w fun e w' => e = .returned (.tuple #[(nextOf s c m).val, .int .u8 (if safeB s c m then 0 else 1), .int .i64 0]) ∧ Ext w w' := by
  have hcc := fun W => checkCamel_any s c W
  have hce : camelErr s c = 0 := by unfold camelErr; rw [hb, hc]; rfl
  simp only [hce] at hcc
  have hcd := fun (W : World) (b : Nat) (h : W.heap[b]? = some (.cells m.cells.toArray 29 (0, 0))) => checkDays_any (some ⟨b, 0, none⟩) 1 1 [m] W (days_built (m := m) (n := 1) (by simpa [repCells] using h)) (by omega)
  have hde : daysErr [m] = 0 := by unfold daysErr; simp [hm]
  simp only [hde] at hcd
  have hdy := fun W => day_any s c m W (breedIs hb) (camelIs.1 hc) (dayIs hm)
  have hst := dayVal_step s c m
  have hse : stepOf s c m = ⟨s, nextOf s c m, if safeB s c m then 0 else 1⟩ := by unfold stepOf; rw [hd]; rfl
  rw [hse] at hst
  simp only at hst
  simp only [hst.1, hst.2] at hdy
  obtain ⟨F, hF, hF2⟩ : ∃ F : Int, (if safeB s c m then 0 else 1) = F ∧ (F == 2) = false := ⟨_, rfl, by split <;> rfl⟩
  rw [hF] at hdy ⊢
  obtain ⟨X, hX⟩ : ∃ X, nextOf s c m = X := ⟨_, rfl⟩
  rw [hX] at hdy ⊢
  clear hX hF hst hse hde hce hd hb hc hm
  simp only [beastVal_eq] at hdy
  unfold bCells at hdy
  obtain ⟨⟨n0, n1⟩, ⟨n2, n3⟩, ⟨n4, n5⟩, n6⟩ := X
  obtain ⟨fu, fe, ⟨r0, r1⟩, ⟨h0, h1⟩, ⟨t0, t1⟩, ⟨b0, b1⟩, ⟨u0, u1⟩, ⟨m0, m1⟩, hz, ⟨s0, s1⟩⟩ := s
  obtain ⟨⟨w0, w1⟩, ⟨k0, k1⟩, ⟨o0, o1⟩, mk⟩ := c
  obtain ⟨hh, ld, ⟨e0, e1⟩, ⟨g0, g1⟩, ⟨d0, d1⟩⟩ := m
  unfold Breed.val Camel.val at hcc
  unfold Breed.val Camel.val March.val
  unfold March.val at hdy
  unfold March.cells at hcd
  simp only at hcc hdy hcd ⊢
  obtain ⟨W0, hW0⟩ : ∃ W0, (((w.alloc (.cells #[.int .i64 fu, .int .i64 fe, .int .i64 r0, .int .i64 r1, .int .i64 h0, .int .i64 h1, .int .i64 t0, .int .i64 t1, .int .i64 b0, .int .i64 b1, .int .i64 u0, .int .i64 u1, .int .i64 m0, .int .i64 m1, .int .i64 hz, .int .i64 s0, .int .i64 s1] 25)).alloc (.cells #[.int .i64 w0, .int .i64 w1, .int .i64 k0, .int .i64 k1, .int .i64 o0, .int .i64 o1, .bool mk] 27)).alloc (.cells #[.int .i64 hh, .int .i64 ld, .int .i64 e0, .int .i64 e1, .int .i64 g0, .int .i64 g1, .int .i64 d0, .int .i64 d1] 29)).alloc (.cells #[.int .i64 0, .int .i64 0, .int .i64 0, .int .i64 0, .int .i64 0, .int .i64 0, .bool false] 27) = W0 := ⟨_, rfl⟩
  have hx0 : Ext w W0 := by rw [← hW0]; exact ((((Ext.refl w).alloc _).alloc _).alloc _).alloc _
  have hb0 : W0.heap[w.heap.size]? = some (.cells #[.int .i64 fu, .int .i64 fe, .int .i64 r0, .int .i64 r1, .int .i64 h0, .int .i64 h1, .int .i64 t0, .int .i64 t1, .int .i64 b0, .int .i64 b1, .int .i64 u0, .int .i64 u1, .int .i64 m0, .int .i64 m1, .int .i64 hz, .int .i64 s0, .int .i64 s1] 25 (0, 0)) := by rw [← hW0]; exact alloc_heap (alloc_heap (alloc_heap (heap_alloc_new w _) _) _) _
  have hc0 : W0.heap[w.heap.size + 1]? = some (.cells #[.int .i64 w0, .int .i64 w1, .int .i64 k0, .int .i64 k1, .int .i64 o0, .int .i64 o1, .bool mk] 27 (0, 0)) := by rw [← hW0]; exact alloc_heap (alloc_heap (alloc_at _ _ _ (by simp)) _) _
  have hm0 : W0.heap[w.heap.size + 1 + 1]? = some (.cells #[.int .i64 hh, .int .i64 ld, .int .i64 e0, .int .i64 e1, .int .i64 g0, .int .i64 g1, .int .i64 d0, .int .i64 d1] 29 (0, 0)) := by rw [← hW0]; exact alloc_heap (alloc_at _ _ _ (by simp)) _
  have hr0 : W0.heap[w.heap.size + 1 + 1 + 1]? = some (.cells #[.int .i64 0, .int .i64 0, .int .i64 0, .int .i64 0, .int .i64 0, .int .i64 0, .bool false] 27 (0, 0)) := by rw [← hW0]; exact alloc_at _ _ _ (by simp)
  have Hcc := Lib.hid hcc
  have Hdy := Lib.hid hdy
  have Hcd := Lib.hid hcd
  have Hx0 := Lib.hid hx0
  have Hb0 := Lib.hid hb0
  have Hc0 := Lib.hid hc0
  have Hm0 := Lib.hid hm0
  have Hr0 := Lib.hid hr0
  clear hcc hdy hcd hx0 hb0 hc0 hm0 hr0
  go_enter Try.func38, Try.ntmps38
  go_upto_region 7 with (first
    | (refine wpList_load_row rfl 25 (.tmp 3) rfl w.heap.size rfl 25 _ (0, 0) _ Hb0.out Try.underlying25 rfl (by kernel_rfl) ?_)
    | (refine wpList_load_row rfl 27 (.tmp 4) rfl (w.heap.size + 1) rfl 27 _ (0, 0) _ Hc0.out Try.underlying27 rfl (by kernel_rfl) ?_)
    | (go_at_call 55; refine (Hcc.out _).mono ?_; rintro e v1 ⟨rfl, hx1⟩; have hm1 := hx1.heap Hm0.out; have Hm1 := Lib.hid hm1; clear hm1)
    | (refine wpList_load_row rfl 29 (.tmp 5) rfl (w.heap.size + 1 + 1) rfl 29 _ (0, 0) _ Hm1.out Try.underlying29 rfl (by kernel_rfl) ?_)
    | (go_at_call 89; refine (Hcd.out _ _ (heap_alloc_new v1 _)).mono ?_; rintro e v2 ⟨rfl, hx2⟩))
  have hx02 : Ext W0 v2 := (hx1.alloc _).trans hx2
  have hb2 := hx02.heap Hb0.out
  have hc2 := hx02.heap Hc0.out
  have hm2 := hx02.heap Hm0.out
  have hr2 := hx02.heap Hr0.out
  have hx3 := Hx0.out.trans hx02
  have Hb2 := Lib.hid hb2
  have Hc2 := Lib.hid hc2
  have Hm2 := Lib.hid hm2
  have Hr2 := Lib.hid hr2
  have Hx3 := Lib.hid hx3
  clear hb2 hc2 hm2 hr2 hx3
  clear hx1 hx2 hx02 Hb0 Hc0 Hm0 Hr0 Hx0 Hm1 hW0 Hcc Hcd
  go_wp2_with (first
    | (refine wpList_load_row rfl 25 (.tmp 3) rfl w.heap.size rfl 25 _ (0, 0) _ Hb2.out Try.underlying25 rfl (by kernel_rfl) ?_)
    | (refine wpList_load_row rfl 27 (.tmp 4) rfl (w.heap.size + 1) rfl 27 _ (0, 0) _ Hc2.out Try.underlying27 rfl (by kernel_rfl) ?_)
    | (refine wpList_load_row rfl 29 (.tmp 5) rfl (w.heap.size + 1 + 1) rfl 29 _ (0, 0) _ Hm2.out Try.underlying29 rfl (by kernel_rfl) ?_)
    | (go_at_call 91; refine (Hdy.out _).mono ?_; rintro e v5 ⟨rfl, hx5⟩; have hr5 := hx5.heap Hr2.out; have hx6 := Hx3.out.trans hx5; have hrl5 := heap_lt hr5)
    | (refine wpList_store_row rfl 122 (.tmp 11) (.tmp 32) rfl v5.heap.size #[.int .i64 fu, .int .i64 fe, .int .i64 r0, .int .i64 r1, .int .i64 h0, .int .i64 h1, .int .i64 t0, .int .i64 t1, .int .i64 b0, .int .i64 b1, .int .i64 u0, .int .i64 u1, .int .i64 m0, .int .i64 m1, .int .i64 hz, .int .i64 s0, .int .i64 s1, .int .i64 n0, .int .i64 n1, .int .i64 n2, .int .i64 n3, .int .i64 n4, .int .i64 n5, .bool n6] rfl rfl 122 _ (heap_alloc_new v5 _) (by kernel_rfl) (by kernel_rfl) (by kernel_rfl) ?_; have hr7 := (setRow_other (v5.alloc (.cells #[.int .i64 0, .int .i64 0, .int .i64 0, .int .i64 0, .int .i64 0, .int .i64 0, .int .i64 0, .int .i64 0, .int .i64 0, .int .i64 0, .int .i64 0, .int .i64 0, .int .i64 0, .int .i64 0, .int .i64 0, .int .i64 0, .int .i64 0, .int .i64 0, .int .i64 0, .int .i64 0, .int .i64 0, .int .i64 0, .int .i64 0, .bool false] 122)) v5.heap.size (w.heap.size + 1 + 1 + 1) #[.int .i64 fu, .int .i64 fe, .int .i64 r0, .int .i64 r1, .int .i64 h0, .int .i64 h1, .int .i64 t0, .int .i64 t1, .int .i64 b0, .int .i64 b1, .int .i64 u0, .int .i64 u1, .int .i64 m0, .int .i64 m1, .int .i64 hz, .int .i64 s0, .int .i64 s1, .int .i64 n0, .int .i64 n1, .int .i64 n2, .int .i64 n3, .int .i64 n4, .int .i64 n5, .bool n6] (by omega)).trans (alloc_heap hr5 _); have hp7 := setRow_heap (v5.alloc (.cells #[.int .i64 0, .int .i64 0, .int .i64 0, .int .i64 0, .int .i64 0, .int .i64 0, .int .i64 0, .int .i64 0, .int .i64 0, .int .i64 0, .int .i64 0, .int .i64 0, .int .i64 0, .int .i64 0, .int .i64 0, .int .i64 0, .int .i64 0, .int .i64 0, .int .i64 0, .int .i64 0, .int .i64 0, .int .i64 0, .int .i64 0, .bool false] 122)) v5.heap.size _ #[.int .i64 fu, .int .i64 fe, .int .i64 r0, .int .i64 r1, .int .i64 h0, .int .i64 h1, .int .i64 t0, .int .i64 t1, .int .i64 b0, .int .i64 b1, .int .i64 u0, .int .i64 u1, .int .i64 m0, .int .i64 m1, .int .i64 hz, .int .i64 s0, .int .i64 s1, .int .i64 n0, .int .i64 n1, .int .i64 n2, .int .i64 n3, .int .i64 n4, .int .i64 n5, .bool n6] 122 (0, 0) (heap_alloc_new v5 _); have hx7 := below_setRow (hx6.alloc (.cells #[.int .i64 0, .int .i64 0, .int .i64 0, .int .i64 0, .int .i64 0, .int .i64 0, .int .i64 0, .int .i64 0, .int .i64 0, .int .i64 0, .int .i64 0, .int .i64 0, .int .i64 0, .int .i64 0, .int .i64 0, .int .i64 0, .int .i64 0, .int .i64 0, .int .i64 0, .int .i64 0, .int .i64 0, .int .i64 0, .int .i64 0, .bool false] 122)) hx6.size #[.int .i64 fu, .int .i64 fe, .int .i64 r0, .int .i64 r1, .int .i64 h0, .int .i64 h1, .int .i64 t0, .int .i64 t1, .int .i64 b0, .int .i64 b1, .int .i64 u0, .int .i64 u1, .int .i64 m0, .int .i64 m1, .int .i64 hz, .int .i64 s0, .int .i64 s1, .int .i64 n0, .int .i64 n1, .int .i64 n2, .int .i64 n3, .int .i64 n4, .int .i64 n5, .bool n6])
    | (refine wpList_load_part rfl 27 (.tmp 37) rfl v5.heap.size 17 rfl 122 _ (0, 0) _ hp7 [.int .i64 n0, .int .i64 n1, .int .i64 n2, .int .i64 n3, .int .i64 n4, .int .i64 n5, .bool n6] rfl Try.underlying27 rfl (by kernel_rfl) ?_)
    | (refine wpList_store_row rfl 27 (.tmp 6) (.tmp 38) rfl (w.heap.size + 1 + 1 + 1) #[.int .i64 n0, .int .i64 n1, .int .i64 n2, .int .i64 n3, .int .i64 n4, .int .i64 n5, .bool n6] rfl rfl 27 _ hr7 (by kernel_rfl) (by kernel_rfl) (by kernel_rfl) ?_))
  have hr8 := setRow_heap _ (w.heap.size + 1 + 1 + 1) _ #[.int .i64 n0, .int .i64 n1, .int .i64 n2, .int .i64 n3, .int .i64 n4, .int .i64 n5, .bool n6] 27 (0, 0) hr7
  have hx8 := below_setRow hx7 (show w.heap.size ≤ w.heap.size + 1 + 1 + 1 by omega) #[.int .i64 n0, .int .i64 n1, .int .i64 n2, .int .i64 n3, .int .i64 n4, .int .i64 n5, .bool n6]
  refine bodyPost_ret (results_cell_tmp2 (P := Try.prog) (fn := Try.f38) rfl _ _ (w.heap.size + 1 + 1 + 1) 27 #[.int .i64 n0, .int .i64 n1, .int .i64 n2, .int .i64 n3, .int .i64 n4, .int .i64 n5, .bool n6] (0, 0) _ rfl hr8 Try.underlying27 rfl (by kernel_rfl)) rfl ?_
  exact ⟨rfl, hx8⟩
end Go.Proofs.Ytcoelhpmkhimpaa
