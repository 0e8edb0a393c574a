/- The law TopStage. -/
import Derived.Test.YtcoelhpmkhimpaaStageT
import Derived.Test.YtcoelhpmkhimpaaAliveD
namespace Go.Proofs.Ytcoelhpmkhimpaa
open Go.RowKit
set_option linter.unusedVariables false
set_option linter.unusedSimpArgs false
set_option maxRecDepth 100000 in
set_option maxHeartbeats 8000000 in
theorem lawStage_any (s : Breed) (c : Camel) (m : March) (wa : Option Addr) (wn wc : Nat) (la : Option Addr) (ln lc : Nat) (ws : List Well) (ls : List Leg) (frw day : Int) (p : Span) (ga : Option Addr) (gn gc : Nat) (gs : List Int) (w : World) (hws : WellsAt w wa wn ws) (hwc : wn ≤ wc) (hwm : wc ≤ maxLen) (hls : LegsAt w la ln ls) (hlc : ln ≤ lc) (hlm : lc ≤ maxLen) (hlb : ∀ x, la = some x → x.block < w.heap.size) (hg : IntsAt .i64 w ga gn gs) (hgc : gn ≤ gc) (hgm : gc ≤ maxLen) (hgb : ∀ x, ga = some x → x.block < w.heap.size) :
    Calls Try.prog 3 #[s.val, c.val, m.val, .agg #[.slice wa wn wc, .slice la ln lc], .int .i64 frw, .int .i64 day, p.val, .slice ga gn gc] w fun e w' => e = .returned (.bool true) ∧ Ext w w' := by
  have hck := fun W => rcheckCamel_any s c W
  have hmk := fun W => rmarch_any m W
  have hgr := fun W (hW : Ext w W) => rgreat_any wa wn wc la ln lc ⟨ws, ls⟩ W hws.1 hwc hwm (hls.ext hW) hlc hlm
  have hgl := hg.1
  have hwl := hws.1
  have hll := hls.1
  unfold maxLen at hgm
  have hsm := fun h => @great_small ⟨ws, ls⟩ h
  have hwk := fun (W : World) (hW : Ext w W) (h : greatB ⟨ws, ls⟩ = false) => walk_any wa wn wc la ln lc ⟨ws, ls⟩ p frw day ga gn gc gs W ⟨hws.ext hW, hls.ext hW, hwc, hwm, hlc, hlm, by have := hsm h; simp only at this; omega, by have := hsm h; simp only at this; omega⟩ (hg.ext hW) hgc (by unfold maxLen; exact hgm) (fun x hx => Nat.lt_of_lt_of_le (hlb x hx) hW.size) (fun x hx => Nat.lt_of_lt_of_le (hgb x hx) hW.size)
  have hla := fun (h : greatB ⟨ws, ls⟩ = false) (W : World) (hW : Ext w W) => (⟨hws.ext hW, hls.ext hW, hwc, hwm, hlc, hlm, by have := hsm h; simp only at this; omega, by have := hsm h; simp only at this; omega⟩ : LandAt W wa wn wc la ln lc ⟨ws, ls⟩)
  have hcs := walk_cases ⟨ws, ls⟩ p frw day gs
  obtain ⟨K, hK⟩ : ∃ K, camelErr s c = K := ⟨_, rfl⟩
  obtain ⟨D, hD⟩ : ∃ D, dayOk m = D := ⟨_, rfl⟩
  obtain ⟨G, hG⟩ : ∃ G, greatB ⟨ws, ls⟩ = G := ⟨_, rfl⟩
  rw [hK] at hck
  rw [hD] at hmk
  rw [hG] at hgr hwk hla hsm
  have hbo0 := hK
  obtain ⟨W0, hW0⟩ : ∃ W0, ((((w.alloc (.cells s.cells.toArray 25)).alloc (.cells c.cells.toArray 27)).alloc (.cells m.cells.toArray 29)).alloc (.cells #[.slice wa wn wc, .slice la ln lc] 33)).alloc (.cells #[.int .i64 p.lo, .int .i64 p.hi] 23) = W0 := ⟨_, rfl⟩
  have hx0 : Ext w W0 := by rw [← hW0]; exact (((((Ext.refl w).alloc _).alloc _).alloc _).alloc _).alloc _
  have hb0 : W0.heap[w.heap.size]? = some (.cells s.cells.toArray 25 (0, 0)) := by rw [← hW0]; exact alloc_heap (alloc_heap (alloc_heap (alloc_heap (heap_alloc_new w _) _) _) _) _
  have hc0 : W0.heap[w.heap.size + 1]? = some (.cells c.cells.toArray 27 (0, 0)) := by rw [← hW0]; exact alloc_heap (alloc_heap (alloc_heap (alloc_at _ _ _ (by simp)) _) _) _
  have hm0 : W0.heap[w.heap.size + 1 + 1]? = some (.cells m.cells.toArray 29 (0, 0)) := by rw [← hW0]; exact alloc_heap (alloc_heap (alloc_at _ _ _ (by simp)) _) _
  have hl0 : W0.heap[w.heap.size + 1 + 1 + 1]? = some (.cells #[.slice wa wn wc, .slice la ln lc] 33 (0, 0)) := by rw [← hW0]; exact alloc_heap (alloc_at _ _ _ (by simp)) _
  have hp0 : W0.heap[w.heap.size + 1 + 1 + 1 + 1]? = some (.cells #[.int .i64 p.lo, .int .i64 p.hi] 23 (0, 0)) := by rw [← hW0]; exact alloc_at _ _ _ (by simp)
  obtain ⟨p0, p1⟩ := p
  simp only at hp0 hW0
  obtain ⟨s', hs'⟩ : ∃ s' : Breed, s' = s := ⟨_, rfl⟩
  obtain ⟨c', hc'⟩ : ∃ c' : Camel, c' = c := ⟨_, rfl⟩
  obtain ⟨m', hm'⟩ : ∃ m' : March, m' = m := ⟨_, rfl⟩
  rw [← hs'] at hbo0
  rw [← hc'] at hbo0
  rw [← hm'] at hD
  obtain ⟨fu, fe, ⟨r0, r1⟩, ⟨h0, h1⟩, ⟨t0, t1⟩, ⟨b0, b1⟩, ⟨u0, u1⟩, ⟨m0, m1⟩, hz, ⟨s0, s1⟩⟩ := s
  obtain ⟨⟨w0, w1⟩, ⟨k0, k1⟩, ⟨o0, o1⟩, mk⟩ := c
  obtain ⟨hh, ld, ⟨e0, e1⟩, ⟨g0, g1⟩, ⟨d0, d1⟩⟩ := m
  unfold Breed.val Camel.val at hck ⊢
  unfold March.val at hmk ⊢
  unfold Span.val at hwk ⊢
  unfold Breed.cells at hb0 hW0
  unfold Camel.cells at hc0 hW0
  unfold March.cells at hm0 hW0
  simp only at hck hmk hwk hb0 hc0 hm0 hW0 ⊢
  clear hK
  have Hck := Lib.hid hck
  have Hmk := Lib.hid hmk
  have Hgr := Lib.hid hgr
  have Hwk := Lib.hid hwk
  have Hcs := Lib.hid hcs
  have Hla := Lib.hid hla
  have Hx0 := Lib.hid hx0
  have Hb0 := Lib.hid hb0
  have Hc0 := Lib.hid hc0
  have Hm0 := Lib.hid hm0
  have Hl0 := Lib.hid hl0
  have Hp0 := Lib.hid hp0
  have Hsm := Lib.hid hsm
  have Hbo0 := Lib.hid hbo0
  have Hs' := Lib.hid hs'
  have Hc' := Lib.hid hc'
  have Hm' := Lib.hid hm'
  have HD := Lib.hid hD
  have HG := Lib.hid hG
  have Hg := Lib.hid hg
  have Hgb := Lib.hid hgb
  clear hck hmk hgr hwk hcs hla hx0 hb0 hc0 hm0 hl0 hp0 hsm hbo0 hs' hc' hm' hD hG hg hgb
  clear hws hls hlb
  by_cases hK : K ≠ 0
  · have hKB : (K != 0) = true := by simpa using hK
    clear hK
    go_enter Try.func3, Try.ntmps3
    go_wp2_with (first
    | (go_at_call 8; refine (alive03_any _).mono ?_; rintro e v1 ⟨rfl, hx1⟩; have hb1 := hx1.heap Hb0.out; have hc1 := hx1.heap Hc0.out; have hm1 := hx1.heap Hm0.out; have hl1 := hx1.heap Hl0.out; have hp1 := hx1.heap Hp0.out; have hy1 := Hx0.out.trans hx1; have Hb1 := Lib.hid hb1; have Hc1 := Lib.hid hc1; have Hm1 := Lib.hid hm1; have Hl1 := Lib.hid hl1; have Hp1 := Lib.hid hp1; have Hy1 := Lib.hid hy1; clear hb1 hc1 hm1 hl1 hp1 hy1)
    | (refine wpList_load_row rfl 25 (.tmp 8) rfl w.heap.size rfl 25 _ (0, 0) _ Hb1.out Try.underlying25 rfl (by kernel_rfl) ?_)
    | (refine wpList_load_row rfl 27 (.tmp 9) rfl (w.heap.size + 1) rfl 27 _ (0, 0) _ Hc1.out Try.underlying27 rfl (by kernel_rfl) ?_)
    | (go_at_call 9; refine (Hck.out _).mono ?_; rintro e v2 ⟨rfl, hx2⟩; have hm2 := hx2.heap Hm1.out; have hl2 := hx2.heap Hl1.out; have hp2 := hx2.heap Hp1.out; have hy2 := Hy1.out.trans hx2; obtain ⟨zm, _⟩ := (Ext.refl v2).box hm2; have Hm2 := Lib.hid hm2; have Hl2 := Lib.hid hl2; have Hp2 := Lib.hid hp2; have Hy2 := Lib.hid hy2; clear hm2 hl2 hp2 hy2)
    | (go_at_call 10; refine (Hmk.out _).mono ?_; rintro e v3 ⟨rfl, hx3⟩; have hl3 := hx3.heap Hl2.out; have hp3 := hx3.heap Hp2.out; have hy3 := Hy2.out.trans hx3; clear zm; obtain ⟨zl, _⟩ := (Ext.refl v3).box hl3; have Hl3 := Lib.hid hl3; have Hp3 := Lib.hid hp3; have Hy3 := Lib.hid hy3; clear hl3 hp3 hy3)
    | (refine wpList_load_row rfl 33 (.tmp 11) rfl (w.heap.size + 1 + 1 + 1) rfl 33 _ (0, 0) _ Hl4.out Try.underlying33 rfl (by kernel_rfl) ?_)
    | (go_at_call 11; refine (Hgr.out _ Hy3.out).mono ?_; rintro e v4 ⟨rfl, hx4⟩; have hl4 := hx4.heap Hl3.out; have hp4 := hx4.heap Hp3.out; have hy4 := Hy3.out.trans hx4; clear zl; have Hl4 := Lib.hid hl4; have Hp4 := Lib.hid hp4; have Hy4 := Lib.hid hy4; clear hl4 hp4 hy4))
    go_ret
    exact ⟨rfl, Hy2.out⟩
  obtain rfl : K = 0 := by omega
  have hKB : ((0 : Int) != 0) = false := by decide
  cases D
  · skip
    go_enter Try.func3, Try.ntmps3
    go_wp2_with (first
    | (go_at_call 8; refine (alive03_any _).mono ?_; rintro e v1 ⟨rfl, hx1⟩; have hb1 := hx1.heap Hb0.out; have hc1 := hx1.heap Hc0.out; have hm1 := hx1.heap Hm0.out; have hl1 := hx1.heap Hl0.out; have hp1 := hx1.heap Hp0.out; have hy1 := Hx0.out.trans hx1; have Hb1 := Lib.hid hb1; have Hc1 := Lib.hid hc1; have Hm1 := Lib.hid hm1; have Hl1 := Lib.hid hl1; have Hp1 := Lib.hid hp1; have Hy1 := Lib.hid hy1; clear hb1 hc1 hm1 hl1 hp1 hy1)
    | (refine wpList_load_row rfl 25 (.tmp 8) rfl w.heap.size rfl 25 _ (0, 0) _ Hb1.out Try.underlying25 rfl (by kernel_rfl) ?_)
    | (refine wpList_load_row rfl 27 (.tmp 9) rfl (w.heap.size + 1) rfl 27 _ (0, 0) _ Hc1.out Try.underlying27 rfl (by kernel_rfl) ?_)
    | (go_at_call 9; refine (Hck.out _).mono ?_; rintro e v2 ⟨rfl, hx2⟩; have hm2 := hx2.heap Hm1.out; have hl2 := hx2.heap Hl1.out; have hp2 := hx2.heap Hp1.out; have hy2 := Hy1.out.trans hx2; obtain ⟨zm, _⟩ := (Ext.refl v2).box hm2; have Hm2 := Lib.hid hm2; have Hl2 := Lib.hid hl2; have Hp2 := Lib.hid hp2; have Hy2 := Lib.hid hy2; clear hm2 hl2 hp2 hy2)
    | (go_at_call 10; refine (Hmk.out _).mono ?_; rintro e v3 ⟨rfl, hx3⟩; have hl3 := hx3.heap Hl2.out; have hp3 := hx3.heap Hp2.out; have hy3 := Hy2.out.trans hx3; clear zm; obtain ⟨zl, _⟩ := (Ext.refl v3).box hl3; have Hl3 := Lib.hid hl3; have Hp3 := Lib.hid hp3; have Hy3 := Lib.hid hy3; clear hl3 hp3 hy3)
    | (refine wpList_load_row rfl 33 (.tmp 11) rfl (w.heap.size + 1 + 1 + 1) rfl 33 _ (0, 0) _ Hl4.out Try.underlying33 rfl (by kernel_rfl) ?_)
    | (go_at_call 11; refine (Hgr.out _ Hy3.out).mono ?_; rintro e v4 ⟨rfl, hx4⟩; have hl4 := hx4.heap Hl3.out; have hp4 := hx4.heap Hp3.out; have hy4 := Hy3.out.trans hx4; clear zl; have Hl4 := Lib.hid hl4; have Hp4 := Lib.hid hp4; have Hy4 := Lib.hid hy4; clear hl4 hp4 hy4))
    go_ret
    exact ⟨rfl, Hy3.out⟩
  cases G
  rotate_left
  · skip
    go_enter Try.func3, Try.ntmps3
    go_wp2_with (first
    | (go_at_call 8; refine (alive03_any _).mono ?_; rintro e v1 ⟨rfl, hx1⟩; have hb1 := hx1.heap Hb0.out; have hc1 := hx1.heap Hc0.out; have hm1 := hx1.heap Hm0.out; have hl1 := hx1.heap Hl0.out; have hp1 := hx1.heap Hp0.out; have hy1 := Hx0.out.trans hx1; have Hb1 := Lib.hid hb1; have Hc1 := Lib.hid hc1; have Hm1 := Lib.hid hm1; have Hl1 := Lib.hid hl1; have Hp1 := Lib.hid hp1; have Hy1 := Lib.hid hy1; clear hb1 hc1 hm1 hl1 hp1 hy1)
    | (refine wpList_load_row rfl 25 (.tmp 8) rfl w.heap.size rfl 25 _ (0, 0) _ Hb1.out Try.underlying25 rfl (by kernel_rfl) ?_)
    | (refine wpList_load_row rfl 27 (.tmp 9) rfl (w.heap.size + 1) rfl 27 _ (0, 0) _ Hc1.out Try.underlying27 rfl (by kernel_rfl) ?_)
    | (go_at_call 9; refine (Hck.out _).mono ?_; rintro e v2 ⟨rfl, hx2⟩; have hm2 := hx2.heap Hm1.out; have hl2 := hx2.heap Hl1.out; have hp2 := hx2.heap Hp1.out; have hy2 := Hy1.out.trans hx2; obtain ⟨zm, _⟩ := (Ext.refl v2).box hm2; have Hm2 := Lib.hid hm2; have Hl2 := Lib.hid hl2; have Hp2 := Lib.hid hp2; have Hy2 := Lib.hid hy2; clear hm2 hl2 hp2 hy2)
    | (go_at_call 10; refine (Hmk.out _).mono ?_; rintro e v3 ⟨rfl, hx3⟩; have hl3 := hx3.heap Hl2.out; have hp3 := hx3.heap Hp2.out; have hy3 := Hy2.out.trans hx3; clear zm; obtain ⟨zl, _⟩ := (Ext.refl v3).box hl3; have Hl3 := Lib.hid hl3; have Hp3 := Lib.hid hp3; have Hy3 := Lib.hid hy3; clear hl3 hp3 hy3)
    | (refine wpList_load_row rfl 33 (.tmp 11) rfl (w.heap.size + 1 + 1 + 1) rfl 33 _ (0, 0) _ Hl4.out Try.underlying33 rfl (by kernel_rfl) ?_)
    | (go_at_call 11; refine (Hgr.out _ Hy3.out).mono ?_; rintro e v4 ⟨rfl, hx4⟩; have hl4 := hx4.heap Hl3.out; have hp4 := hx4.heap Hp3.out; have hy4 := Hy3.out.trans hx4; clear zl; have Hl4 := Lib.hid hl4; have Hp4 := Lib.hid hp4; have Hy4 := Lib.hid hy4; clear hl4 hp4 hy4))
    go_ret
    exact ⟨rfl, Hy4.out⟩
  by_cases hlen : 24 < gn
  · have hlB : decide (24 < (gn : Int)) = true := by simp; omega
    go_enter Try.func3, Try.ntmps3
    go_wp2_with (first
    | (go_at_call 8; refine (alive03_any _).mono ?_; rintro e v1 ⟨rfl, hx1⟩; have hb1 := hx1.heap Hb0.out; have hc1 := hx1.heap Hc0.out; have hm1 := hx1.heap Hm0.out; have hl1 := hx1.heap Hl0.out; have hp1 := hx1.heap Hp0.out; have hy1 := Hx0.out.trans hx1; have Hb1 := Lib.hid hb1; have Hc1 := Lib.hid hc1; have Hm1 := Lib.hid hm1; have Hl1 := Lib.hid hl1; have Hp1 := Lib.hid hp1; have Hy1 := Lib.hid hy1; clear hb1 hc1 hm1 hl1 hp1 hy1)
    | (refine wpList_load_row rfl 25 (.tmp 8) rfl w.heap.size rfl 25 _ (0, 0) _ Hb1.out Try.underlying25 rfl (by kernel_rfl) ?_)
    | (refine wpList_load_row rfl 27 (.tmp 9) rfl (w.heap.size + 1) rfl 27 _ (0, 0) _ Hc1.out Try.underlying27 rfl (by kernel_rfl) ?_)
    | (go_at_call 9; refine (Hck.out _).mono ?_; rintro e v2 ⟨rfl, hx2⟩; have hm2 := hx2.heap Hm1.out; have hl2 := hx2.heap Hl1.out; have hp2 := hx2.heap Hp1.out; have hy2 := Hy1.out.trans hx2; obtain ⟨zm, _⟩ := (Ext.refl v2).box hm2; have Hm2 := Lib.hid hm2; have Hl2 := Lib.hid hl2; have Hp2 := Lib.hid hp2; have Hy2 := Lib.hid hy2; clear hm2 hl2 hp2 hy2)
    | (go_at_call 10; refine (Hmk.out _).mono ?_; rintro e v3 ⟨rfl, hx3⟩; have hl3 := hx3.heap Hl2.out; have hp3 := hx3.heap Hp2.out; have hy3 := Hy2.out.trans hx3; clear zm; obtain ⟨zl, _⟩ := (Ext.refl v3).box hl3; have Hl3 := Lib.hid hl3; have Hp3 := Lib.hid hp3; have Hy3 := Lib.hid hy3; clear hl3 hp3 hy3)
    | (refine wpList_load_row rfl 33 (.tmp 11) rfl (w.heap.size + 1 + 1 + 1) rfl 33 _ (0, 0) _ Hl4.out Try.underlying33 rfl (by kernel_rfl) ?_)
    | (go_at_call 11; refine (Hgr.out _ Hy3.out).mono ?_; rintro e v4 ⟨rfl, hx4⟩; have hl4 := hx4.heap Hl3.out; have hp4 := hx4.heap Hp3.out; have hy4 := Hy3.out.trans hx4; clear zl; have Hl4 := Lib.hid hl4; have Hp4 := Lib.hid hp4; have Hy4 := Lib.hid hy4; clear hl4 hp4 hy4))
    go_ret
    exact ⟨rfl, Hy4.out⟩
  have hlB : decide (24 < (gn : Int)) = false := by simp; omega
  have hgn : gn ≤ 24 := by omega
  clear hlen
  have hwk' := fun W hW => Hwk.out W hW rfl
  have hcs' := Hcs.out
  unfold WalkPost at hwk'
  obtain ⟨R, hR⟩ : ∃ R, walkOf ⟨ws, ls⟩ ⟨p0, p1⟩ frw day gs = R := ⟨_, rfl⟩
  rw [hR] at hcs'
  simp only [hR] at hwk'
  clear hR Hwk Hcs
  obtain ⟨ss, ia, er⟩ := R
  simp only at hcs' hwk'
  rcases hcs' with ⟨hr1, hr2⟩ | ⟨hr1, hr2, hr3, hr4⟩
  · subst hr2
    have hrB : (er != 0) = true := by simpa using hr1
    clear hr1
    have Hwk' := Lib.hid hwk'
    clear hwk'
    go_enter Try.func3, Try.ntmps3
    go_wp2_with (first
    | (go_at_call 8; refine (alive03_any _).mono ?_; rintro e v1 ⟨rfl, hx1⟩; have hb1 := hx1.heap Hb0.out; have hc1 := hx1.heap Hc0.out; have hm1 := hx1.heap Hm0.out; have hl1 := hx1.heap Hl0.out; have hp1 := hx1.heap Hp0.out; have hy1 := Hx0.out.trans hx1; have Hb1 := Lib.hid hb1; have Hc1 := Lib.hid hc1; have Hm1 := Lib.hid hm1; have Hl1 := Lib.hid hl1; have Hp1 := Lib.hid hp1; have Hy1 := Lib.hid hy1; clear hb1 hc1 hm1 hl1 hp1 hy1)
    | (refine wpList_load_row rfl 25 (.tmp 8) rfl w.heap.size rfl 25 _ (0, 0) _ Hb1.out Try.underlying25 rfl (by kernel_rfl) ?_)
    | (refine wpList_load_row rfl 27 (.tmp 9) rfl (w.heap.size + 1) rfl 27 _ (0, 0) _ Hc1.out Try.underlying27 rfl (by kernel_rfl) ?_)
    | (go_at_call 9; refine (Hck.out _).mono ?_; rintro e v2 ⟨rfl, hx2⟩; have hm2 := hx2.heap Hm1.out; have hl2 := hx2.heap Hl1.out; have hp2 := hx2.heap Hp1.out; have hy2 := Hy1.out.trans hx2; obtain ⟨zm, _⟩ := (Ext.refl v2).box hm2; have Hm2 := Lib.hid hm2; have Hl2 := Lib.hid hl2; have Hp2 := Lib.hid hp2; have Hy2 := Lib.hid hy2; clear hm2 hl2 hp2 hy2)
    | (go_at_call 10; refine (Hmk.out _).mono ?_; rintro e v3 ⟨rfl, hx3⟩; have hl3 := hx3.heap Hl2.out; have hp3 := hx3.heap Hp2.out; have hy3 := Hy2.out.trans hx3; clear zm; obtain ⟨zl, _⟩ := (Ext.refl v3).box hl3; have Hl3 := Lib.hid hl3; have Hp3 := Lib.hid hp3; have Hy3 := Lib.hid hy3; clear hl3 hp3 hy3)
    | (refine wpList_load_row rfl 33 (.tmp 11) rfl (w.heap.size + 1 + 1 + 1) rfl 33 _ (0, 0) _ Hl4.out Try.underlying33 rfl (by kernel_rfl) ?_)
    | (go_at_call 11; refine (Hgr.out _ Hy3.out).mono ?_; rintro e v4 ⟨rfl, hx4⟩; have hl4 := hx4.heap Hl3.out; have hp4 := hx4.heap Hp3.out; have hy4 := Hy3.out.trans hx4; clear zl; have Hl4 := Lib.hid hl4; have Hp4 := Lib.hid hp4; have Hy4 := Lib.hid hy4; clear hl4 hp4 hy4)
    | (refine wpList_load_row rfl 23 (.tmp 14) rfl (w.heap.size + 1 + 1 + 1 + 1) rfl 23 _ (0, 0) _ Hp4.out Try.underlying23 rfl (by kernel_rfl) ?_)
    | (go_at_call 12; refine (Hwk'.out _ Hy4.out).mono ?_; rintro e v5 ⟨sa, sc, rfl, hsf, hsc, hsm, hst, hx5⟩; have hy5 := Hy4.out.trans hx5))
    go_ret
    exact ⟨rfl, hy5⟩
  have hrB : (er != 0) = false := by simpa using hr1
  rw [hgl] at hr3
  rw [hr3] at hwk'
  have hnB : ((gn : Int) != (gn : Int)) = false := by simp
  have Hwk' := Lib.hid hwk'
  have Hr1 := Lib.hid hr1
  have Hr2 := Lib.hid hr2
  have Hr4 := Lib.hid hr4
  clear hwk' hr1 hr2 hr4
  go_enter Try.func3, Try.ntmps3
  go_upto_if 65 with (first
    | (go_at_call 8; refine (alive03_any _).mono ?_; rintro e v1 ⟨rfl, hx1⟩; have hb1 := hx1.heap Hb0.out; have hc1 := hx1.heap Hc0.out; have hm1 := hx1.heap Hm0.out; have hl1 := hx1.heap Hl0.out; have hp1 := hx1.heap Hp0.out; have hy1 := Hx0.out.trans hx1; have Hb1 := Lib.hid hb1; have Hc1 := Lib.hid hc1; have Hm1 := Lib.hid hm1; have Hl1 := Lib.hid hl1; have Hp1 := Lib.hid hp1; have Hy1 := Lib.hid hy1; clear hb1 hc1 hm1 hl1 hp1 hy1)
    | (refine wpList_load_row rfl 25 (.tmp 8) rfl w.heap.size rfl 25 _ (0, 0) _ Hb1.out Try.underlying25 rfl (by kernel_rfl) ?_)
    | (refine wpList_load_row rfl 27 (.tmp 9) rfl (w.heap.size + 1) rfl 27 _ (0, 0) _ Hc1.out Try.underlying27 rfl (by kernel_rfl) ?_)
    | (go_at_call 9; refine (Hck.out _).mono ?_; rintro e v2 ⟨rfl, hx2⟩; have hm2 := hx2.heap Hm1.out; have hl2 := hx2.heap Hl1.out; have hp2 := hx2.heap Hp1.out; have hy2 := Hy1.out.trans hx2; obtain ⟨zm, _⟩ := (Ext.refl v2).box hm2; have Hm2 := Lib.hid hm2; have Hl2 := Lib.hid hl2; have Hp2 := Lib.hid hp2; have Hy2 := Lib.hid hy2; clear hm2 hl2 hp2 hy2)
    | (go_at_call 10; refine (Hmk.out _).mono ?_; rintro e v3 ⟨rfl, hx3⟩; have hl3 := hx3.heap Hl2.out; have hp3 := hx3.heap Hp2.out; have hy3 := Hy2.out.trans hx3; clear zm; obtain ⟨zl, _⟩ := (Ext.refl v3).box hl3; have Hl3 := Lib.hid hl3; have Hp3 := Lib.hid hp3; have Hy3 := Lib.hid hy3; clear hl3 hp3 hy3)
    | (refine wpList_load_row rfl 33 (.tmp 11) rfl (w.heap.size + 1 + 1 + 1) rfl 33 _ (0, 0) _ Hl4.out Try.underlying33 rfl (by kernel_rfl) ?_)
    | (go_at_call 11; refine (Hgr.out _ Hy3.out).mono ?_; rintro e v4 ⟨rfl, hx4⟩; have hl4 := hx4.heap Hl3.out; have hp4 := hx4.heap Hp3.out; have hy4 := Hy3.out.trans hx4; clear zl; have Hl4 := Lib.hid hl4; have Hp4 := Lib.hid hp4; have Hy4 := Lib.hid hy4; clear hl4 hp4 hy4)
    | (refine wpList_load_row rfl 23 (.tmp 14) rfl (w.heap.size + 1 + 1 + 1 + 1) rfl 23 _ (0, 0) _ Hp4.out Try.underlying23 rfl (by kernel_rfl) ?_)
    | (go_at_call 12; refine (Hwk'.out _ Hy4.out).mono ?_; rintro e v5 ⟨sa, sc, rfl, hsf, hsc, hsm, hst, hx5⟩; have hy5 := Hy4.out.trans hx5))
  have hx15 := ((hx2.trans hx3).trans hx4).trans hx5
  have hb5 := hx15.heap Hb1.out
  have hc5 := hx15.heap Hc1.out
  have hm5 := hx15.heap (hx1.heap Hm0.out)
  have hl5 := hx5.heap Hl4.out
  have hp5 := hx5.heap Hp4.out
  have hlt5 := heap_lt hp5
  have hpf : ∀ x, sa = some x → x.block ≠ w.heap.size + 1 := fun x hx e => by have := hsf x hx; have := heap_lt Hp4.out; omega
  have hLA := fun W (hW : Ext w W) => Hla.out (by first | rfl | trivial) W hW
  have Hb5 := Lib.hid hb5
  have Hc5 := Lib.hid hc5
  have Hm5 := Lib.hid hm5
  have Hl5 := Lib.hid hl5
  have Hp5 := Lib.hid hp5
  have Hst := Lib.hid hst
  have Hy5 := Lib.hid hy5
  have Hpf := Lib.hid hpf
  have HLA := Lib.hid hLA
  clear hb5 hc5 hm5 hl5 hp5 hst hy5 hpf hLA
  clear hx15 hx1 hx2 hx3 hx4 hx5 hsf Hb1 Hc1 Hm1 Hl1 Hp1 Hy1 Hm2 Hl2 Hp2 Hy2 Hl3 Hp3 Hy3 Hl4 Hp4 Hy4 Hx0 Hb0 Hc0 Hm0 Hl0 Hp0 hW0 Hck Hmk Hgr
  iterate 4 go_step
  exact stageTail ⟨fu, fe, ⟨r0, r1⟩, ⟨h0, h1⟩, ⟨t0, t1⟩, ⟨b0, b1⟩, ⟨u0, u1⟩, ⟨m0, m1⟩, hz, ⟨s0, s1⟩⟩ ⟨⟨w0, w1⟩, ⟨k0, k1⟩, ⟨o0, o1⟩, mk⟩ ⟨hh, ld, ⟨e0, e1⟩, ⟨g0, g1⟩, ⟨d0, d1⟩⟩ ⟨ws, ls⟩ ⟨p0, p1⟩ ss Hy5.out Hb5.out Hc5.out Hm5.out Hl5.out Hp5.out HLA.out Hst.out Hpf.out hsc (by unfold maxLen; exact hsm) hgn (by have := Hbo0.out; rw [Hs'.out, Hc'.out] at this; exact (camelErr_zero this).1) (by have := Hbo0.out; rw [Hs'.out, Hc'.out] at this; exact (camelErr_zero this).2) (by have := HD.out; rw [Hm'.out] at this; exact this) Hr2.out Hr4.out
end Go.Proofs.Ytcoelhpmkhimpaa
