/- Contracts: whether a well is valid (dug, Check$1). -/
import Derived.Test.YtcoelhpmkhimpaaGreatDoorFromTo
namespace Go.Proofs.YtcoelhpmkhimpaaGreatDoor
open Go.RowKit
set_option linter.unusedVariables false
set_option linter.unusedSimpArgs false

set_option maxRecDepth 100000 in
set_option maxHeartbeats 4000000 in
theorem dug_any (s : Well) (w : World) : Calls Tryz.prog 103 #[s.val] w fun e w' => e = .returned (.bool (wellOk s)) ∧ Ext w w' := by
  obtain ⟨x, y, d, ⟨y0, y1⟩, rm, ⟨h0, h1⟩, ow⟩ := s
  obtain ⟨P1, e1⟩ : ∃ P, (inB x (-10000000) 10000000 && inB y (-10000000) 10000000) = P := ⟨_, rfl⟩
  obtain ⟨P2, e2⟩ : ∃ P, inB d 0 200 = P := ⟨_, rfl⟩
  obtain ⟨P3, e3⟩ : ∃ P, spanOk ⟨y0, y1⟩ 0 10000000 = P := ⟨_, rfl⟩
  obtain ⟨P4, e4⟩ : ∃ P, inB rm 0 1000000000 = P := ⟨_, rfl⟩
  obtain ⟨P5, e5⟩ : ∃ P, spanOk ⟨h0, h1⟩ 0 rm = P := ⟨_, rfl⟩
  obtain ⟨P6, e6⟩ : ∃ P, inB ow 0 9999 = P := ⟨_, rfl⟩
  have hv : wellOk ⟨x, y, d, ⟨y0, y1⟩, rm, ⟨h0, h1⟩, ow⟩ = (P1 && P2 && P3 && P4 && P5 && P6) := by
    unfold wellOk
    simp only
    rw [e1, e2, e3, e4, e5, e6]
  rw [hv]
  clear hv
  unfold Well.val
  simp only
  have hbx := heap_alloc_new w (.cells #[.int .i64 x, .int .i64 y, .int .i64 d, .int .i64 y0, .int .i64 y1, .int .i64 rm, .int .i64 h0, .int .i64 h1, .int .i64 ow] 135)
  have hxa : Ext w (w.alloc (.cells #[.int .i64 x, .int .i64 y, .int .i64 d, .int .i64 y0, .int .i64 y1, .int .i64 rm, .int .i64 h0, .int .i64 h1, .int .i64 ow] 135)) := (Ext.refl _).alloc _
  obtain ⟨f0, _⟩ := (Ext.refl _).box hbx
  have E1 := Lib.hid e1
  have E2 := Lib.hid e2
  have E3 := Lib.hid e3
  have E4 := Lib.hid e4
  have E5 := Lib.hid e5
  have E6 := Lib.hid e6
  clear e1 e2 e3 e4 e5 e6
  have gg1 := trivial
  cases P1
  rotate_left
  cases P2
  rotate_left
  cases P3
  rotate_left
  cases P4
  rotate_left
  cases P5
  rotate_left
  cases P6
  all_goals
    go_enter Tryz.func103, Tryz.ntmps103
    go_wp2_with (first | (go_at_call 77; first | (have q := gg1; clear q gg1; refine (fromW2 (alloc_at _ _ _ (by simp)) E1.out).mono ?_; rintro e w1 ⟨rfl, hx1⟩; replace hbx := hx1.heap (((Ext.refl _).alloc _).heap hbx); replace hxa := (hxa.alloc _).trans hx1; clear hx1 f0; obtain ⟨f0, _⟩ := (Ext.refl _).box hbx) | (refine (fromW1 (alloc_at _ _ _ (by simp)) (by first | exact E2.out | exact E4.out | exact E6.out)).mono ?_; rintro e w1 ⟨rfl, hx1⟩; replace hbx := hx1.heap (((Ext.refl _).alloc _).heap hbx); replace hxa := (hxa.alloc _).trans hx1; clear hx1 f0; obtain ⟨f0, _⟩ := (Ext.refl _).box hbx)) | (go_at_call 126; refine (ordW1 (alloc_at _ _ _ (by simp)) (by first | exact E3.out | exact E5.out)).mono ?_; rintro e w1 ⟨rfl, hx1⟩; replace hbx := hx1.heap (((Ext.refl _).alloc _).heap hbx); replace hxa := (hxa.alloc _).trans hx1; clear hx1 f0; obtain ⟨f0, _⟩ := (Ext.refl _).box hbx))
    go_ret
    exact ⟨rfl, hxa⟩
/-- Check$1 -/
theorem undug_any (s : Well) (w : World) : Calls Tryz.prog 102 #[s.val] w fun e w' => e = .returned (.bool (!wellOk s)) ∧ Ext w w' := by
  have hc := fun W => dug_any s W
  obtain ⟨P, hP⟩ : ∃ P, wellOk s = P := ⟨_, rfl⟩
  rw [hP] at hc ⊢
  clear hP
  obtain ⟨x, y, d, ⟨y0, y1⟩, rm, ⟨h0, h1⟩, ow⟩ := s
  unfold Well.val at *
  simp only at *
  have Hc := Lib.hid hc
  clear hc
  go_enter Tryz.func102, Tryz.ntmps102
  go_wp2_with (go_at_call 103; refine (Hc.out _).mono ?_; rintro e w1 ⟨rfl, hx1⟩)
  go_ret
  exact ⟨rfl, ((Ext.refl _).alloc _).trans hx1⟩
end Go.Proofs.YtcoelhpmkhimpaaGreatDoor
