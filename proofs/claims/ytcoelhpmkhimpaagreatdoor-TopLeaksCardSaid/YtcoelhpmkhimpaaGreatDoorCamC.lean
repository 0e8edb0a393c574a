/- Contracts: whether a breed, an animal, days are valid (CheckBreed, CheckCamel, checkDays, check). -/
import Derived.Test.YtcoelhpmkhimpaaGreatDoorFromTo
namespace Go.Proofs.YtcoelhpmkhimpaaGreatDoor
open Go.RowKit
set_option linter.unusedVariables false
set_option linter.unusedSimpArgs false
theorem ordC6 {lo hi a0 a1 b0 b1 c0 c1 d0 d1 e0 e1 g0 g1 : Int} {r : Bool} {w : World} {b : Nat} (hb : w.heap[b]? = some (.cells #[.int .i64 a0, .int .i64 a1, .int .i64 b0, .int .i64 b1, .int .i64 c0, .int .i64 c1, .int .i64 d0, .int .i64 d1, .int .i64 e0, .int .i64 e1, .int .i64 g0, .int .i64 g1] 23 (0, 0)))
    (hr : (spanOk ⟨a0, a1⟩ lo hi && spanOk ⟨b0, b1⟩ lo hi && spanOk ⟨c0, c1⟩ lo hi && spanOk ⟨d0, d1⟩ lo hi && spanOk ⟨e0, e1⟩ lo hi && spanOk ⟨g0, g1⟩ lo hi) = r) : Calls Tryz.prog 68 #[.int .i64 lo, .int .i64 hi, .slice (some ⟨b, 0, none⟩) 6 6] w fun e w' => e = .returned (.bool r) ∧ Ext w w' := by
  have := ordC_any lo hi (some ⟨b, 0, none⟩) 6 6 [⟨a0, a1⟩, ⟨b0, b1⟩, ⟨c0, c1⟩, ⟨d0, d1⟩, ⟨e0, e1⟩, ⟨g0, g1⟩] w (spans_built (l := [⟨a0, a1⟩, ⟨b0, b1⟩, ⟨c0, c1⟩, ⟨d0, d1⟩, ⟨e0, e1⟩, ⟨g0, g1⟩]) hb) (by omega)
  subst hr
  simpa [Bool.and_assoc] using this
def breedErr (b : Breed) : Int := if breedOk b then 0 else 10
def camelErr (b : Breed) (c : Camel) : Int := if breedOk b then (if camelOk b c then 0 else 11) else 10
set_option maxHeartbeats 8000000 in
set_option maxRecDepth 100000 in
theorem checkBreed_any (s : Breed) (w : World) : Calls Tryz.prog 67 #[s.val] w fun e w' => e = .returned (.int .i64 (breedErr s)) ∧ Ext w w' := by
  obtain ⟨fu, fe, ⟨r0, r1⟩, ⟨h0, h1⟩, ⟨t0, t1⟩, ⟨b0, b1⟩, ⟨u0, u1⟩, ⟨m0, m1⟩, hl, ⟨s0, s1⟩⟩ := s
  obtain ⟨P1, e1⟩ : ∃ P, (inB fu 1 1000000 && inB fe 1 1000000) = P := ⟨_, rfl⟩
  obtain ⟨P2, e2⟩ : ∃ P, (spanOk ⟨r0, r1⟩ 0 100000 && spanOk ⟨h0, h1⟩ 0 100000 && spanOk ⟨t0, t1⟩ 0 100000 && spanOk ⟨b0, b1⟩ 0 100000 && spanOk ⟨u0, u1⟩ 0 100000 && spanOk ⟨m0, m1⟩ 0 100000) = P := ⟨_, rfl⟩
  obtain ⟨P3, e3⟩ : ∃ P, spanOk ⟨s0, s1⟩ 0 1000000 = P := ⟨_, rfl⟩
  obtain ⟨P4, e4⟩ : ∃ P, inB hl 0 1000 = P := ⟨_, rfl⟩
  have hv : breedErr ⟨fu, fe, ⟨r0, r1⟩, ⟨h0, h1⟩, ⟨t0, t1⟩, ⟨b0, b1⟩, ⟨u0, u1⟩, ⟨m0, m1⟩, hl, ⟨s0, s1⟩⟩ = if (P1 && P4 && P3 && P2) then 0 else 10 := by
    unfold breedErr breedOk rateOk
    simp only
    rw [e1, e2, e3, e4]
  rw [hv]
  clear hv
  unfold Breed.val
  simp only
  have hbx := heap_alloc_new w (.cells #[.int .i64 fu, .int .i64 fe, .int .i64 r0, .int .i64 r1, .int .i64 h0, .int .i64 h1, .int .i64 t0, .int .i64 t1, .int .i64 b0, .int .i64 b1, .int .i64 u0, .int .i64 u1, .int .i64 m0, .int .i64 m1, .int .i64 hl, .int .i64 s0, .int .i64 s1] 25)
  have hxa : Ext w (w.alloc (.cells #[.int .i64 fu, .int .i64 fe, .int .i64 r0, .int .i64 r1, .int .i64 h0, .int .i64 h1, .int .i64 t0, .int .i64 t1, .int .i64 b0, .int .i64 b1, .int .i64 u0, .int .i64 u1, .int .i64 m0, .int .i64 m1, .int .i64 hl, .int .i64 s0, .int .i64 s1] 25)) := (Ext.refl _).alloc _
  obtain ⟨f0, _⟩ := (Ext.refl _).box hbx
  have E1 := Lib.hid e1
  have E2 := Lib.hid e2
  have E3 := Lib.hid e3
  have E4 := Lib.hid e4
  clear e1 e2 e3 e4
  have gg1 := trivial
  have gg2 := trivial
  cases P1
  rotate_left
  cases P2
  rotate_left
  cases P3
  rotate_left
  cases P4
  all_goals
    simp only [Bool.and_false, Bool.false_and, Bool.and_true, Bool.true_and, if_true, Bool.false_eq_true, if_false]
    go_enter Tryz.func67, Tryz.ntmps67
    go_wp2_with (first | (go_at_call 98; first | (have q := gg1; clear q gg1; refine (fromC2 (alloc_at _ _ _ (by simp)) E1.out).mono ?_; rintro e w1 ⟨rfl, hx1⟩; replace hbx := hx1.heap (((Ext.refl _).alloc _).heap hbx); replace hxa := (hxa.alloc _).trans hx1; clear hx1 f0; obtain ⟨f0, _⟩ := (Ext.refl _).box hbx) | (refine (fromC1 (alloc_at _ _ _ (by simp)) E4.out).mono ?_; rintro e w1 ⟨rfl, hx1⟩; replace hxa := (hxa.alloc _).trans hx1)) | (go_at_call 68; first | (have q := gg2; clear q gg2; refine (ordC6 (alloc_at _ _ _ (by simp)) E2.out).mono ?_; rintro e w1 ⟨rfl, hx1⟩; replace hbx := hx1.heap (((Ext.refl _).alloc _).heap hbx); replace hxa := (hxa.alloc _).trans hx1; clear hx1 f0; obtain ⟨f0, _⟩ := (Ext.refl _).box hbx) | (refine (ordC1 (alloc_at _ _ _ (by simp)) E3.out).mono ?_; rintro e w1 ⟨rfl, hx1⟩; replace hbx := hx1.heap (((Ext.refl _).alloc _).heap hbx); replace hxa := (hxa.alloc _).trans hx1; clear hx1 f0; obtain ⟨f0, _⟩ := (Ext.refl _).box hbx)))
    go_ret
    exact ⟨rfl, hxa⟩
set_option maxHeartbeats 8000000 in
set_option maxRecDepth 100000 in
theorem checkCamel_any (s : Breed) (c : Camel) (w : World) : Calls Tryz.prog 37 #[s.val, c.val] w fun e w' => e = .returned (.int .i64 (camelErr s c)) ∧ Ext w w' := by
  have hcb := fun W => checkBreed_any s W
  have hce : camelErr s c = if breedOk s then (if camelOk s c then 0 else 11) else 10 := rfl
  have hbe : breedErr s = if breedOk s then 0 else 10 := rfl
  have hco : camelOk s c = (spanOk c.water 0 s.full && spanOk c.fat 0 s.fed && spanOk c.sore 0 1000) := rfl
  obtain ⟨B, hB⟩ : ∃ B, breedOk s = B := ⟨_, rfl⟩
  rw [hB] at hce hbe
  rw [hce]
  clear hce hB
  obtain ⟨fu, fe, ⟨r0, r1⟩, ⟨h0, h1⟩, ⟨t0, t1⟩, ⟨b0, b1⟩, ⟨u0, u1⟩, ⟨m0, m1⟩, hl, ⟨s0, s1⟩⟩ := s
  obtain ⟨⟨w0, w1⟩, ⟨k0, k1⟩, ⟨o0, o1⟩, mk⟩ := c
  simp only at hco
  unfold Breed.val at *
  unfold Camel.val
  simp only at *
  have hb1 := heap_alloc_new w (.cells #[.int .i64 fu, .int .i64 fe, .int .i64 r0, .int .i64 r1, .int .i64 h0, .int .i64 h1, .int .i64 t0, .int .i64 t1, .int .i64 b0, .int .i64 b1, .int .i64 u0, .int .i64 u1, .int .i64 m0, .int .i64 m1, .int .i64 hl, .int .i64 s0, .int .i64 s1] 25)
  have hb2 := heap_alloc_new (w.alloc (.cells #[.int .i64 fu, .int .i64 fe, .int .i64 r0, .int .i64 r1, .int .i64 h0, .int .i64 h1, .int .i64 t0, .int .i64 t1, .int .i64 b0, .int .i64 b1, .int .i64 u0, .int .i64 u1, .int .i64 m0, .int .i64 m1, .int .i64 hl, .int .i64 s0, .int .i64 s1] 25)) (.cells #[.int .i64 w0, .int .i64 w1, .int .i64 k0, .int .i64 k1, .int .i64 o0, .int .i64 o1, .bool mk] 27)
  have hb1' := ((Ext.refl _).alloc (.cells #[.int .i64 w0, .int .i64 w1, .int .i64 k0, .int .i64 k1, .int .i64 o0, .int .i64 o1, .bool mk] 27)).heap hb1
  have hxa : Ext w ((w.alloc (.cells #[.int .i64 fu, .int .i64 fe, .int .i64 r0, .int .i64 r1, .int .i64 h0, .int .i64 h1, .int .i64 t0, .int .i64 t1, .int .i64 b0, .int .i64 b1, .int .i64 u0, .int .i64 u1, .int .i64 m0, .int .i64 m1, .int .i64 hl, .int .i64 s0, .int .i64 s1] 25)).alloc (.cells #[.int .i64 w0, .int .i64 w1, .int .i64 k0, .int .i64 k1, .int .i64 o0, .int .i64 o1, .bool mk] 27)) := ((Ext.refl _).alloc _).alloc _
  rw [show (w.alloc (.cells #[.int .i64 fu, .int .i64 fe, .int .i64 r0, .int .i64 r1, .int .i64 h0, .int .i64 h1, .int .i64 t0, .int .i64 t1, .int .i64 b0, .int .i64 b1, .int .i64 u0, .int .i64 u1, .int .i64 m0, .int .i64 m1, .int .i64 hl, .int .i64 s0, .int .i64 s1] 25)).heap.size = w.heap.size + 1 by simp] at hb2
  obtain ⟨f0, _⟩ := (Ext.refl _).box hb1'
  obtain ⟨f1, _⟩ := (Ext.refl _).box hb2
  clear hb1
  have hb1 := hb1'
  clear hb1'
  obtain ⟨P1, e1⟩ : ∃ P, spanOk ⟨w0, w1⟩ 0 fu = P := ⟨_, rfl⟩
  obtain ⟨P2, e2⟩ : ∃ P, spanOk ⟨k0, k1⟩ 0 fe = P := ⟨_, rfl⟩
  obtain ⟨P3, e3⟩ : ∃ P, spanOk ⟨o0, o1⟩ 0 1000 = P := ⟨_, rfl⟩
  rw [e1, e2, e3] at hco
  rw [hco]
  clear hco
  rw [hbe] at hcb
  clear hbe
  have Hcb := Lib.hid hcb
  have E1 := Lib.hid e1
  have E2 := Lib.hid e2
  have E3 := Lib.hid e3
  clear hcb e1 e2 e3
  cases B
  · simp only [if_neg (by decide : ¬(false = true))] at Hcb ⊢
    go_enter Tryz.func37, Tryz.ntmps37
    go_wp2_with (go_at_call 67; refine (Hcb.out _).mono ?_; rintro e w9 ⟨rfl, hx1⟩; replace hxa := hxa.trans hx1)
    go_ret
    exact ⟨rfl, hxa⟩
  cases P1
  rotate_left
  cases P2
  rotate_left
  cases P3
  all_goals
    simp only [if_pos (rfl : true = true)] at Hcb ⊢
    go_enter Tryz.func37, Tryz.ntmps37
    go_wp2_with (first | (go_at_call 67; refine (Hcb.out _).mono ?_; rintro e w9 ⟨rfl, hx1⟩; replace hb1 := hx1.heap hb1; replace hb2 := hx1.heap hb2; replace hxa := hxa.trans hx1; clear hx1 f0 f1; obtain ⟨f0, _⟩ := (Ext.refl _).box hb1; obtain ⟨f1, _⟩ := (Ext.refl _).box hb2) | (go_at_call 68; refine (ordC1 (alloc_at _ _ _ (by simp)) (by first | exact E1.out | exact E2.out | exact E3.out)).mono ?_; rintro e w9 ⟨rfl, hx1⟩; replace hb1 := hx1.heap (((Ext.refl _).alloc _).heap hb1); replace hb2 := hx1.heap (((Ext.refl _).alloc _).heap hb2); replace hxa := (hxa.alloc _).trans hx1; clear hx1 f0 f1; obtain ⟨f0, _⟩ := (Ext.refl _).box hb1; obtain ⟨f1, _⟩ := (Ext.refl _).box hb2))
    go_ret
    exact ⟨rfl, hxa⟩
end Go.Proofs.YtcoelhpmkhimpaaGreatDoor
