/- The reference: small functions. -/
import Derived.Test.YtacdndehlkaaeaaSee
namespace Go.Proofs.Ytacdndehlkaaeaa
open Go.RowKit
set_option linter.unusedVariables false
set_option linter.unusedSimpArgs false
theorem within_any (x lo hi : Int) (w : World) : Calls Try.prog 75 #[.int .i64 x, .int .i64 lo, .int .i64 hi] w fun e w' => e = .returned (.bool (inB x lo hi)) ∧ w' = w := by
  unfold inB
  by_cases h1 : lo ≤ x
  · have b1 : decide (lo ≤ x) = true := decide_eq_true h1
    go_enter Try.func75, Try.ntmps75
    go_wp2_with fail
    go_ret
    exact ⟨ret_bool (by first | rfl | (rw [b1]; rfl)), rfl⟩
  · have b1 : decide (lo ≤ x) = false := decide_eq_false h1
    go_enter Try.func75, Try.ntmps75
    go_wp2_with fail
    go_ret
    exact ⟨ret_bool (by first | rfl | (rw [b1]; rfl)), rfl⟩
theorem course_any (a b : Int) (w : World) : Calls Try.prog 76 #[.agg #[.int .i64 a, .int .i64 b]] w fun e w' => e = .returned (.bool (partOk a && partOk b)) ∧ Ext w w' := by
  have h1 := fun W => within_any a (-1000) 1000 W
  have h2 := fun W => within_any b (-1000) 1000 W
  unfold partOk
  generalize inB b (-1000) 1000 = B at *
  cases hA : inB a (-1000) 1000 with
  | true =>
    rw [hA] at h1
    have H1 := Lib.hid h1
    have H2 := Lib.hid h2
    clear h1 h2
    clear hA
    go_enter Try.func76, Try.ntmps76
    go_wp2_with (first | (go_at_call 75; refine (H1.out _).mono ?_; rintro e w1 ⟨rfl, rfl⟩; clear H1) | (go_at_call 75; refine (H2.out _).mono ?_; rintro e w1 ⟨rfl, rfl⟩))
    go_ret
    exact ⟨rfl, (Ext.refl _).alloc _⟩
  | false =>
    rw [hA] at h1
    have H1 := Lib.hid h1
    have H2 := Lib.hid h2
    clear h1 h2
    clear hA
    go_enter Try.func76, Try.ntmps76
    go_wp2_with (go_at_call 75; refine (H1.out _).mono ?_; rintro e w1 ⟨rfl, rfl⟩; clear H1)
    go_ret
    exact ⟨rfl, (Ext.refl _).alloc _⟩
theorem spanned_any (s : Span) (lo hi : Int) (w : World) : Calls Try.prog 59 #[s.val, .int .i64 lo, .int .i64 hi] w fun e w' => e = .returned (.bool (spanOk s lo hi)) ∧ Ext w w' := by
  obtain ⟨x, y⟩ := s
  have h1 := fun W => within_any x lo y W
  have hr : spanOk ⟨x, y⟩ lo hi = (inB x lo y && decide (y ≤ hi)) := rfl
  rw [hr]
  unfold Span.val
  cases hA : inB x lo y with
  | true =>
    rw [hA] at h1
    have H1 := Lib.hid h1
    clear h1
    clear hA hr
    go_enter Try.func59, Try.ntmps59
    go_wp2_with (go_at_call 75; refine (H1.out _).mono ?_; rintro e w1 ⟨rfl, rfl⟩; clear H1)
    go_ret
    exact ⟨rfl, (Ext.refl _).alloc _⟩
  | false =>
    rw [hA] at h1
    have H1 := Lib.hid h1
    clear h1
    clear hA hr
    go_enter Try.func59, Try.ntmps59
    go_wp2_with (go_at_call 75; refine (H1.out _).mono ?_; rintro e w1 ⟨rfl, rfl⟩; clear H1)
    go_ret
    exact ⟨rfl, (Ext.refl _).alloc _⟩
theorem great_any (a : Option Addr) (len cap : Nat) (w : World) : Calls Try.prog 14 #[.agg #[.slice a len cap]] w fun e w' => e = .returned (.bool (decide (60 < len))) ∧ Ext w w' := by
  have hd : decide ((60 : Int) < (len : Int)) = decide (60 < len) := by simp; omega
  go_enter Try.func14, Try.ntmps14
  go_wp2_with fail
  go_ret
  exact ⟨ret_bool (by first | rfl | exact hd), (Ext.refl _).alloc _⟩
theorem nearRef_any (x y far : Int) (w : World) (h : NearOk x y far) : Calls Try.prog 80 #[.int .i64 x, .int .i64 y, .int .i64 far] w (OwnHalves (around x y far) w) := by
  obtain ⟨x0, x1, y0, y1, f0, f1⟩ := h
  have e : around x y far = [⟨1, 0, x + far⟩, ⟨-1, 0, far - x⟩, ⟨0, 1, y + far⟩, ⟨0, -1, far - y⟩] := by
    unfold around box
    simp only [List.cons.injEq, Half.mk.injEq, and_true, true_and]
    omega
  rw [e]
  clear e
  go_enter Try.func80, Try.ntmps80
  go_wp2_with fail
  go_ret
  refine ⟨_, _, rfl, (show 4 ≤ 4 from Nat.le_refl 4), (show 4 ≤ maxLen by decide), ?_, halves_block [⟨1, 0, x + far⟩, ⟨-1, 0, far - x⟩, ⟨0, 1, y + far⟩, ⟨0, -1, far - y⟩] (alloc_at _ _ _ (by simp)), fun x hx => by cases hx; simp⟩
  repeat (first | exact Ext.refl _ | refine Ext.alloc ?_ _ | refine Ext.setCell ?_ (by first | (simp; done) | (simp; omega)) _ | refine Ext.drew ?_)
set_option maxRecDepth 100000 in
set_option maxHeartbeats 4000000 in
theorem joined_any (a : Option Addr) (len cap : Nat) (l : List Half) (b : Option Addr) (m mc : Nat) (M : List Half) (w : World) (hl : HalvesAt w a len l) (hM : HalvesAt w b m M) (hlen : len ≤ 100000) (hm : m ≤ 100000) : Calls Try.prog 50 #[.slice a len cap, .slice b m mc] w (OwnHalves (l ++ M) w) := by
  have hll := hl.1
  have hml := hM.1
  have hrl : (halfRows l).length = len := by rw [halfRows_len]; exact hll
  have hrm : (halfRows M).length = m := by rw [halfRows_len]; exact hml
  have hsl : SlAt w 3 a len (fun k => (halfRows l).getD k []) := hl.src
  have Hrl := Lib.hid hrl
  have Hrm := Lib.hid hrm
  have Hsl := Lib.hid hsl
  have HM := Lib.hid hM
  have Hl := Lib.hid hl
  clear hrl hrm hsl hM hl
  go_enter Try.func50, Try.ntmps50
  go_wp2_with (at_builtin; refine wpList_app elem22 _ rfl (.tmp 5) (.tmp 6) rfl w.heap.size _ (halfRows []) rfl (Owns.empty' (alloc_at _ _ _ rfl) (Nat.le_refl _) rfl (by decide)) a len cap (halfRows l) rfl Hrl.out (Hsl.out.ext ((Ext.refl _).alloc _)) (halfRows_row _) ?_ ?_ ?_)
  · show 0 + len ≤ 1000000000
    omega
  · simp
  intro v4 w4 ho4 hg4 _
  rw [show halfRows [] ++ halfRows l = halfRows l from rfl] at ho4
  have hx4 : Ext w w4 := ((Ext.refl w).alloc _).app (Owns.empty' (sz := 3) (cap := 0) (alloc_at _ _ _ rfl) (Nat.le_refl _) rfl (by decide)) hg4
  obtain ⟨va4, vc4, hv4, _, _, _, _⟩ := ho4.slAt
  subst hv4
  have hM4 := (HM.out.ext hx4).src
  have Ho4 := Lib.hid ho4
  have Hx4 := Lib.hid hx4
  have HM4 := Lib.hid hM4
  clear ho4 hx4 hM4
  clear hg4
  go_wp2_with (at_builtin; refine wpList_app elem22 _ rfl (.tmp 7) (.tmp 8) rfl w.heap.size _ (halfRows l) rfl Ho4.out b m mc (halfRows M) rfl Hrm.out HM4.out (halfRows_row _) ?_ ?_ ?_)
  · rw [Hrl.out]
    omega
  · exact Hx4.out.size
  intro v5 w5 ho5 hg5 _
  rw [← halfRows_append] at ho5
  have hx5 := Hx4.out.app Ho4.out hg5
  obtain ⟨a5, c5, hv5, hf5, hc5, hm5, hM5⟩ := halves_of_owns ho5
  obtain ⟨N, hN⟩ : ∃ N, (l ++ M).length = N := ⟨_, rfl⟩
  rw [hN] at hv5 hc5 hM5
  subst hv5
  have Ho5 := Lib.hid ho5
  have HM5 := Lib.hid hM5
  have Hx5 := Lib.hid hx5
  have HN := Lib.hid hN
  clear ho5 hM5 hx5 hN
  clear hg5
  go_wp2_with fail
  go_ret
  unfold OwnHalves
  rw [HN.out]
  exact ⟨_, _, rfl, hc5, hm5, Hx5.out, HM5.out, hf5⟩
set_option maxRecDepth 100000 in
theorem twin_any (a : Option Addr) (len cap : Nat) (l : List Half) (w : World) (hl : HalvesAt w a len l) (hlen : len ≤ 100000) : Calls Try.prog 15 #[.agg #[.slice a len cap]] w fun e w' => ∃ b c, e = .returned (.agg #[.slice b len c]) ∧ len ≤ c ∧ c ≤ maxLen ∧ Ext w w' ∧ HalvesAt w' b len l ∧ From w.heap.size b := by
  have hj := fun W (hW : Ext w W) => joined_any a len cap l none 0 0 [] W (hl.ext hW) ⟨rfl, fun h => absurd h (by simp)⟩ hlen (by omega)
  rw [List.append_nil] at hj
  have hll := hl.1
  unfold OwnHalves at hj
  rw [hll] at hj
  have Hj := Lib.hid hj
  clear hj
  clear hl
  go_enter Try.func15, Try.ntmps15
  go_wp2_with (go_at_call 50; refine (Hj.out _ (((Ext.refl _).alloc _).alloc _)).mono ?_; rintro e w1 ⟨b, c, rfl, h1, h2, h3, h4, h5⟩; have hr1 := h3.heap (alloc_at (w.alloc (.cells #[.slice a len cap] 24)) (.cells #[.slice none 0 0] 24) (w.heap.size + 1) (by simp)); have hlr := heap_lt hr1; obtain ⟨f0, _⟩ := (Ext.refl w1).box hr1)
  refine bodyPost_ret (results_cell_row rfl _ _ (w.heap.size + 1) 24 #[.slice b len c] (0, 0) _ rfl (by simp only [heap_setCell_box, hr1, Option.map_some, setIn_cells, List.setIfInBounds_toArray, List.set_cons_zero, List.set_cons_succ]) Try.underlying24 rfl (by kernel_rfl)) rfl ?_
  refine ⟨_, _, rfl, h1, h2, ((((Ext.refl _).alloc _).alloc _).trans h3).setCell (p := ⟨w.heap.size + 1, 0, none⟩) (by simp only; omega) _, h4.same fun X hX => Below.heap_setCell _ _ _ _ ?_, fun X hX => ?_⟩
  · have := h5 X hX
    simp at this
    simp only
    omega
  · have := h5 X hX
    simp at this
    omega
end Go.Proofs.Ytacdndehlkaaeaa
