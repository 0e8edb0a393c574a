/- The reference: the halves of a sight. -/
import Derived.Test.YtacdndehlkaaeaaVRefLooks
namespace Go.Proofs.Ytacdndehlkaaeaa
open Go.RowKit
set_option linter.unusedVariables false
set_option linter.unusedSimpArgs false
set_option maxRecDepth 100000 in
theorem rhalves_3 (x y fx fy tx ty nl nh far : Int) (w : World) (h : sightOk ⟨3, x, y, fx, fy, tx, ty, nl, nh, far⟩ = true) : Calls Try.prog 54 #[Sight.val ⟨3, x, y, fx, fy, tx, ty, nl, nh, far⟩] w (OwnHalves (halvesOf ⟨3, x, y, fx, fy, tx, ty, nl, nh, far⟩) w) := by
  have hc : closeB ⟨3, x, y, fx, fy, tx, ty, nl, nh, far⟩ = true := h
  have hn := fun W => nearRef_any x y far W (nearOk_of hc)
  have hh : halvesOf ⟨3, x, y, fx, fy, tx, ty, nl, nh, far⟩ = around x y far := rfl
  rw [hh]
  generalize around x y far = A at *
  unfold Sight.val
  have Hn := Lib.hid hn
  clear hn
  clear h hc hh
  go_enter Try.func54, Try.ntmps54
  go_wp2_with (go_at_call 80; refine (Hn.out _).mono ?_; rintro e w1 ⟨a, c, rfl, h1, h2, h3, h4, h5⟩)
  go_ret
  exact ⟨_, _, rfl, h1, h2, ((Ext.refl _).alloc _).trans h3, h4, fun x hx => Nat.le_trans (by simp) (h5 x hx)⟩
set_option maxRecDepth 100000 in
theorem rhalves_2 (x y fx fy tx ty nl nh far : Int) (w : World) (h : sightOk ⟨2, x, y, fx, fy, tx, ty, nl, nh, far⟩ = true) : Calls Try.prog 54 #[Sight.val ⟨2, x, y, fx, fy, tx, ty, nl, nh, far⟩] w (OwnHalves (halvesOf ⟨2, x, y, fx, fy, tx, ty, nl, nh, far⟩) w) := by
  have hc : spanOk ⟨nl, nh⟩ (-10000000) 10000000 = true := h
  have hh : halvesOf ⟨2, x, y, fx, fy, tx, ty, nl, nh, far⟩ = [⟨0, 1, nh⟩, ⟨0, -1, -nl⟩] := rfl
  rw [hh]
  simp only [spanOk, Bool.and_eq_true, decide_eq_true_eq] at hc
  obtain ⟨⟨c0, c1⟩, c2⟩ := hc
  unfold Sight.val
  clear h hh
  go_enter Try.func54, Try.ntmps54
  go_wp2_with fail
  go_ret
  refine ⟨_, _, rfl, (show 2 ≤ 2 from Nat.le_refl 2), (show 2 ≤ maxLen by decide), ?_, halves_block [⟨0, 1, nh⟩, ⟨0, -1, -nl⟩] (alloc_at _ _ _ (by simp)), fun x hx => by cases hx; simp⟩
  repeat (first | exact Ext.refl _ | refine Ext.alloc ?_ _ | refine Ext.setCell ?_ (by first | (simp; done) | (simp; omega)) _ | refine Ext.drew ?_)
theorem two_boxes (w : World) (a b : Array Value) (s t : TypeId) : Ext w ((w.alloc (.cells a s)).alloc (.cells b t)).drew ∧ ((w.alloc (.cells a s)).alloc (.cells b t)).drew.heap[w.heap.size]? = some (.cells a s (0, 0)) ∧ ((w.alloc (.cells a s)).alloc (.cells b t)).drew.heap[w.heap.size + 1]? = some (.cells b t (0, 0)) :=
  ⟨(((Ext.refl _).alloc _).alloc _).drew, ((Ext.refl _).alloc _).heap (heap_alloc_new w (.cells a s)), alloc_at (w.alloc (.cells a s)) (.cells b t) _ (by simp)⟩
set_option maxRecDepth 100000 in
set_option maxHeartbeats 4000000 in
theorem rhalves_1 (x y fx fy tx ty nl nh far : Int) (w : World) (h : sightOk ⟨1, x, y, fx, fy, tx, ty, nl, nh, far⟩ = true) : Calls Try.prog 54 #[Sight.val ⟨1, x, y, fx, fy, tx, ty, nl, nh, far⟩] w (OwnHalves (halvesOf ⟨1, x, y, fx, fy, tx, ty, nl, nh, far⟩) w) := by
  have hc : pointedB ⟨1, x, y, fx, fy, tx, ty, nl, nh, far⟩ = true := h
  have hh : halvesOf ⟨1, x, y, fx, fy, tx, ty, nl, nh, far⟩ = [⟨-fy, fx, fx * y - fy * x⟩, ⟨ty, -tx, ty * x - tx * y⟩] := rfl
  rw [hh]
  simp only [pointedB, placeOk, partOk, inB, Bool.and_eq_true, decide_eq_true_eq] at hc
  obtain ⟨⟨⟨⟨x0, x1⟩, y0, y1⟩, ⟨⟨⟨r0, r1⟩, r2, r3⟩, r4, r5⟩, r6, r7⟩, _⟩ := hc
  have m1 := mul_le (A := 1000) (B := 10000000) r0 r1 y0 y1
  have m2 := mul_le (A := 1000) (B := 10000000) r2 r3 x0 x1
  have m3 := mul_le (A := 1000) (B := 10000000) r6 r7 x0 x1
  have m4 := mul_le (A := 1000) (B := 10000000) r4 r5 y0 y1
  simp only [Int.reduceMul, Int.reduceNeg] at m1 m2 m3 m4
  obtain ⟨P1, e1⟩ : ∃ P, fx * y = P := ⟨_, rfl⟩
  obtain ⟨P2, e2⟩ : ∃ P, fy * x = P := ⟨_, rfl⟩
  obtain ⟨P3, e3⟩ : ∃ P, ty * x = P := ⟨_, rfl⟩
  obtain ⟨P4, e4⟩ : ∃ P, tx * y = P := ⟨_, rfl⟩
  rw [e1] at m1 ⊢
  rw [e2] at m2 ⊢
  rw [e3] at m3 ⊢
  rw [e4] at m4 ⊢
  unfold Sight.val
  clear h hh
  have hb1 := heap_alloc_new w (.cells #[.int .u8 1, .int .i64 x, .int .i64 y, .int .i64 fx, .int .i64 fy, .int .i64 tx, .int .i64 ty, .int .i64 nl, .int .i64 nh, .int .i64 far] 30)
  have hx0 : Ext w (w.alloc (.cells #[.int .u8 1, .int .i64 x, .int .i64 y, .int .i64 fx, .int .i64 fy, .int .i64 tx, .int .i64 ty, .int .i64 nl, .int .i64 nh, .int .i64 far] 30)) := (Ext.refl _).alloc _
  have Hb1 := Lib.hid hb1
  have Hx0 := Lib.hid hx0
  clear hb1 hx0
  go_enter Try.func54, Try.ntmps54
  go_upto_region 3 with fail
  generalize w.alloc (.cells #[.int .u8 1, .int .i64 x, .int .i64 y, .int .i64 fx, .int .i64 fy, .int .i64 tx, .int .i64 ty, .int .i64 nl, .int .i64 nh, .int .i64 far] 30) = W0 at *
  refine wp_region_tree (.take [0, 1, 2, 3] (.two 4 (.one 5 (.one 6 (.one 7 .done))) 5 (.one 4 (.one 6 (.one 7 .done))))) (Ext W0) _ (by kernel_rfl) (by kernel_rfl) rfl ((Ext.refl _).drew) ?_
  intro ι _ f hf hs
  have f0 := fun q => ((hf q).box Hb1.out).1
  have Hs := Lib.hid hs
  clear hs
  clear hf
  simp only [treeOf, oneOp, twoOp, opsOf, consOp, List.getElem?_toArray, List.getElem?_cons_succ, List.getElem?_cons_zero]
  refine wpOT_take ?_
  repeat (go_big_quiet_step (fail))
  refine wpQuiet_nil ?_
  clear f0
  refine wpOT_both ?_
  apply join_two (F := fun p3 p4 W1 => Ext W0 W1 ∧ W1.heap[p3]? = some (.cells #[.int .i64 fx, .int .i64 fy] 26 (0, 0)) ∧ W1.heap[p4]? = some (.cells #[.int .i64 tx, .int .i64 ty] 26 (0, 0)))
  · intro G
    go_wp2_with fail
    refine ⟨Hs.out _ ((Ext.refl _).alloc _).drew, ?_⟩
    refine wpOT_one ?_
    go_wp2_with fail
    refine ⟨Hs.out _ (((Ext.refl _).alloc _).alloc _).drew, ?_⟩
    refine wpOT_one ?_
    go_wp2_with fail
    refine ⟨Hs.out _ (((Ext.refl _).alloc _).alloc _).drew, ?_⟩
    refine wpOT_one ?_
    go_wp2_with fail
    refine ⟨Hs.out _ (((Ext.refl _).alloc _).alloc _).drew, ?_⟩
    refine wpOT_done ?_
    obtain ⟨hx1, hba, hbb⟩ := two_boxes W0 #[Value.int IntKind.i64 fx, Value.int IntKind.i64 fy] #[Value.int IntKind.i64 tx, Value.int IntKind.i64 ty] 26 26
    generalize ((W0.alloc (Obj.cells #[Value.int IntKind.i64 fx, Value.int IntKind.i64 fy] 26)).alloc (Obj.cells #[Value.int IntKind.i64 tx, Value.int IntKind.i64 ty] 26)).drew = W1 at hx1 hba hbb ⊢
    generalize W0.heap.size + 1 = q1 at hbb ⊢
    generalize W0.heap.size = q2 at hba ⊢
    exact G _ _ _ ⟨hx1, hba, hbb⟩
  · intro G
    go_wp2_with fail
    refine ⟨Hs.out _ ((Ext.refl _).alloc _).drew, ?_⟩
    refine wpOT_one ?_
    go_wp2_with fail
    refine ⟨Hs.out _ (((Ext.refl _).alloc _).alloc _).drew, ?_⟩
    refine wpOT_one ?_
    go_wp2_with fail
    refine ⟨Hs.out _ (((Ext.refl _).alloc _).alloc _).drew, ?_⟩
    refine wpOT_one ?_
    go_wp2_with fail
    refine ⟨Hs.out _ (((Ext.refl _).alloc _).alloc _).drew, ?_⟩
    refine wpOT_done ?_
    obtain ⟨hx1, hba, hbb⟩ := two_boxes W0 #[Value.int IntKind.i64 tx, Value.int IntKind.i64 ty] #[Value.int IntKind.i64 fx, Value.int IntKind.i64 fy] 26 26
    generalize ((W0.alloc (Obj.cells #[Value.int IntKind.i64 tx, Value.int IntKind.i64 ty] 26)).alloc (Obj.cells #[Value.int IntKind.i64 fx, Value.int IntKind.i64 fy] 26)).drew = W1 at hx1 hba hbb ⊢
    generalize W0.heap.size + 1 = q1 at hbb ⊢
    generalize W0.heap.size = q2 at hba ⊢
    exact G _ _ _ ⟨hx1, hbb, hba⟩
  rintro p3 p4 W1 ⟨hx1, hb3, hb4⟩
  have hbs := hx1.heap Hb1.out
  obtain ⟨f0, _⟩ := (Ext.refl W1).box hbs
  obtain ⟨f3, _⟩ := (Ext.refl W1).box hb3
  obtain ⟨f4, _⟩ := (Ext.refl W1).box hb4
  have hxw := Hx0.out.trans hx1
  have Hxw := Lib.hid hxw
  clear hxw
  clear Hs hbs hb3 hb4 hx1
  go_wp2_with fail
  go_ret
  refine ⟨_, _, rfl, (show 2 ≤ 2 from Nat.le_refl 2), (show 2 ≤ maxLen by decide), Hxw.out.alloc _, halves_block [⟨-fy, fx, P1 - P2⟩, ⟨ty, -tx, P3 - P4⟩] (alloc_at _ _ _ rfl), fun x hx => by cases hx; exact Hxw.out.size⟩
theorem rhalves_any (s : Sight) (w : World) (h : sightOk s = true) : Calls Try.prog 54 #[s.val] w (OwnHalves (halvesOf s) w) := by
  obtain ⟨kd, x, y, fx, fy, tx, ty, nl, nh, far⟩ := s
  by_cases h1 : kd = 1
  · subst h1
    exact rhalves_1 x y fx fy tx ty nl nh far w h
  · by_cases h2 : kd = 2
    · subst h2
      exact rhalves_2 x y fx fy tx ty nl nh far w h
    · by_cases h3 : kd = 3
      · subst h3
        exact rhalves_3 x y fx fy tx ty nl nh far w h
      · unfold sightOk at h
        rw [if_neg h1, if_neg h2, if_neg h3] at h
        cases h
end Go.Proofs.Ytacdndehlkaaeaa
