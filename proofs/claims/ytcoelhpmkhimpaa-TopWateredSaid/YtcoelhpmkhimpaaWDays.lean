/- Contracts of layer 3: the days of a leg of a land. -/
import Derived.Test.YtcoelhpmkhimpaaArriveC
namespace Go.Proofs.Ytcoelhpmkhimpaa
open Go.RowKit
set_option linter.unusedVariables false
set_option linter.unusedSimpArgs false
def wdaysErr (l : Land) (g : Int) (p : Span) : Int := if openErr l p = 0 then (if inB g 0 (l.legs.length - 1) then 0 else 2) else openErr l p
def wdaysVal (l : Land) (g : Int) (p : Span) : Span := if wdaysErr l g p = 0 then legDays (legAt l g) p else ⟨0, 0⟩
theorem land_is {l : Land} (h : landOk l = true) : l.legs.all (legOk l.wells.length) = true := by
  simp only [landOk, Bool.and_eq_true] at h
  exact h.2
theorem open_ok {l : Land} {p : Span} (h : openErr l p = 0) : l.legs.all (legOk l.wells.length) = true ∧ SpanIs p 1 100000 := by
  unfold openErr at h
  split at h
  · rename_i h1
    split at h
    · rename_i h2
      exact ⟨land_is h1, spanIs h2⟩
    · omega
  · omega
set_option maxRecDepth 100000 in
set_option maxHeartbeats 8000000 in
theorem wdays_any (wa : Option Addr) (wn wc : Nat) (la : Option Addr) (ln lc : Nat) (l : Land) (g : Int) (p : Span) (w : World) (h : LandAt w wa wn wc la ln lc l) : Calls Try.prog 13 #[.agg #[.slice wa wn wc, .slice la ln lc], .int .i64 g, p.val] w fun e w' => e = .returned (.tuple #[(wdaysVal l g p).val, .int .i64 (wdaysErr l g p)]) ∧ Ext w w' := by
  have hop := fun W (hW : Ext w W) => open_any wa wn wc la ln lc l p W (h.ext hW)
  have hln := h.legs.1
  have hn2 := h.n2
  have hr : wdaysErr l g p = if openErr l p = 0 then (if inB g 0 (l.legs.length - 1) then 0 else 2) else openErr l p := rfl
  have hv : wdaysVal l g p = if wdaysErr l g p = 0 then legDays (legAt l g) p else ⟨0, 0⟩ := rfl
  have hov : openVal wa wn wc la ln lc l p = if openErr l p = 0 then .agg #[.slice wa wn wc, .slice la ln lc, .int .i64 p.lo, .int .i64 p.hi] else .agg #[.slice none 0 0, .slice none 0 0, .int .i64 0, .int .i64 0] := rfl
  obtain ⟨P1, e1⟩ : ∃ P, inB g 0 (l.legs.length - 1) = P := ⟨_, rfl⟩
  rw [e1] at hr
  have hdy : ∀ W, Ext w W → openErr l p = 0 → P1 = true → Calls Try.prog 50 #[.agg #[.slice wa wn wc, .slice la ln lc, .int .i64 p.lo, .int .i64 p.hi], .int .i64 g] W fun e w' => e = .returned (legDays (legAt l g) p).val ∧ Ext W w' := by
    intro W hW ho hP
    subst hP
    have hg := inB_is e1
    obtain ⟨k, rfl⟩ := Int.eq_ofNat_of_zero_le hg.1
    obtain ⟨hal, hps⟩ := open_ok ho
    have hk : k < l.legs.length := by omega
    have hx : l.legs[k]? = some (legAt l k) := by
      unfold legAt
      rw [Int.toNat_natCast, List.getD_eq_getElem?_getD, List.getElem?_eq_getElem hk]
      rfl
    have hL := legIs (List.all_eq_true.1 hal _ (List.mem_of_getElem? hx))
    exact legDays_any wa wn wc la ln lc l.legs p k _ W ((h.ext hW).legs) hx hL.long hps h.c3 h.c4
  obtain ⟨V, hV⟩ : ∃ V, wdaysVal l g p = V := ⟨_, rfl⟩
  obtain ⟨E, hE⟩ : ∃ E, wdaysErr l g p = E := ⟨_, rfl⟩
  obtain ⟨K, hK⟩ : ∃ K, openErr l p = K := ⟨_, rfl⟩
  obtain ⟨⟨n0, n1⟩, hD⟩ : ∃ D, legDays (legAt l g) p = D := ⟨_, rfl⟩
  rw [hV, hE, hD] at hv
  rw [hE, hK] at hr
  rw [hK] at hov hdy
  rw [hD] at hdy
  have hop' : ∀ W, Ext w W → Calls Try.prog 44 #[.agg #[.slice wa wn wc, .slice la ln lc], p.val] W fun e w' => e = .returned (.tuple #[openVal wa wn wc la ln lc l p, .int .i64 K]) ∧ Ext W w' := fun W hW => by rw [← hK]; exact hop W hW
  rw [hV, hE]
  clear hop hV hE hD hK
  rw [hov] at hop'
  clear hov h
  rw [hln] at e1
  generalize l.legs.length = q at *
  obtain ⟨p0, p1⟩ := p
  unfold Span.val at *
  simp only at *
  obtain ⟨W0, hW0⟩ : ∃ W0, ((w.alloc (.cells #[.slice wa wn wc, .slice la ln lc] 33)).alloc (.cells #[.int .i64 p0, .int .i64 p1] 23)).alloc (.cells #[.int .i64 0, .int .i64 0] 23) = W0 := ⟨_, rfl⟩
  have hx0 : Ext w W0 := by rw [← hW0]; exact (((Ext.refl w).alloc _).alloc _).alloc _
  have hb0 : W0.heap[w.heap.size]? = some (.cells #[.slice wa wn wc, .slice la ln lc] 33 (0, 0)) := by rw [← hW0]; exact alloc_heap (alloc_heap (heap_alloc_new w _) _) _
  have hb1 : W0.heap[w.heap.size + 1]? = some (.cells #[.int .i64 p0, .int .i64 p1] 23 (0, 0)) := by rw [← hW0]; exact alloc_heap (alloc_at _ _ _ (by simp)) _
  have hb2 : W0.heap[w.heap.size + 1 + 1]? = some (.cells #[.int .i64 0, .int .i64 0] 23 (0, 0)) := by rw [← hW0]; exact alloc_at _ _ _ (by simp)
  obtain ⟨z0, _⟩ := (Ext.refl W0).box hb0
  obtain ⟨z1, _⟩ := (Ext.refl W0).box hb1
  by_cases hK0 : K = 0
  · subst hK0
    simp only [if_true] at hr hop'
    cases P1
    · simp only [Bool.false_eq_true, if_false] at hr
      subst hr
      rw [if_neg (by decide)] at hv
      subst hv
      have Hop' := Lib.hid hop'
      have Hdy := Lib.hid hdy
      have Hx0 := Lib.hid hx0
      have Hb0 := Lib.hid hb0
      have Hb1 := Lib.hid hb1
      have Hb2 := Lib.hid hb2
      have E1 := Lib.hid e1
      clear hop' hdy hx0 hb0 hb1 hb2 e1
      go_enter Try.func13, Try.ntmps13
      go_wp2_with (first | (go_at_call 44; refine (Hop'.out _ Hx0.out).mono ?_; rintro e w1 ⟨rfl, hx1⟩; clear hW0 z0 z1; obtain ⟨z2, _⟩ := (Ext.refl w1).box (hx1.heap Hb0.out); have hzl := heap_lt (hx1.heap Hb2.out); have hzb := heap_lt (hx1.heap Hb0.out); have hzc := Nat.lt_succ_of_lt hzb) | (go_at_call 45; refine (fromW1 (alloc_at _ _ _ (by simp)) E1.out).mono ?_; rintro e w2 ⟨rfl, hx2⟩; have hr2 := hx2.heap (alloc_heap (alloc_heap (hx1.heap Hb2.out) _) _); have hrl := heap_lt hr2; obtain ⟨z3, z4⟩ := (Ext.refl w2).box hr2; have hxw := ((hx1.alloc _).alloc _).trans hx2; clear z2))
      refine bodyPost_ret (results_cell_tmp (P := Try.prog) (fn := Try.f13) rfl _ _ (w.heap.size + 1 + 1) 23 #[.int .i64 0, .int .i64 0] (0, 0) _ rfl (set2_box hr2 _ _) Try.underlying23 rfl (by kernel_rfl)) rfl ?_
      exact ⟨rfl, set2_ext (Hx0.out.trans hxw) (by omega) _ _⟩
    · simp only [if_true] at hr
      subst hr
      rw [if_pos rfl] at hv
      subst hv
      have Hop' := Lib.hid hop'
      have Hdy := Lib.hid hdy
      have Hx0 := Lib.hid hx0
      have Hb0 := Lib.hid hb0
      have Hb1 := Lib.hid hb1
      have Hb2 := Lib.hid hb2
      have E1 := Lib.hid e1
      clear hop' hdy hx0 hb0 hb1 hb2 e1
      go_enter Try.func13, Try.ntmps13
      go_wp2_with (first | (go_at_call 44; refine (Hop'.out _ Hx0.out).mono ?_; rintro e w1 ⟨rfl, hx1⟩; clear hW0 z0 z1; obtain ⟨z2, _⟩ := (Ext.refl w1).box (hx1.heap Hb0.out); have hzl := heap_lt (hx1.heap Hb2.out); have hzb := heap_lt (hx1.heap Hb0.out); have hzc := Nat.lt_succ_of_lt hzb) | (go_at_call 45; refine (fromW1 (alloc_at _ _ _ (by simp)) E1.out).mono ?_; rintro e w2 ⟨rfl, hx2⟩; have hr2 := hx2.heap (alloc_heap (alloc_heap (hx1.heap Hb2.out) _) _); have hxw := ((hx1.alloc _).alloc _).trans hx2; obtain ⟨z5, _⟩ := (Ext.refl w2).box (hx2.heap (alloc_heap (heap_alloc_new w1 _) _)); clear z2) | (go_at_call 50; refine (Hdy.out _ (Hx0.out.trans hxw) (by trivial) (by trivial)).mono ?_; rintro e w3 ⟨rfl, hx3⟩; clear z5) | (go_at_call 49; refine (bothSpan_any _ _ _).mono ?_; rintro e w4 ⟨rfl, hx4⟩; have hr4 := hx4.heap (hx3.heap hr2); have hrl := heap_lt hr4; obtain ⟨z3, z4⟩ := (Ext.refl w4).box hr4))
      refine bodyPost_ret (results_cell_tmp (P := Try.prog) (fn := Try.f13) rfl _ _ (w.heap.size + 1 + 1) 23 #[.int .i64 n0, .int .i64 n1] (0, 0) _ rfl (set2_box hr4 _ _) Try.underlying23 rfl (by kernel_rfl)) rfl ?_
      exact ⟨rfl, set2_ext (Hx0.out.trans (hxw.trans (hx3.trans hx4))) (by omega) _ _⟩
  · rw [if_neg hK0] at hr hop'
    subst hr
    rw [if_neg hK0] at hv
    subst hv
    have hKB : (E != 0) = true := by simpa using hK0
    have hKC : (E == 0) = false := by simpa using hK0
    have Hop' := Lib.hid hop'
    have Hdy := Lib.hid hdy
    have Hx0 := Lib.hid hx0
    have Hb0 := Lib.hid hb0
    have Hb1 := Lib.hid hb1
    have Hb2 := Lib.hid hb2
    have E1 := Lib.hid e1
    clear hop' hdy hx0 hb0 hb1 hb2 e1
    go_enter Try.func13, Try.ntmps13
    go_wp2_with (go_at_call 44; refine (Hop'.out _ Hx0.out).mono ?_; rintro e w1 ⟨rfl, hx1⟩; clear hW0 z0 z1; have hr2 := alloc_heap (hx1.heap Hb2.out) (.cells #[.slice none 0 0, .slice none 0 0, .int .i64 0, .int .i64 0] 108); have hrl := heap_lt hr2; obtain ⟨z3, z4⟩ := (Ext.refl _).box hr2; have hxw := hx1.alloc (.cells #[.slice none 0 0, .slice none 0 0, .int .i64 0, .int .i64 0] 108))
    refine bodyPost_ret (results_cell_tmp (P := Try.prog) (fn := Try.f13) rfl _ _ (w.heap.size + 1 + 1) 23 #[.int .i64 0, .int .i64 0] (0, 0) _ rfl (set2_box hr2 _ _) Try.underlying23 rfl (by kernel_rfl)) rfl ?_
    exact ⟨rfl, set2_ext (Hx0.out.trans hxw) (by omega) _ _⟩
end Go.Proofs.Ytcoelhpmkhimpaa
