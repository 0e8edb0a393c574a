/- Contracts of the specification's tests of layers 1 and 3: Camel, CheckCamel, CheckBreed, within, spanned, Great. -/
import Derived.Test.YtcoelhpmkhimpaaRefC
import Derived.Test.YtcoelhpmkhimpaaWDays
import Derived.Test.YtcoelhpmkhimpaaCamC
namespace Go.Proofs.Ytcoelhpmkhimpaa
open Go.RowKit
set_option linter.unusedVariables false
set_option linter.unusedSimpArgs false
set_option maxHeartbeats 8000000 in
set_option maxRecDepth 100000 in
theorem rcamel_any (s : Breed) (c : Camel) (w : World) : Calls Try.prog 35 #[s.val, c.val] w fun e w' => e = .returned (.bool (camelOk s c)) ∧ Ext w w' := by
  obtain ⟨fu, fe, ⟨r0, r1⟩, ⟨h0, h1⟩, ⟨t0, t1⟩, ⟨b0, b1⟩, ⟨u0, u1⟩, ⟨m0, m1⟩, hl, ⟨s0, s1⟩⟩ := s
  obtain ⟨⟨w0, w1⟩, ⟨k0, k1⟩, ⟨o0, o1⟩, mk⟩ := c
  obtain ⟨P1, e1⟩ : ∃ P, spanOk ⟨w0, w1⟩ 0 fu = P := ⟨_, rfl⟩
  obtain ⟨P2, e2⟩ : ∃ P, spanOk ⟨k0, k1⟩ 0 fe = P := ⟨_, rfl⟩
  obtain ⟨P3, e3⟩ : ∃ P, spanOk ⟨o0, o1⟩ 0 1000 = P := ⟨_, rfl⟩
  have hv : camelOk ⟨fu, fe, ⟨r0, r1⟩, ⟨h0, h1⟩, ⟨t0, t1⟩, ⟨b0, b1⟩, ⟨u0, u1⟩, ⟨m0, m1⟩, hl, ⟨s0, s1⟩⟩ ⟨⟨w0, w1⟩, ⟨k0, k1⟩, ⟨o0, o1⟩, mk⟩ = (P1 && P2 && P3) := by
    unfold camelOk
    simp only
    rw [e1, e2, e3]
  rw [hv]
  clear hv
  unfold Breed.val Camel.val
  simp only
  obtain ⟨W0, hW0⟩ : ∃ W0, (w.alloc (.cells #[.int .i64 fu, .int .i64 fe, .int .i64 r0, .int .i64 r1, .int .i64 h0, .int .i64 h1, .int .i64 t0, .int .i64 t1, .int .i64 b0, .int .i64 b1, .int .i64 u0, .int .i64 u1, .int .i64 m0, .int .i64 m1, .int .i64 hl, .int .i64 s0, .int .i64 s1] 25)).alloc (.cells #[.int .i64 w0, .int .i64 w1, .int .i64 k0, .int .i64 k1, .int .i64 o0, .int .i64 o1, .bool mk] 27) = W0 := ⟨_, rfl⟩
  have hxa : Ext w W0 := by rw [← hW0]; exact ((Ext.refl w).alloc _).alloc _
  have hbx : W0.heap[w.heap.size]? = some (.cells #[.int .i64 fu, .int .i64 fe, .int .i64 r0, .int .i64 r1, .int .i64 h0, .int .i64 h1, .int .i64 t0, .int .i64 t1, .int .i64 b0, .int .i64 b1, .int .i64 u0, .int .i64 u1, .int .i64 m0, .int .i64 m1, .int .i64 hl, .int .i64 s0, .int .i64 s1] 25 (0, 0)) := by rw [← hW0]; exact alloc_heap (heap_alloc_new w _) _
  have hcx : W0.heap[w.heap.size + 1]? = some (.cells #[.int .i64 w0, .int .i64 w1, .int .i64 k0, .int .i64 k1, .int .i64 o0, .int .i64 o1, .bool mk] 27 (0, 0)) := by rw [← hW0]; exact alloc_at _ _ _ (by simp)
  obtain ⟨f0, _⟩ := (Ext.refl _).box hbx
  obtain ⟨g0, _⟩ := (Ext.refl _).box hcx
  have E1 := Lib.hid e1
  have E2 := Lib.hid e2
  have E3 := Lib.hid e3
  clear e1 e2 e3
  cases P1
  rotate_left
  cases P2
  rotate_left
  cases P3
  all_goals
    go_enter Try.func35, Try.ntmps35
    go_wp2_with (go_at_call 43; refine (spanned_any _ _ _ _ _ (by first | exact E1.out | exact E2.out | exact E3.out) _).mono ?_; rintro e w1 ⟨rfl, hx1⟩; replace hbx := hx1.heap hbx; replace hcx := hx1.heap hcx; replace hxa := hxa.trans hx1; clear hx1 f0 g0; obtain ⟨f0, _⟩ := (Ext.refl _).box hbx; obtain ⟨g0, _⟩ := (Ext.refl _).box hcx)
    go_ret
    exact ⟨rfl, hxa⟩
set_option maxHeartbeats 8000000 in
set_option maxRecDepth 100000 in
theorem rcheckCamel_any (s : Breed) (c : Camel) (w : World) : Calls Try.prog 9 #[s.val, c.val] w fun e w' => e = .returned (.int .i64 (camelErr s c)) ∧ Ext w w' := by
  have hb := fun W => rbreed_any s W
  have hc := fun W => rcamel_any s c W
  have hv : camelErr s c = if breedOk s then (if camelOk s c then 0 else 11) else 10 := rfl
  obtain ⟨B, hB⟩ : ∃ B, breedOk s = B := ⟨_, rfl⟩
  obtain ⟨C, hC⟩ : ∃ C, camelOk s c = C := ⟨_, rfl⟩
  rw [hB] at hb hv
  rw [hC] at hc hv
  rw [hv]
  clear hv hB hC
  obtain ⟨fu, fe, ⟨r0, r1⟩, ⟨h0, h1⟩, ⟨t0, t1⟩, ⟨b0, b1⟩, ⟨u0, u1⟩, ⟨m0, m1⟩, hl, ⟨s0, s1⟩⟩ := s
  obtain ⟨⟨w0, w1⟩, ⟨k0, k1⟩, ⟨o0, o1⟩, mk⟩ := c
  unfold Breed.val Camel.val at *
  simp only at *
  obtain ⟨W0, hW0⟩ : ∃ W0, (w.alloc (.cells #[.int .i64 fu, .int .i64 fe, .int .i64 r0, .int .i64 r1, .int .i64 h0, .int .i64 h1, .int .i64 t0, .int .i64 t1, .int .i64 b0, .int .i64 b1, .int .i64 u0, .int .i64 u1, .int .i64 m0, .int .i64 m1, .int .i64 hl, .int .i64 s0, .int .i64 s1] 25)).alloc (.cells #[.int .i64 w0, .int .i64 w1, .int .i64 k0, .int .i64 k1, .int .i64 o0, .int .i64 o1, .bool mk] 27) = W0 := ⟨_, rfl⟩
  have hxa : Ext w W0 := by rw [← hW0]; exact ((Ext.refl w).alloc _).alloc _
  have hbx : W0.heap[w.heap.size]? = some (.cells #[.int .i64 fu, .int .i64 fe, .int .i64 r0, .int .i64 r1, .int .i64 h0, .int .i64 h1, .int .i64 t0, .int .i64 t1, .int .i64 b0, .int .i64 b1, .int .i64 u0, .int .i64 u1, .int .i64 m0, .int .i64 m1, .int .i64 hl, .int .i64 s0, .int .i64 s1] 25 (0, 0)) := by rw [← hW0]; exact alloc_heap (heap_alloc_new w _) _
  have hcx : W0.heap[w.heap.size + 1]? = some (.cells #[.int .i64 w0, .int .i64 w1, .int .i64 k0, .int .i64 k1, .int .i64 o0, .int .i64 o1, .bool mk] 27 (0, 0)) := by rw [← hW0]; exact alloc_at _ _ _ (by simp)
  have Hb := Lib.hid hb
  have Hc := Lib.hid hc
  have Hxa := Lib.hid hxa
  have Hbx := Lib.hid hbx
  have Hcx := Lib.hid hcx
  clear hb hc hxa hbx hcx
  cases B
  rotate_left
  cases C
  all_goals
    go_enter Try.func9, Try.ntmps9
    go_wp2_with (first | (refine wpList_load_row rfl 25 (.tmp 2) rfl w.heap.size rfl 25 _ (0, 0) _ (by first | exact Hbx.out | exact hbx1) Try.underlying25 rfl (by kernel_rfl) ?_) | (refine wpList_load_row rfl 27 (.tmp 3) rfl (w.heap.size + 1) rfl 27 _ (0, 0) _ (by first | exact Hcx.out | exact hcx1) Try.underlying27 rfl (by kernel_rfl) ?_) | (go_at_call 41; refine (Hb.out _).mono ?_; rintro e w1 ⟨rfl, hx1⟩; have hbx1 := hx1.heap Hbx.out; have hcx1 := hx1.heap Hcx.out; have hxa1 := Hxa.out.trans hx1) | (go_at_call 35; refine (Hc.out _).mono ?_; rintro e w2 ⟨rfl, hx2⟩; replace hxa1 := hxa1.trans hx2))
    go_ret
    exact ⟨rfl, hxa1⟩
set_option maxHeartbeats 8000000 in
set_option maxRecDepth 100000 in
theorem rcheckBreed_any (s : Breed) (w : World) : Calls Try.prog 32 #[s.val] w fun e w' => e = .returned (.int .i64 (breedErr s)) ∧ Ext w w' := by
  have hb := fun W => rbreed_any s W
  have hv : breedErr s = if breedOk s then 0 else 10 := rfl
  obtain ⟨B, hB⟩ : ∃ B, breedOk s = B := ⟨_, rfl⟩
  rw [hB] at hb hv
  rw [hv]
  clear hv hB
  obtain ⟨fu, fe, ⟨r0, r1⟩, ⟨h0, h1⟩, ⟨t0, t1⟩, ⟨b0, b1⟩, ⟨u0, u1⟩, ⟨m0, m1⟩, hl, ⟨s0, s1⟩⟩ := s
  unfold Breed.val at *
  simp only at *
  have hbx := heap_alloc_new w (.cells #[.int .i64 fu, .int .i64 fe, .int .i64 r0, .int .i64 r1, .int .i64 h0, .int .i64 h1, .int .i64 t0, .int .i64 t1, .int .i64 b0, .int .i64 b1, .int .i64 u0, .int .i64 u1, .int .i64 m0, .int .i64 m1, .int .i64 hl, .int .i64 s0, .int .i64 s1] 25)
  have hxa : Ext w (w.alloc (.cells #[.int .i64 fu, .int .i64 fe, .int .i64 r0, .int .i64 r1, .int .i64 h0, .int .i64 h1, .int .i64 t0, .int .i64 t1, .int .i64 b0, .int .i64 b1, .int .i64 u0, .int .i64 u1, .int .i64 m0, .int .i64 m1, .int .i64 hl, .int .i64 s0, .int .i64 s1] 25)) := (Ext.refl _).alloc _
  obtain ⟨W0, hW0⟩ : ∃ W0, w.alloc (.cells #[.int .i64 fu, .int .i64 fe, .int .i64 r0, .int .i64 r1, .int .i64 h0, .int .i64 h1, .int .i64 t0, .int .i64 t1, .int .i64 b0, .int .i64 b1, .int .i64 u0, .int .i64 u1, .int .i64 m0, .int .i64 m1, .int .i64 hl, .int .i64 s0, .int .i64 s1] 25) = W0 := ⟨_, rfl⟩
  rw [hW0] at hbx hxa
  have Hb := Lib.hid hb
  have Hbx := Lib.hid hbx
  have Hxa := Lib.hid hxa
  clear hb hbx hxa
  cases B
  all_goals
    go_enter Try.func32, Try.ntmps32
    go_wp2_with (first | (refine wpList_load_row rfl 25 (.tmp 1) rfl w.heap.size rfl 25 _ (0, 0) _ Hbx.out Try.underlying25 rfl (by kernel_rfl) ?_) | (go_at_call 41; refine (Hb.out _).mono ?_; rintro e w1 ⟨rfl, hx1⟩; have hxa1 := Hxa.out.trans hx1))
    go_ret
    exact ⟨rfl, hxa1⟩
/-- a span out of two numbers -/
theorem stretch_any (a b : Int) (w : World) : Calls Try.prog 16 #[.int .i64 a, .int .i64 b] w fun e w' => e = .returned (.agg #[.int .i64 a, .int .i64 b]) ∧ Ext w w' := by
  go_enter Try.func16, Try.ntmps16
  go_wp2_with fail
  refine bodyPost_ret (results_cell_row rfl _ _ w.heap.size 23 #[.int .i64 a, .int .i64 b] (0, 0) _ rfl (heap_alloc_new w _) Try.underlying23 rfl (by kernel_rfl)) rfl ?_
  exact ⟨rfl, (Ext.refl _).alloc _⟩
def greatB (l : Land) : Bool := decide (20 < l.wells.length) || decide (40 < l.legs.length) || l.legs.any fun x => decide (20 < x.gates.length)
theorem great_small {l : Land} (h : greatB l = false) : l.wells.length ≤ 20 ∧ l.legs.length ≤ 40 := by
  simp only [greatB, Bool.or_eq_false_iff, decide_eq_false_iff_not] at h
  omega
set_option maxRecDepth 100000 in
theorem rgreat_any (wa : Option Addr) (wn wc : Nat) (la : Option Addr) (ln lc : Nat) (l : Land) (w : World) (hw : l.wells.length = wn) (hwc : wn ≤ wc) (hwm : wc ≤ maxLen) (h : LegsAt w la ln l.legs) (hlc : ln ≤ lc) (hlm : lc ≤ maxLen) :
    Calls Try.prog 11 #[.agg #[.slice wa wn wc, .slice la ln lc]] w fun e w' => e = .returned (.bool (greatB l)) ∧ Ext w w' := by
  have hv : greatB l = (decide (20 < wn) || decide (40 < ln) || l.legs.any fun x => decide (20 < x.gates.length)) := by unfold greatB; rw [hw, h.1]
  obtain ⟨R, hR⟩ : ∃ R, greatB l = R := ⟨_, rfl⟩
  rw [hR] at hv ⊢
  unfold maxLen at hwm hlm
  have hb0 := heap_alloc_new w (.cells #[.slice wa wn wc, .slice la ln lc] 33)
  have hx0 : Ext w (w.alloc (.cells #[.slice wa wn wc, .slice la ln lc] 33)) := (Ext.refl _).alloc _
  obtain ⟨z0, z1⟩ := (Ext.refl _).box hb0
  by_cases h1 : 20 < wn
  · have h1B : decide (20 < (wn : Int)) = true := by simp; omega
    have hr : R = true := by rw [hv]; simp [h1]
    subst hr
    have Hx0 := Lib.hid hx0
    have Hv := Lib.hid hv
    clear hx0 hv
    go_enter Try.func11, Try.ntmps11
    go_wp2_with fail
    go_ret
    exact ⟨rfl, Hx0.out⟩
  have h1B : decide (20 < (wn : Int)) = false := by simp; omega
  by_cases h2 : 40 < ln
  · have h2B : decide (40 < (ln : Int)) = true := by simp; omega
    have hr : R = true := by rw [hv]; simp [h2]
    subst hr
    have Hx0 := Lib.hid hx0
    have Hv := Lib.hid hv
    clear hx0 hv
    go_enter Try.func11, Try.ntmps11
    go_wp2_with fail
    go_ret
    exact ⟨rfl, Hx0.out⟩
  have h2B : decide (40 < (ln : Int)) = false := by simp; omega
  have hln : ln ≤ 40 := by omega
  have hv2 : R = l.legs.any fun x => decide (20 < x.gates.length) := by rw [hv]; simp [h1, h2]
  have hll := h.1
  have hL := h.ext hx0
  obtain ⟨W0, hW0⟩ : ∃ W0, w.alloc (.cells #[.slice wa wn wc, .slice la ln lc] 33) = W0 := ⟨_, rfl⟩
  rw [hW0] at hx0 hL z0 z1
  have Hx0 := Lib.hid hx0
  have Hv2 := Lib.hid hv2
  have HL := Lib.hid hL
  have Hll := Lib.hid hll
  clear hx0 hv2 hL hll
  clear hv h1 h2 hb0 hR h hw
  go_enter Try.func11, Try.ntmps11
  go_wp2_with fail
  go_loopw [3] (fun i wr => ∃ (k : Nat), i = .int .i64 k ∧ k ≤ ln ∧ wr = W0 ∧ ∀ x ∈ l.legs.take k, ¬20 < x.gates.length) (fun i _ => ln - (intOf i).toNat)
  case atStart => exact ⟨0, rfl, by omega, rfl, by simp⟩
  case round =>
    obtain ⟨k, rfl, hk, rfl, hno⟩ := hrel
    by_cases hlt : k < ln
    · have hltB : decide ((k : Int) < (ln : Int)) = true := by simp; omega
      obtain ⟨b, off, x, ka, kn, kc, rfl, hxk, hb, c0, c1, c2, c3, c4, k1, k2, hG⟩ := HL.out.get k hlt
      have hgn := hG.1
      unfold maxLen at k2
      have hmem := List.mem_of_getElem? hxk
      by_cases h3 : 20 < kn
      · have h3B : decide (20 < (kn : Int)) = true := by simp; omega
        have hr : R = true := by rw [Hv2.out]; exact List.any_eq_true.2 ⟨x, hmem, by simp; omega⟩
        subst hr
        have Hno := Lib.hid hno
        have Hxk := Lib.hid hxk
        have HG := Lib.hid hG
        clear hno hxk hG
        clear h3
        go_wp2_with fail
        go_ret
        exact ⟨rfl, Hx0.out⟩
      · have h3B : decide (20 < (kn : Int)) = false := by simp; omega
        have hn2 : ∀ y ∈ l.legs.take (k + 1), ¬20 < y.gates.length := fun y hy => by
          rw [List.take_add_one, hxk] at hy
          rcases List.mem_append.1 hy with q | q
          · exact hno y q
          · have : y = x := by simpa using q
            subst this
            omega
        have Hn2 := Lib.hid hn2
        clear hn2
        clear hno hxk hG h3 hmem
        go_wp2_with fail
        go_roundw
        case rel => exact ⟨k + 1, by go_num, by omega, by trivial, Hn2.out⟩
        case measure => simp [intOf]; omega
    · have hltB : decide ((k : Int) < (ln : Int)) = false := by simp; omega
      obtain rfl : k = ln := by omega
      have hr : R = false := by
        rw [Hv2.out, List.any_eq_false]
        intro x hx
        have := hno x (by rw [List.take_of_length_le (by have := Hll.out; omega)]; exact hx)
        simpa using this
      subst hr
      have Hno := Lib.hid hno
      clear hno
      go_wp2_with fail
      go_ret
      exact ⟨rfl, Hx0.out⟩
end Go.Proofs.Ytcoelhpmkhimpaa
