/- The reference: small functions. -/
import Derived.Test.YtacdndehlkaaeaaVSee
import Derived.BigQuiet
namespace Go.Proofs.Ytacdndehlkaaeaa
open Go.RowKit
set_option linter.unusedVariables false
set_option linter.unusedSimpArgs false
theorem within_any (x lo hi : Int) (w : World) : Calls Try.prog 75 #[.int .i64 x, .int .i64 lo, .int .i64 hi] w fun e w' => e = .returned (.bool (inB x lo hi)) ∧ w' = w := by
  unfold inB
  by_cases h1 : lo ≤ x
  · have b1 : decide (lo ≤ x) = true := decide_eq_true h1
    go_enter Try.func75, Try.ntmps75
    go_wp2_with fail
    go_ret
    exact ⟨ret_bool (by first | rfl | (rw [b1]; rfl)), rfl⟩
  · have b1 : decide (lo ≤ x) = false := decide_eq_false h1
    go_enter Try.func75, Try.ntmps75
    go_wp2_with fail
    go_ret
    exact ⟨ret_bool (by first | rfl | (rw [b1]; rfl)), rfl⟩
theorem course_any (a b : Int) (w : World) : Calls Try.prog 76 #[.agg #[.int .i64 a, .int .i64 b]] w fun e w' => e = .returned (.bool (partOk a && partOk b)) ∧ Ext w w' := by
  have h1 := fun W => within_any a (-1000) 1000 W
  have h2 := fun W => within_any b (-1000) 1000 W
  unfold partOk
  generalize inB b (-1000) 1000 = B at *
  cases hA : inB a (-1000) 1000 with
  | true =>
    rw [hA] at h1
    have H1 := Lib.hid h1
    have H2 := Lib.hid h2
    clear h1 h2
    clear hA
    go_enter Try.func76, Try.ntmps76
    go_wp2_with (first | (go_at_call 75; refine (H1.out _).mono ?_; rintro e w1 ⟨rfl, rfl⟩; clear H1) | (go_at_call 75; refine (H2.out _).mono ?_; rintro e w1 ⟨rfl, rfl⟩))
    go_ret
    exact ⟨rfl, (Ext.refl _).alloc _⟩
  | false =>
    rw [hA] at h1
    have H1 := Lib.hid h1
    have H2 := Lib.hid h2
    clear h1 h2
    clear hA
    go_enter Try.func76, Try.ntmps76
    go_wp2_with (go_at_call 75; refine (H1.out _).mono ?_; rintro e w1 ⟨rfl, rfl⟩; clear H1)
    go_ret
    exact ⟨rfl, (Ext.refl _).alloc _⟩
theorem spanned_any (s : Span) (lo hi : Int) (w : World) : Calls Try.prog 59 #[s.val, .int .i64 lo, .int .i64 hi] w fun e w' => e = .returned (.bool (spanOk s lo hi)) ∧ Ext w w' := by
  obtain ⟨x, y⟩ := s
  have h1 := fun W => within_any x lo y W
  have hr : spanOk ⟨x, y⟩ lo hi = (inB x lo y && decide (y ≤ hi)) := rfl
  rw [hr]
  unfold Span.val
  cases hA : inB x lo y with
  | true =>
    rw [hA] at h1
    have H1 := Lib.hid h1
    clear h1
    clear hA hr
    go_enter Try.func59, Try.ntmps59
    go_wp2_with (go_at_call 75; refine (H1.out _).mono ?_; rintro e w1 ⟨rfl, rfl⟩; clear H1)
    go_ret
    exact ⟨rfl, (Ext.refl _).alloc _⟩
  | false =>
    rw [hA] at h1
    have H1 := Lib.hid h1
    clear h1
    clear hA hr
    go_enter Try.func59, Try.ntmps59
    go_wp2_with (go_at_call 75; refine (H1.out _).mono ?_; rintro e w1 ⟨rfl, rfl⟩; clear H1)
    go_ret
    exact ⟨rfl, (Ext.refl _).alloc _⟩
theorem great_any (a : Option Addr) (len cap : Nat) (w : World) : Calls Try.prog 14 #[.agg #[.slice a len cap]] w fun e w' => e = .returned (.bool (decide (60 < len))) ∧ Ext w w' := by
  have hd : decide ((60 : Int) < (len : Int)) = decide (60 < len) := by simp; omega
  go_enter Try.func14, Try.ntmps14
  go_wp2_with fail
  go_ret
  exact ⟨ret_bool (by first | rfl | exact hd), (Ext.refl _).alloc _⟩
theorem nearRef_any (x y far : Int) (w : World) (h : NearOk x y far) : Calls Try.prog 80 #[.int .i64 x, .int .i64 y, .int .i64 far] w (OwnHalves (around x y far) w) := by
  obtain ⟨x0, x1, y0, y1, f0, f1⟩ := h
  have e : around x y far = [⟨1, 0, x + far⟩, ⟨-1, 0, far - x⟩, ⟨0, 1, y + far⟩, ⟨0, -1, far - y⟩] := by
    unfold around box
    simp only [List.cons.injEq, Half.mk.injEq, and_true, true_and]
    omega
  rw [e]
  clear e
  go_enter Try.func80, Try.ntmps80
  go_wp2_with fail
  go_ret
  refine ⟨_, _, rfl, (show 4 ≤ 4 from Nat.le_refl 4), (show 4 ≤ maxLen by decide), ?_, halves_block [⟨1, 0, x + far⟩, ⟨-1, 0, far - x⟩, ⟨0, 1, y + far⟩, ⟨0, -1, far - y⟩] (alloc_at _ _ _ (by simp)), fun x hx => by cases hx; simp⟩
  repeat (first | exact Ext.refl _ | refine Ext.alloc ?_ _ | refine Ext.setCell ?_ (by first | (simp; done) | (simp; omega)) _ | refine Ext.drew ?_)
set_option maxRecDepth 100000 in
set_option maxHeartbeats 4000000 in
theorem joined_any (a : Option Addr) (len cap : Nat) (l : List Half) (b : Option Addr) (m mc : Nat) (M : List Half) (w : World) (hl : HalvesAt w a len l) (hM : HalvesAt w b m M) (hlen : len ≤ 100000) (hm : m ≤ 100000) : Calls Try.prog 50 #[.slice a len cap, .slice b m mc] w (OwnHalves (l ++ M) w) := by
  have hll := hl.1
  have hml := hM.1
  have hrl : (halfRows l).length = len := by rw [halfRows_len]; exact hll
  have hrm : (halfRows M).length = m := by rw [halfRows_len]; exact hml
  have hsl : SlAt w 3 a len (fun k => (halfRows l).getD k []) := hl.src
  have Hrl := Lib.hid hrl
  have Hrm := Lib.hid hrm
  have Hsl := Lib.hid hsl
  have HM := Lib.hid hM
  have Hl := Lib.hid hl
  clear hrl hrm hsl hM hl
  go_enter Try.func50, Try.ntmps50
  go_wp2_with (at_builtin; refine wpList_app elem22 _ rfl (.tmp 5) (.tmp 6) rfl w.heap.size _ (halfRows []) rfl (Owns.empty' (alloc_at _ _ _ rfl) (Nat.le_refl _) rfl (by decide)) a len cap (halfRows l) rfl Hrl.out (Hsl.out.ext ((Ext.refl _).alloc _)) (halfRows_row _) ?_ ?_ ?_)
  · show 0 + len ≤ 1000000000
    omega
  · simp
  intro v4 w4 ho4 hg4 _
  rw [show halfRows [] ++ halfRows l = halfRows l from rfl] at ho4
  have hx4 : Ext w w4 := ((Ext.refl w).alloc _).app (Owns.empty' (sz := 3) (cap := 0) (alloc_at _ _ _ rfl) (Nat.le_refl _) rfl (by decide)) hg4
  obtain ⟨va4, vc4, hv4, _, _, _, _⟩ := ho4.slAt
  subst hv4
  have hM4 := (HM.out.ext hx4).src
  have Ho4 := Lib.hid ho4
  have Hx4 := Lib.hid hx4
  have HM4 := Lib.hid hM4
  clear ho4 hx4 hM4
  clear hg4
  go_wp2_with (at_builtin; refine wpList_app elem22 _ rfl (.tmp 7) (.tmp 8) rfl w.heap.size _ (halfRows l) rfl Ho4.out b m mc (halfRows M) rfl Hrm.out HM4.out (halfRows_row _) ?_ ?_ ?_)
  · rw [Hrl.out]
    omega
  · exact Hx4.out.size
  intro v5 w5 ho5 hg5 _
  rw [← halfRows_append] at ho5
  have hx5 := Hx4.out.app Ho4.out hg5
  obtain ⟨a5, c5, hv5, hf5, hc5, hm5, hM5⟩ := halves_of_owns ho5
  obtain ⟨N, hN⟩ : ∃ N, (l ++ M).length = N := ⟨_, rfl⟩
  rw [hN] at hv5 hc5 hM5
  subst hv5
  have Ho5 := Lib.hid ho5
  have HM5 := Lib.hid hM5
  have Hx5 := Lib.hid hx5
  have HN := Lib.hid hN
  clear ho5 hM5 hx5 hN
  clear hg5
  go_wp2_with fail
  go_ret
  unfold OwnHalves
  rw [HN.out]
  exact ⟨_, _, rfl, hc5, hm5, Hx5.out, HM5.out, hf5⟩
set_option maxRecDepth 100000 in
theorem twin_any (a : Option Addr) (len cap : Nat) (l : List Half) (w : World) (hl : HalvesAt w a len l) (hlen : len ≤ 100000) : Calls Try.prog 15 #[.agg #[.slice a len cap]] w fun e w' => ∃ b c, e = .returned (.agg #[.slice b len c]) ∧ len ≤ c ∧ c ≤ maxLen ∧ Ext w w' ∧ HalvesAt w' b len l ∧ From w.heap.size b := by
  have hj := fun W (hW : Ext w W) => joined_any a len cap l none 0 0 [] W (hl.ext hW) ⟨rfl, fun h => absurd h (by simp)⟩ hlen (by omega)
  rw [List.append_nil] at hj
  have hll := hl.1
  unfold OwnHalves at hj
  rw [hll] at hj
  have Hj := Lib.hid hj
  clear hj
  clear hl
  go_enter Try.func15, Try.ntmps15
  go_wp2_with (go_at_call 50; refine (Hj.out _ (((Ext.refl _).alloc _).alloc _)).mono ?_; rintro e w1 ⟨b, c, rfl, h1, h2, h3, h4, h5⟩; have hr1 := h3.heap (alloc_at (w.alloc (.cells #[.slice a len cap] 24)) (.cells #[.slice none 0 0] 24) (w.heap.size + 1) (by simp)); have hlr := heap_lt hr1; obtain ⟨f0, _⟩ := (Ext.refl w1).box hr1)
  refine bodyPost_ret (results_cell_row rfl _ _ (w.heap.size + 1) 24 #[.slice b len c] (0, 0) _ rfl (by simp only [heap_setCell_box, hr1, Option.map_some, setIn_cells, List.setIfInBounds_toArray, List.set_cons_zero, List.set_cons_succ]) Try.underlying24 rfl (by kernel_rfl)) rfl ?_
  refine ⟨_, _, rfl, h1, h2, ((((Ext.refl _).alloc _).alloc _).trans h3).setCell (p := ⟨w.heap.size + 1, 0, none⟩) (by simp only; omega) _, h4.same fun X hX => Below.heap_setCell _ _ _ _ ?_, fun X hX => ?_⟩
  · have := h5 X hX
    simp at this
    simp only
    omega
  · have := h5 X hX
    simp at this
    omega
end Go.Proofs.Ytacdndehlkaaeaa

/- The reference: whether an area is valid. -/
namespace Go.Proofs.Ytacdndehlkaaeaa
open Go.RowKit
set_option linter.unusedVariables false
set_option linter.unusedSimpArgs false
theorem area_of_all {l : List Half} {n : Nat} (hn : l.length = n) (h : ∀ j x, j < n → l[j]? = some x → halfOk x = true) : l.all halfOk = true := by
  rw [List.all_eq_true]
  intro x hx
  obtain ⟨j, hj, rfl⟩ := List.mem_iff_getElem.1 hx
  exact h j _ (by omega) (List.getElem?_eq_getElem hj)
theorem area_not {l : List Half} {j : Nat} {x : Half} (h : l[j]? = some x) (hx : halfOk x = false) : areaOk l = false := by
  have : l.all halfOk = false := by
    rw [Bool.eq_false_iff]
    intro e
    rw [List.all_eq_true.1 e x (List.mem_of_getElem? h)] at hx
    cases hx
  unfold areaOk
  rw [this, Bool.and_false]
set_option maxRecDepth 100000 in
set_option maxHeartbeats 4000000 in
theorem area_any (a : Option Addr) (len cap : Nat) (l : List Half) (w : World) (hl : HalvesAt w a len l) (hlen : len ≤ 100000) : Calls Try.prog 53 #[.agg #[.slice a len cap]] w fun e w' => e = .returned (.bool (areaOk l)) ∧ Ext w w' := by
  have hw := within_any
  have hw1 := fun W => within_any len 4 40 W
  have hll := hl.1
  have hb1 := heap_alloc_new w (.cells #[.slice a len cap] 24)
  cases hin : inB (len : Int) 4 40 with
  | false =>
    have hr : areaOk l = false := by
      unfold areaOk
      rw [Bool.eq_false_iff]
      intro h
      simp only [Bool.and_eq_true, decide_eq_true_eq] at h
      have : inB (len : Int) 4 40 = true := by
        simp only [inB, Bool.and_eq_true, decide_eq_true_eq]
        omega
      rw [hin] at this
      cases this
    rw [hr]
    rw [hin] at hw1
    have Hw1 := Lib.hid hw1
    clear hw1
    clear hl hw hr hin
    go_enter Try.func53, Try.ntmps53
    go_wp2_with (go_at_call 75; refine (Hw1.out _).mono ?_; rintro e w1 ⟨rfl, rfl⟩)
    go_ret
    exact ⟨rfl, (Ext.refl _).alloc _⟩
  | true =>
    rw [hin] at hw1
    have h4 : 4 ≤ len ∧ len ≤ 40 := by
      simp only [inB, Bool.and_eq_true, decide_eq_true_eq] at hin
      omega
    obtain ⟨W0, hW0⟩ : ∃ W0, w.alloc (.cells #[.slice a len cap] 24) = W0 := ⟨_, rfl⟩
    have hx0 : Ext w W0 := by rw [← hW0]; exact (Ext.refl w).alloc _
    have hb0 : W0.heap[w.heap.size]? = some (.cells #[.slice a len cap] 24 (0, 0)) := by rw [← hW0]; exact hb1
    obtain ⟨R, hR⟩ : ∃ R, areaOk l = R := ⟨_, rfl⟩
    rw [hR]
    have hc0 := ((Ext.refl W0).box hb0).1
    have Hw := Lib.hid hw
    have Hw1 := Lib.hid hw1
    have Hll := Lib.hid hll
    have Hx0 := Lib.hid hx0
    have Hb0 := Lib.hid hb0
    have Hl := Lib.hid hl
    have HR := Lib.hid hR
    clear hw hw1 hll hx0 hb0 hl hR
    clear hin hb1
    go_enter Try.func53, Try.ntmps53
    go_upto_region 4 with (go_at_call 75; refine (Hw1.out _).mono ?_; rintro e w1 ⟨rfl, hw⟩; subst w1)
    clear hc0 hW0
    go_loopw [3] (fun i wr => ∃ j : Nat, j ≤ len ∧ i = .int .i64 j ∧ Ext W0 wr ∧ ∀ q x, q < j → l[q]? = some x → halfOk x = true) (fun i _ => len - (intOf i).toNat)
    case atStart => exact ⟨0, Nat.zero_le _, rfl, Ext.refl _, fun q x hq => by omega⟩
    case round =>
      obtain ⟨j, hj, rfl, hx, hall⟩ := hrel
      obtain ⟨e0, _⟩ := hx.box Hb0.out
      by_cases hlt : j < len
      · have hltB : decide ((j : Int) < (len : Int)) = true := by simp; omega
        obtain ⟨ab, ao, x, rfl, hjx, hab, c0, c1, c2⟩ := (Hl.out.ext (Hx0.out.trans hx)).get j hlt
        have hno := fun (h : halfOk x = false) => HR.out.symm.trans (area_not hjx h)
        have hyes : halfOk x = true → ∀ q x, q < j + 1 → l[q]? = some x → halfOk x = true := fun h q y hq h1 => by
          rcases Nat.lt_or_ge q j with h' | h'
          · exact hall q y h' h1
          · obtain rfl : q = j := by omega
            rw [hjx] at h1
            cases h1
            exact h
        have hk : halfOk x = (inB x.a (-1000) 1000 && inB x.b (-1000) 1000 && (x.a != 0 || x.b != 0) && inB x.c (-100000000000) 100000000000) := rfl
        have Hx := Lib.hid hx
        have Hno := Lib.hid hno
        have Hyes := Lib.hid hyes
        have Hk := Lib.hid hk
        clear hx hno hyes hk
        clear hall hjx
        cases h1 : inB x.a (-1000) 1000 with
        | false =>
          have hr := Hno.out (by rw [Hk.out, h1]; rfl)
          have Hr := Lib.hid hr
          clear hr
          go_wp2_with (go_at_call 75; refine (Hw.out _ _ _ _).mono ?_; rintro e w1 ⟨rfl, rfl⟩)
          go_ret
          exact ⟨ret_bool Hr.out.symm, (Hx0.out.trans Hx.out).alloc _⟩
        | true =>
          cases h2 : inB x.b (-1000) 1000 with
          | false =>
            have hr := Hno.out (by rw [Hk.out, h1, h2]; rfl)
            have Hr := Lib.hid hr
            clear hr
            go_wp2_with (go_at_call 75; refine (Hw.out _ _ _ _).mono ?_; rintro e w1 ⟨rfl, rfl⟩)
            go_ret
            exact ⟨ret_bool Hr.out.symm, (Hx0.out.trans Hx.out).alloc _⟩
          | true =>
            cases h3 : x.a == 0 with
            | true =>
              cases h4 : x.b == 0 with
              | true =>
                have hr := Hno.out (by rw [Hk.out, h1, h2, bne, bne, h3, h4]; rfl)
                have Hr := Lib.hid hr
                clear hr
                go_wp2_with (go_at_call 75; refine (Hw.out _ _ _ _).mono ?_; rintro e w1 ⟨rfl, rfl⟩)
                go_ret
                exact ⟨ret_bool Hr.out.symm, (Hx0.out.trans Hx.out).alloc _⟩
              | false =>
                cases h5 : inB x.c (-100000000000) 100000000000 with
                | false =>
                  have hr := Hno.out (by rw [Hk.out, h1, h2, bne, bne, h3, h4, h5]; rfl)
                  have Hr := Lib.hid hr
                  clear hr
                  go_wp2_with (go_at_call 75; refine (Hw.out _ _ _ _).mono ?_; rintro e w1 ⟨rfl, rfl⟩)
                  go_ret
                  exact ⟨ret_bool Hr.out.symm, (Hx0.out.trans Hx.out).alloc _⟩
                | true =>
                  have hr := Hyes.out (by rw [Hk.out, h1, h2, bne, bne, h3, h4, h5]; rfl)
                  have Hr := Lib.hid hr
                  clear hr
                  go_wp2_with (go_at_call 75; refine (Hw.out _ _ _ _).mono ?_; rintro e w1 ⟨rfl, rfl⟩)
                  go_roundw
                  case rel => exact ⟨j + 1, by omega, by go_num, Hx.out.alloc _, Hr.out⟩
                  case measure => simp [intOf]; omega
            | false =>
              cases h5 : inB x.c (-100000000000) 100000000000 with
              | false =>
                have hr := Hno.out (by rw [Hk.out, h1, h2, bne, bne, h3, h5]; simp)
                have Hr := Lib.hid hr
                clear hr
                go_wp2_with (go_at_call 75; refine (Hw.out _ _ _ _).mono ?_; rintro e w1 ⟨rfl, rfl⟩)
                go_ret
                exact ⟨ret_bool Hr.out.symm, (Hx0.out.trans Hx.out).alloc _⟩
              | true =>
                have hr := Hyes.out (by rw [Hk.out, h1, h2, bne, bne, h3, h5]; simp)
                have Hr := Lib.hid hr
                clear hr
                go_wp2_with (go_at_call 75; refine (Hw.out _ _ _ _).mono ?_; rintro e w1 ⟨rfl, rfl⟩)
                go_roundw
                case rel => exact ⟨j + 1, by omega, by go_num, Hx.out.alloc _, Hr.out⟩
                case measure => simp [intOf]; omega
      · have hltB : decide ((j : Int) < (len : Int)) = false := by simp; omega
        obtain rfl : len = j := by omega
        have hal := area_of_all Hll.out hall
        have hlw := Hl.out.ext (Hx0.out.trans hx)
        obtain ⟨ab, ao, x0, rfl, hj0, hab, c0, c1, _⟩ := hlw.get 0 (by omega)
        obtain ⟨_, _, x1, e, hj1, _, d0, d1, _⟩ := hlw.get 1 (by omega)
        cases e
        obtain ⟨_, _, x2, e, hj2, _, k0, k1, _⟩ := hlw.get 2 (by omega)
        cases e
        obtain ⟨_, _, x3, e, hj3, _, m0, m1, _⟩ := hlw.get 3 (by omega)
        cases e
        simp only [Nat.zero_mul, Nat.add_zero, Nat.one_mul, Nat.reduceMul] at c0 c1 d0 d1 k0 k1 m0 m1
        have hres : R = (x0.a == 1 && x0.b == 0 && (x1.a == -1 && x1.b == 0) && (x2.a == 0 && x2.b == 1) && (x3.a == 0 && x3.b == -1)) := by
          rw [← HR.out]
          unfold areaOk head4 isAB
          have g : ∀ i x, l[i]? = some x → l.getD i zh = x := fun i x h => by simp [List.getD, h]
          rw [g 0 _ hj0, g 1 _ hj1, g 2 _ hj2, g 3 _ hj3, hal, Bool.and_true, decide_eq_true (show 4 ≤ l.length by have := Hll.out; omega), decide_eq_true (show l.length ≤ 40 by have := Hll.out; omega)]
          rfl
        have hl4 : decide ((0 : Int) < (len : Int)) = true := by simp; omega
        have Hx := Lib.hid hx
        have Hres := Lib.hid hres
        clear hx hres
        clear hall hlw hal hj0 hj1 hj2 hj3
        cases h0 : x0.a == 1
        · go_wp2_with fail
          go_ret
          exact ⟨ret_bool (by rw [Hres.out]; simp [*]), Hx0.out.trans Hx.out⟩
        cases h1 : x0.b == 0
        · go_wp2_with fail
          go_ret
          exact ⟨ret_bool (by rw [Hres.out]; simp [*]), Hx0.out.trans Hx.out⟩
        cases h2 : x1.a == -1
        · go_wp2_with fail
          go_ret
          exact ⟨ret_bool (by rw [Hres.out]; simp [*]), Hx0.out.trans Hx.out⟩
        cases h3 : x1.b == 0
        · go_wp2_with fail
          go_ret
          exact ⟨ret_bool (by rw [Hres.out]; simp [*]), Hx0.out.trans Hx.out⟩
        cases h4 : x2.a == 0
        · go_wp2_with fail
          go_ret
          exact ⟨ret_bool (by rw [Hres.out]; simp [*]), Hx0.out.trans Hx.out⟩
        cases h5 : x2.b == 1
        · go_wp2_with fail
          go_ret
          exact ⟨ret_bool (by rw [Hres.out]; simp [*]), Hx0.out.trans Hx.out⟩
        cases h6 : x3.a == 0
        · go_wp2_with fail
          go_ret
          exact ⟨ret_bool (by rw [Hres.out]; simp [*]), Hx0.out.trans Hx.out⟩
        cases h7 : x3.b == -1
        · go_wp2_with fail
          go_ret
          exact ⟨ret_bool (by rw [Hres.out]; simp [*]), Hx0.out.trans Hx.out⟩
        · go_wp2_with fail
          go_ret
          exact ⟨ret_bool (by rw [Hres.out]; simp [*]), Hx0.out.trans Hx.out⟩
end Go.Proofs.Ytacdndehlkaaeaa
