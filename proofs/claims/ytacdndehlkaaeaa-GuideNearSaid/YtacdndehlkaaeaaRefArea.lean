/- The reference: whether an area is valid. -/
import Derived.Test.YtacdndehlkaaeaaRefA
import Derived.BigQuiet
namespace Go.Proofs.Ytacdndehlkaaeaa
open Go.RowKit
set_option linter.unusedVariables false
set_option linter.unusedSimpArgs false
theorem area_of_all {l : List Half} {n : Nat} (hn : l.length = n) (h : ∀ j x, j < n → l[j]? = some x → halfOk x = true) : l.all halfOk = true := by
  rw [List.all_eq_true]
  intro x hx
  obtain ⟨j, hj, rfl⟩ := List.mem_iff_getElem.1 hx
  exact h j _ (by omega) (List.getElem?_eq_getElem hj)
theorem area_not {l : List Half} {j : Nat} {x : Half} (h : l[j]? = some x) (hx : halfOk x = false) : areaOk l = false := by
  have : l.all halfOk = false := by
    rw [Bool.eq_false_iff]
    intro e
    rw [List.all_eq_true.1 e x (List.mem_of_getElem? h)] at hx
    cases hx
  unfold areaOk
  rw [this, Bool.and_false]
set_option maxRecDepth 100000 in
set_option maxHeartbeats 4000000 in
theorem area_any (a : Option Addr) (len cap : Nat) (l : List Half) (w : World) (hl : HalvesAt w a len l) (hlen : len ≤ 100000) : Calls Try.prog 53 #[.agg #[.slice a len cap]] w fun e w' => e = .returned (.bool (areaOk l)) ∧ Ext w w' := by
  have hw := within_any
  have hw1 := fun W => within_any len 4 40 W
  have hll := hl.1
  have hb1 := heap_alloc_new w (.cells #[.slice a len cap] 24)
  cases hin : inB (len : Int) 4 40 with
  | false =>
    have hr : areaOk l = false := by
      unfold areaOk
      rw [Bool.eq_false_iff]
      intro h
      simp only [Bool.and_eq_true, decide_eq_true_eq] at h
      have : inB (len : Int) 4 40 = true := by
        simp only [inB, Bool.and_eq_true, decide_eq_true_eq]
        omega
      rw [hin] at this
      cases this
    rw [hr]
    rw [hin] at hw1
    have Hw1 := Lib.hid hw1
    clear hw1
    clear hl hw hr hin
    go_enter Try.func53, Try.ntmps53
    go_wp2_with (go_at_call 75; refine (Hw1.out _).mono ?_; rintro e w1 ⟨rfl, rfl⟩)
    go_ret
    exact ⟨rfl, (Ext.refl _).alloc _⟩
  | true =>
    rw [hin] at hw1
    have h4 : 4 ≤ len ∧ len ≤ 40 := by
      simp only [inB, Bool.and_eq_true, decide_eq_true_eq] at hin
      omega
    obtain ⟨W0, hW0⟩ : ∃ W0, w.alloc (.cells #[.slice a len cap] 24) = W0 := ⟨_, rfl⟩
    have hx0 : Ext w W0 := by rw [← hW0]; exact (Ext.refl w).alloc _
    have hb0 : W0.heap[w.heap.size]? = some (.cells #[.slice a len cap] 24 (0, 0)) := by rw [← hW0]; exact hb1
    obtain ⟨R, hR⟩ : ∃ R, areaOk l = R := ⟨_, rfl⟩
    rw [hR]
    have hc0 := ((Ext.refl W0).box hb0).1
    have Hw := Lib.hid hw
    have Hw1 := Lib.hid hw1
    have Hll := Lib.hid hll
    have Hx0 := Lib.hid hx0
    have Hb0 := Lib.hid hb0
    have Hl := Lib.hid hl
    have HR := Lib.hid hR
    clear hw hw1 hll hx0 hb0 hl hR
    clear hin hb1
    go_enter Try.func53, Try.ntmps53
    go_upto_region 4 with (go_at_call 75; refine (Hw1.out _).mono ?_; rintro e w1 ⟨rfl, hw⟩; subst w1)
    clear hc0 hW0
    go_loopw [3] (fun i wr => ∃ j : Nat, j ≤ len ∧ i = .int .i64 j ∧ Ext W0 wr ∧ ∀ q x, q < j → l[q]? = some x → halfOk x = true) (fun i _ => len - (intOf i).toNat)
    case atStart => exact ⟨0, Nat.zero_le _, rfl, Ext.refl _, fun q x hq => by omega⟩
    case round =>
      obtain ⟨j, hj, rfl, hx, hall⟩ := hrel
      obtain ⟨e0, _⟩ := hx.box Hb0.out
      by_cases hlt : j < len
      · have hltB : decide ((j : Int) < (len : Int)) = true := by simp; omega
        obtain ⟨ab, ao, x, rfl, hjx, hab, c0, c1, c2⟩ := (Hl.out.ext (Hx0.out.trans hx)).get j hlt
        have hno := fun (h : halfOk x = false) => HR.out.symm.trans (area_not hjx h)
        have hyes : halfOk x = true → ∀ q x, q < j + 1 → l[q]? = some x → halfOk x = true := fun h q y hq h1 => by
          rcases Nat.lt_or_ge q j with h' | h'
          · exact hall q y h' h1
          · obtain rfl : q = j := by omega
            rw [hjx] at h1
            cases h1
            exact h
        have hk : halfOk x = (inB x.a (-1000) 1000 && inB x.b (-1000) 1000 && (x.a != 0 || x.b != 0) && inB x.c (-100000000000) 100000000000) := rfl
        have Hx := Lib.hid hx
        have Hno := Lib.hid hno
        have Hyes := Lib.hid hyes
        have Hk := Lib.hid hk
        clear hx hno hyes hk
        clear hall hjx
        cases h1 : inB x.a (-1000) 1000 with
        | false =>
          have hr := Hno.out (by rw [Hk.out, h1]; rfl)
          have Hr := Lib.hid hr
          clear hr
          go_wp2_with (go_at_call 75; refine (Hw.out _ _ _ _).mono ?_; rintro e w1 ⟨rfl, rfl⟩)
          go_ret
          exact ⟨ret_bool Hr.out.symm, (Hx0.out.trans Hx.out).alloc _⟩
        | true =>
          cases h2 : inB x.b (-1000) 1000 with
          | false =>
            have hr := Hno.out (by rw [Hk.out, h1, h2]; rfl)
            have Hr := Lib.hid hr
            clear hr
            go_wp2_with (go_at_call 75; refine (Hw.out _ _ _ _).mono ?_; rintro e w1 ⟨rfl, rfl⟩)
            go_ret
            exact ⟨ret_bool Hr.out.symm, (Hx0.out.trans Hx.out).alloc _⟩
          | true =>
            cases h3 : x.a == 0 with
            | true =>
              cases h4 : x.b == 0 with
              | true =>
                have hr := Hno.out (by rw [Hk.out, h1, h2, bne, bne, h3, h4]; rfl)
                have Hr := Lib.hid hr
                clear hr
                go_wp2_with (go_at_call 75; refine (Hw.out _ _ _ _).mono ?_; rintro e w1 ⟨rfl, rfl⟩)
                go_ret
                exact ⟨ret_bool Hr.out.symm, (Hx0.out.trans Hx.out).alloc _⟩
              | false =>
                cases h5 : inB x.c (-100000000000) 100000000000 with
                | false =>
                  have hr := Hno.out (by rw [Hk.out, h1, h2, bne, bne, h3, h4, h5]; rfl)
                  have Hr := Lib.hid hr
                  clear hr
                  go_wp2_with (go_at_call 75; refine (Hw.out _ _ _ _).mono ?_; rintro e w1 ⟨rfl, rfl⟩)
                  go_ret
                  exact ⟨ret_bool Hr.out.symm, (Hx0.out.trans Hx.out).alloc _⟩
                | true =>
                  have hr := Hyes.out (by rw [Hk.out, h1, h2, bne, bne, h3, h4, h5]; rfl)
                  have Hr := Lib.hid hr
                  clear hr
                  go_wp2_with (go_at_call 75; refine (Hw.out _ _ _ _).mono ?_; rintro e w1 ⟨rfl, rfl⟩)
                  go_roundw
                  case rel => exact ⟨j + 1, by omega, by go_num, Hx.out.alloc _, Hr.out⟩
                  case measure => simp [intOf]; omega
            | false =>
              cases h5 : inB x.c (-100000000000) 100000000000 with
              | false =>
                have hr := Hno.out (by rw [Hk.out, h1, h2, bne, bne, h3, h5]; simp)
                have Hr := Lib.hid hr
                clear hr
                go_wp2_with (go_at_call 75; refine (Hw.out _ _ _ _).mono ?_; rintro e w1 ⟨rfl, rfl⟩)
                go_ret
                exact ⟨ret_bool Hr.out.symm, (Hx0.out.trans Hx.out).alloc _⟩
              | true =>
                have hr := Hyes.out (by rw [Hk.out, h1, h2, bne, bne, h3, h5]; simp)
                have Hr := Lib.hid hr
                clear hr
                go_wp2_with (go_at_call 75; refine (Hw.out _ _ _ _).mono ?_; rintro e w1 ⟨rfl, rfl⟩)
                go_roundw
                case rel => exact ⟨j + 1, by omega, by go_num, Hx.out.alloc _, Hr.out⟩
                case measure => simp [intOf]; omega
      · have hltB : decide ((j : Int) < (len : Int)) = false := by simp; omega
        obtain rfl : len = j := by omega
        have hal := area_of_all Hll.out hall
        have hlw := Hl.out.ext (Hx0.out.trans hx)
        obtain ⟨ab, ao, x0, rfl, hj0, hab, c0, c1, _⟩ := hlw.get 0 (by omega)
        obtain ⟨_, _, x1, e, hj1, _, d0, d1, _⟩ := hlw.get 1 (by omega)
        cases e
        obtain ⟨_, _, x2, e, hj2, _, k0, k1, _⟩ := hlw.get 2 (by omega)
        cases e
        obtain ⟨_, _, x3, e, hj3, _, m0, m1, _⟩ := hlw.get 3 (by omega)
        cases e
        simp only [Nat.zero_mul, Nat.add_zero, Nat.one_mul, Nat.reduceMul] at c0 c1 d0 d1 k0 k1 m0 m1
        have hres : R = (x0.a == 1 && x0.b == 0 && (x1.a == -1 && x1.b == 0) && (x2.a == 0 && x2.b == 1) && (x3.a == 0 && x3.b == -1)) := by
          rw [← HR.out]
          unfold areaOk head4 isAB
          have g : ∀ i x, l[i]? = some x → l.getD i zh = x := fun i x h => by simp [List.getD, h]
          rw [g 0 _ hj0, g 1 _ hj1, g 2 _ hj2, g 3 _ hj3, hal, Bool.and_true, decide_eq_true (show 4 ≤ l.length by have := Hll.out; omega), decide_eq_true (show l.length ≤ 40 by have := Hll.out; omega)]
          rfl
        have hl4 : decide ((0 : Int) < (len : Int)) = true := by simp; omega
        have Hx := Lib.hid hx
        have Hres := Lib.hid hres
        clear hx hres
        clear hall hlw hal hj0 hj1 hj2 hj3
        cases h0 : x0.a == 1
        · go_wp2_with fail
          go_ret
          exact ⟨ret_bool (by rw [Hres.out]; simp [*]), Hx0.out.trans Hx.out⟩
        cases h1 : x0.b == 0
        · go_wp2_with fail
          go_ret
          exact ⟨ret_bool (by rw [Hres.out]; simp [*]), Hx0.out.trans Hx.out⟩
        cases h2 : x1.a == -1
        · go_wp2_with fail
          go_ret
          exact ⟨ret_bool (by rw [Hres.out]; simp [*]), Hx0.out.trans Hx.out⟩
        cases h3 : x1.b == 0
        · go_wp2_with fail
          go_ret
          exact ⟨ret_bool (by rw [Hres.out]; simp [*]), Hx0.out.trans Hx.out⟩
        cases h4 : x2.a == 0
        · go_wp2_with fail
          go_ret
          exact ⟨ret_bool (by rw [Hres.out]; simp [*]), Hx0.out.trans Hx.out⟩
        cases h5 : x2.b == 1
        · go_wp2_with fail
          go_ret
          exact ⟨ret_bool (by rw [Hres.out]; simp [*]), Hx0.out.trans Hx.out⟩
        cases h6 : x3.a == 0
        · go_wp2_with fail
          go_ret
          exact ⟨ret_bool (by rw [Hres.out]; simp [*]), Hx0.out.trans Hx.out⟩
        cases h7 : x3.b == -1
        · go_wp2_with fail
          go_ret
          exact ⟨ret_bool (by rw [Hres.out]; simp [*]), Hx0.out.trans Hx.out⟩
        · go_wp2_with fail
          go_ret
          exact ⟨ret_bool (by rw [Hres.out]; simp [*]), Hx0.out.trans Hx.out⟩
end Go.Proofs.Ytacdndehlkaaeaa
