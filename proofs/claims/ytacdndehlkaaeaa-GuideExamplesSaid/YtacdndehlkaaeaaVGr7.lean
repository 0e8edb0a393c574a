/- The laws' own small functions: places within, places in an area. -/
import Derived.Test.YtacdndehlkaaeaaVTrekA
import Derived.BigQuiet
namespace Go.Proofs.Ytacdndehlkaaeaa
open Go.RowKit
set_option linter.unusedVariables false
set_option linter.unusedSimpArgs false
def farIn (x y : Int) : Bool := decide ((-10000000000 < x ∧ x ≤ 10000000000) ∧ (-10000000000 < y ∧ y ≤ 10000000000))
set_option maxRecDepth 100000 in
theorem farIn_any (x y : Int) (w : World) : Calls Try.prog 40 #[.int .i64 x, .int .i64 y] w fun e w' => e = .returned (.bool (farIn x y)) ∧ w' = w := by
  have hmx := fun P1 P2 P3 P4 W => run_max4 P1 P2 P3 P4 W
  by_cases hpl : (-10000000000 < x ∧ x ≤ 10000000000) ∧ (-10000000000 < y ∧ y ≤ 10000000000)
  · have hr : farIn x y = true := decide_eq_true hpl
    rw [hr]
    obtain ⟨⟨x0, x1⟩, y0, y1⟩ := hpl
    have hmxx := fun W => hmx x (-x) y (-y) W
    obtain ⟨MX, hMX⟩ : ∃ MX, max (max x (-x)) (max y (-y)) = MX := ⟨_, rfl⟩
    rw [hMX] at hmxx
    have hMX1 : MX ≤ 10000000000 := by omega
    have hMXB : decide (MX ≤ 10000000000) = true := decide_eq_true (by omega)
    have hmi : -10000000000 < (if y < x then y else x) := by split <;> omega
    obtain ⟨MI, hMI⟩ : ∃ MI, (if y < x then y else x) = MI := ⟨_, rfl⟩
    rw [hMI] at hmi
    have hMIB : decide (-10000000000 < MI) = true := decide_eq_true (by omega)
    clear hmx hMX hr
    go_enter Try.func40, Try.ntmps40
    go_wp2_with fail
    go_ret
    exact ⟨rfl, rfl⟩
  · have hr : farIn x y = false := decide_eq_false hpl
    rw [hr]
    clear hr
    go_enter Try.func40, Try.ntmps40
    go_wp2_with fail
    all_goals
      go_ret
      first
        | exact ⟨rfl, rfl⟩
        | exact ⟨ret_bool (decide_eq_false (by omega)), rfl⟩
def inB2 (l : List Half) (x y : Int) : Bool := l.all fun h => decide (h.a * x + h.b * y ≤ h.c)
theorem inB2_no {l : List Half} {x y : Int} {j : Nat} {h : Half} (hj : l[j]? = some h) (hn : h.c < h.a * x + h.b * y) : inB2 l x y = false := by
  unfold inB2
  rw [List.all_eq_false]
  exact ⟨h, List.mem_of_getElem? hj, by simp; omega⟩
theorem inB2_yes {l : List Half} {x y : Int} {n : Nat} (hn : l.length = n) (h : ∀ q k, q < n → l[q]? = some k → k.a * x + k.b * y ≤ k.c) : inB2 l x y = true := by
  unfold inB2
  rw [List.all_eq_true]
  intro k hk
  obtain ⟨j, hj, rfl⟩ := List.mem_iff_getElem.1 hk
  exact decide_eq_true (h j _ (by omega) (List.getElem?_eq_getElem hj))
set_option maxRecDepth 100000 in
theorem inPt_any (a : Option Addr) (len cap : Nat) (l : List Half) (x y : Int) (w : World) (hl : HalvesAt w a len l) (hlen : len ≤ 100000) (hh : ∀ h ∈ l, HalfIn h) (x0 : -20000000000 ≤ x) (x1 : x ≤ 20000000000) (y0 : -20000000000 ≤ y) (y1 : y ≤ 20000000000) : Calls Try.prog 41 #[.agg #[.slice a len cap], .int .i64 x, .int .i64 y] w fun e w' => e = .returned (.bool (inB2 l x y)) ∧ Ext w w' := by
  have hll := hl.1
  have hno := fun j h => inB2_no (l := l) (x := x) (y := y) (j := j) (h := h)
  have hyes := inB2_yes (x := x) (y := y) hll
  generalize inB2 l x y = R at *
  obtain ⟨W0, hW0⟩ : ∃ W0, w.alloc (.cells #[.slice a len cap] 24) = W0 := ⟨_, rfl⟩
  have hx0 : Ext w W0 := by rw [← hW0]; exact (Ext.refl w).alloc _
  have hb0 : W0.heap[w.heap.size]? = some (.cells #[.slice a len cap] 24 (0, 0)) := by rw [← hW0]; exact heap_alloc_new w _
  obtain ⟨z0, _⟩ := (Ext.refl W0).box hb0
  have Hx0 := Lib.hid hx0
  have Hb0 := Lib.hid hb0
  have Hl := Lib.hid hl
  have Hll := Lib.hid hll
  have Hh := Lib.hid hh
  have Hno := Lib.hid hno
  have Hyes := Lib.hid hyes
  clear hx0 hb0 hl hll hh hno hyes
  go_enter Try.func41, Try.ntmps41
  go_upto_region 2 with fail
  clear hW0 z0
  go_loopw [12] (fun i wr => ∃ j : Nat, j ≤ len ∧ i = .int .i64 j ∧ Ext W0 wr ∧ ∀ q k, q < j → l[q]? = some k → k.a * x + k.b * y ≤ k.c) (fun i _ => len - (intOf i).toNat)
  case atStart => exact ⟨0, Nat.zero_le _, rfl, Ext.refl _, fun q k hq => by omega⟩
  case round =>
    obtain ⟨j, hj, rfl, hx, hall⟩ := hrel
    by_cases hlt : j < len
    · have hltB : decide ((j : Int) < (len : Int)) = true := by simp; omega
      obtain ⟨ab, ao, h, rfl, hhj, hab, c0, c1, c2⟩ := (Hl.out.ext (Hx0.out.trans hx)).get j hlt
      obtain ⟨k0, k1, l0, l1, _, n0', n1'⟩ := Hh.out h (List.mem_of_getElem? hhj)
      have m1 := mul_le (A := 1000) (B := 20000000000) k0 k1 x0 x1
      have m2 := mul_le (A := 1000) (B := 20000000000) l0 l1 y0 y1
      simp only [Int.reduceMul, Int.reduceNeg] at m1 m2
      have hn := Hno.out j h hhj
      have hnext : h.a * x + h.b * y ≤ h.c → ∀ q k, q < j + 1 → l[q]? = some k → k.a * x + k.b * y ≤ k.c := fun e q k hq h1 => by
        rcases Nat.lt_or_ge q j with h' | h'
        · exact hall q k h' h1
        · obtain rfl : q = j := by omega
          rw [hhj] at h1
          cases h1
          exact e
      obtain ⟨T1, t1⟩ : ∃ P, h.a * x = P := ⟨_, rfl⟩
      obtain ⟨T2, t2⟩ : ∃ P, h.b * y = P := ⟨_, rfl⟩
      rw [t1] at m1 hn hnext
      rw [t2] at m2 hn hnext
      by_cases hgt : h.c < T1 + T2
      · have hgB : decide (h.c < T1 + T2) = true := decide_eq_true hgt
        obtain rfl := hn hgt
        have Hx := Lib.hid hx
        clear hx
        clear hn hnext hall
        go_wp2_with fail
        go_ret
        exact ⟨rfl, Hx0.out.trans (Hx.out.alloc _)⟩
      · have hgB : decide (h.c < T1 + T2) = false := decide_eq_false hgt
        have hnx := hnext (by omega)
        have Hx := Lib.hid hx
        have Hnx := Lib.hid hnx
        clear hx hnx
        clear hn hnext hall
        go_wp2_with fail
        go_roundw
        case rel => exact ⟨j + 1, by omega, by go_num, Hx.out.alloc _, Hnx.out⟩
        case measure => simp [intOf]; omega
    · have hltB : decide ((j : Int) < (len : Int)) = false := by simp; omega
      obtain rfl : len = j := by omega
      obtain rfl := Hyes.out hall
      have Hx := Lib.hid hx
      clear hx
      clear hall
      go_wp2_with fail
      go_ret
      exact ⟨rfl, Hx0.out.trans Hx.out⟩
end Go.Proofs.Ytacdndehlkaaeaa

/- The laws' own small functions: what a look has seen. -/
namespace Go.Proofs.Ytacdndehlkaaeaa
open Go.RowKit
set_option linter.unusedVariables false
set_option linter.unusedSimpArgs false
set_option maxRecDepth 100000 in
set_option maxHeartbeats 4000000 in
theorem seen_any (s : Sight) (x y : Int) (w : World) (hs : sightOk s = true) (x0 : -20000000000 ≤ x) (x1 : x ≤ 20000000000) (y0 : -20000000000 ≤ y) (y1 : y ≤ 20000000000) : Calls Try.prog 43 #[s.val, .int .i64 x, .int .i64 y] w fun e w' => e = .returned (.bool (seenB s x y)) ∧ Ext w w' := by
  obtain ⟨kd, sx, sy, fx, fy, tx, ty, nl, nh, far⟩ := s
  unfold sightOk pointedB risenB closeB spanOk placeOk partOk inB at hs
  unfold Sight.val seenB
  simp only at hs ⊢
  obtain ⟨W0, hW0⟩ : ∃ W0, w.alloc (.cells #[.int .u8 kd, .int .i64 sx, .int .i64 sy, .int .i64 fx, .int .i64 fy, .int .i64 tx, .int .i64 ty, .int .i64 nl, .int .i64 nh, .int .i64 far] 30) = W0 := ⟨_, rfl⟩
  have hx0 : Ext w W0 := by rw [← hW0]; exact (Ext.refl w).alloc _
  have hb0 : W0.heap[w.heap.size]? = some (.cells #[.int .u8 kd, .int .i64 sx, .int .i64 sy, .int .i64 fx, .int .i64 fy, .int .i64 tx, .int .i64 ty, .int .i64 nl, .int .i64 nh, .int .i64 far] 30 (0, 0)) := by rw [← hW0]; exact heap_alloc_new w _
  obtain ⟨z0, _⟩ := (Ext.refl W0).box hb0
  have Hx0 := Lib.hid hx0
  have Hb0 := Lib.hid hb0
  clear hx0 hb0
  by_cases k1 : kd = 1
  · subst k1
    rw [if_pos rfl] at hs ⊢
    simp only [Bool.and_eq_true, decide_eq_true_eq] at hs
    obtain ⟨⟨⟨⟨a0, a1⟩, b0, b1⟩, ⟨⟨⟨c0, c1⟩, d0, d1⟩, e0, e1⟩, f0, f1⟩, _⟩ := hs
    have m1 := mul_le (A := 1000) (B := 20010000000) c0 c1 (show -20010000000 ≤ sy - y by omega) (show sy - y ≤ 20010000000 by omega)
    have m2 := mul_le (A := 1000) (B := 20010000000) d0 d1 (show -20010000000 ≤ sx - x by omega) (show sx - x ≤ 20010000000 by omega)
    have m3 := mul_le (A := 20010000000) (B := 1000) (show -20010000000 ≤ sx - x by omega) (show sx - x ≤ 20010000000 by omega) f0 f1
    have m4 := mul_le (A := 20010000000) (B := 1000) (show -20010000000 ≤ sy - y by omega) (show sy - y ≤ 20010000000 by omega) e0 e1
    simp only [Int.reduceMul, Int.reduceNeg] at m1 m2 m3 m4
    obtain ⟨T1, t1⟩ : ∃ P, fx * (sy - y) = P := ⟨_, rfl⟩
    obtain ⟨T2, t2⟩ : ∃ P, fy * (sx - x) = P := ⟨_, rfl⟩
    obtain ⟨T3, t3⟩ : ∃ P, (sx - x) * ty = P := ⟨_, rfl⟩
    obtain ⟨T4, t4⟩ : ∃ P, (sy - y) * tx = P := ⟨_, rfl⟩
    rw [t1] at m1 ⊢
    rw [t2] at m2 ⊢
    rw [t3] at m3 ⊢
    rw [t4] at m4 ⊢
    obtain ⟨R, hR⟩ : ∃ R, (decide (0 ≤ T1 - T2) && decide (0 ≤ T3 - T4)) = R := ⟨_, rfl⟩
    rw [hR]
    have HR := Lib.hid hR
    clear hR
    go_enter Try.func43, Try.ntmps43
    go_upto_region 3 with fail
    clear hW0 z0
    refine wp_region_ext (by kernel_rfl) (by kernel_rfl) (fun f hf hs => ?_)
    have f0 := fun q => ((hf q).box Hb0.out).1
    clear hf hs
    repeat (go_big_quiet_step (fail))
    refine wpQuiet_nil ?_
    intro W1 hW1
    clear f0
    obtain ⟨z1, _⟩ := hW1.box Hb0.out
    by_cases u1 : 0 ≤ T1 - T2
    · have u1B : decide (0 ≤ T1 - T2) = true := decide_eq_true u1
      have u1C : decide (T2 ≤ T1) = true := decide_eq_true (by omega)
      by_cases u2 : 0 ≤ T3 - T4
      · have u2B : decide (0 ≤ T3 - T4) = true := decide_eq_true u2
        have u2C : decide (T4 ≤ T3) = true := decide_eq_true (by omega)
        have hr := HR.out
        rw [u1B, u2B] at hr
        obtain rfl := hr
        go_wp2_with fail
        all_goals
          go_ret
          exact ⟨rfl, Hx0.out.trans hW1⟩
      · have u2B : decide (0 ≤ T3 - T4) = false := decide_eq_false u2
        have u2C : decide (T4 ≤ T3) = false := decide_eq_false (by omega)
        have hr := HR.out
        rw [u1B, u2B] at hr
        obtain rfl := hr
        go_wp2_with fail
        all_goals
          go_ret
          exact ⟨rfl, Hx0.out.trans hW1⟩
    · have u1B : decide (0 ≤ T1 - T2) = false := decide_eq_false u1
      have u1C : decide (T2 ≤ T1) = false := decide_eq_false (by omega)
      have hr := HR.out
      rw [u1B] at hr
      obtain rfl := hr
      go_wp2_with fail
      all_goals
        go_ret
        exact ⟨rfl, Hx0.out.trans hW1⟩
  · rw [if_neg k1] at hs ⊢
    have k1B : (kd == 1) = false := by simp; exact k1
    have k1B' : decide (kd = 1) = false := decide_eq_false k1
    by_cases k2 : kd = 2
    · subst k2
      rw [if_pos rfl] at hs ⊢
      simp only [Bool.and_eq_true, decide_eq_true_eq] at hs
      by_cases u1 : nl ≤ y
      · have u1B : decide (nl ≤ y) = true := decide_eq_true u1
        by_cases u2 : y ≤ nh
        · have u2B : decide (y ≤ nh) = true := decide_eq_true u2
          rw [u1B, u2B]
          go_enter Try.func43, Try.ntmps43
          go_wp2_with fail
          go_ret
          exact ⟨rfl, Hx0.out⟩
        · have u2B : decide (y ≤ nh) = false := decide_eq_false u2
          rw [u1B, u2B]
          go_enter Try.func43, Try.ntmps43
          go_wp2_with fail
          go_ret
          exact ⟨rfl, Hx0.out⟩
      · have u1B : decide (nl ≤ y) = false := decide_eq_false u1
        rw [u1B]
        go_enter Try.func43, Try.ntmps43
        go_wp2_with fail
        go_ret
        exact ⟨rfl, Hx0.out⟩
    · rw [if_neg k2] at hs ⊢
      have k2B : (kd == 2) = false := by simp; exact k2
      by_cases k3 : kd = 3
      · subst k3
        rw [if_pos rfl] at hs
        simp only [Bool.and_eq_true, decide_eq_true_eq] at hs
        obtain ⟨⟨⟨a0, a1⟩, b0, b1⟩, c0, c1⟩ := hs
        have hmx := fun W => run_max4 (sx - x) (x - sx) (sy - y) (y - sy) W
        obtain ⟨MX, hMX⟩ : ∃ MX, max (max (sx - x) (x - sx)) (max (sy - y) (y - sy)) = MX := ⟨_, rfl⟩
        rw [hMX] at hmx
        have hR : (decide (sx - x ≤ far) && decide (x - sx ≤ far) && decide (sy - y ≤ far) && decide (y - sy ≤ far)) = decide (MX ≤ far) := by
          rw [Bool.eq_iff_iff]
          simp only [Bool.and_eq_true, decide_eq_true_eq]
          omega
        rw [hR]
        clear hR hMX
        cases hB : decide (MX ≤ far) with
        | true =>
          go_enter Try.func43, Try.ntmps43
          go_wp2_with fail
          go_ret
          exact ⟨rfl, Hx0.out⟩
        | false =>
          go_enter Try.func43, Try.ntmps43
          go_wp2_with fail
          go_ret
          exact ⟨rfl, Hx0.out⟩
      · rw [if_neg k3] at hs
        cases hs
end Go.Proofs.Ytacdndehlkaaeaa
