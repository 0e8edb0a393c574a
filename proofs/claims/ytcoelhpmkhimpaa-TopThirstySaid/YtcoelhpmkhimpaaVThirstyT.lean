/- TopThirsty: from the search on. -/
import Derived.Test.YtcoelhpmkhimpaaVAliveE
import Derived.Test.YtcoelhpmkhimpaaVGs
import Derived.Test.YtcoelhpmkhimpaaVGd
namespace Go.Proofs.Ytcoelhpmkhimpaa
open Go.RowKit
set_option linter.unusedVariables false
set_option linter.unusedSimpArgs false
theorem dayOk_lighter {m m' : March} (h : dayOk m = true) (hl : Lighter m' m) : dayOk m' = true := by
  have hd := (dayIs h).load
  have h0 := hl.load
  have h00 := hl.zero
  simp only [dayOk, Bool.and_eq_true] at h ⊢
  obtain ⟨⟨⟨⟨h1, h2⟩, h3⟩, h4⟩, h5⟩ := h
  rw [hl.hours, hl.heat, hl.grass, hl.drinks]
  exact ⟨⟨⟨⟨h1, by unfold inB; simp; omega⟩, h3⟩, h4⟩, h5⟩
set_option maxRecDepth 100000 in
set_option maxHeartbeats 8000000 in
theorem thirstyTail {w W7 : World} {a ta : Option Addr} {len cap n tc : Nat} {x y far F0 F1 F2 L0 L1 L2 L3 : Int} {p5 : Nat} (s : Breed) (c : Camel) (m m' : March)
    (hx7 : Ext w W7) (ha7 : W7.heap[w.heap.size]? = some (.cells #[.slice a len cap] 83 (0, 0))) (hb7 : W7.heap[w.heap.size + 1]? = some (.cells s.cells.toArray 25 (0, 0))) (hc7 : W7.heap[w.heap.size + 1 + 1]? = some (.cells c.cells.toArray 27 (0, 0))) (hm7 : W7.heap[w.heap.size + 1 + 1 + 1]? = some (.cells m.cells.toArray 29 (0, 0))) (hp7 : W7.heap[p5]? = some (.cells m'.cells.toArray 29 (0, 0)))
    (hl1 : ∀ W, Calls Try.prog 14 #[s.val, c.val, m.val] W fun e w' => e = .returned (.tuple #[.agg #[.int .i64 L0, .int .i64 L1], .int .i64 0]) ∧ Ext W w')
    (hl2 : ∀ W, Calls Try.prog 14 #[s.val, c.val, m'.val] W fun e w' => e = .returned (.tuple #[.agg #[.int .i64 L2, .int .i64 L3], .int .i64 0]) ∧ Ext W w')
    (hL : L0 ≤ L2) (hM : L1 ≤ L3) (hn : n ≤ 60)
    (hfd : ∀ W, Ext w W → Calls Try.prog 29 #[.agg #[.slice a len cap], .slice ta n tc, .int .i64 x, .int .i64 y, .int .i64 far] W fun e w' => e = .returned (.tuple #[.int .i64 F0, .int .i64 F1, .int .i64 F2]) ∧ Ext W w')
    (hfi : (F2 ≠ 0 ∧ F0 = 0 ∧ F1 = 0) ∨ (F2 = 0 ∧ F0 ≤ n ∧ F1 ≤ n ∧ (0 ≤ F1 → 0 ≤ F0 ∧ F0 ≤ F1)))
    {u0 u5 u6 u7 u8 u10 u11 u12 u13 u17 u18 u21 u22 u23 u24 u25 u26 u27 u28 u29 u30 u31 u32 u33 u34 u35 u36 u37 u38 u39 u40 u41 u42 u43 u44 u45 u46 u47 u48 u49 u50 u51 u52 u53 u54 u55 u56 u57 u58 u59 u60 u61 u62 u63 u64 u65 u66 u67 u68 u69 u70 u71 u72 u73 u74 u75 u76 u77 u78 u79 u80 u81 u82 u83 u84 u85 u86 u87 u88 u89 u90 u91 u92 u93 u94 u95 u96 u97 u98 u99 u100 u101 u102 u103 u104 u105 u106 u107 u108 u109 u110 u111 u112 u113 u114 u115 u116 u117 u118 u119 u120 u121 u122 u123 u124 u125 u126 u127 u128 u129 u130 u131 u132 u133 u134 u135 u136 u137 u138 u139 u140 u141 u142 u143 u144 u145 u146 u147 u148 u149 u150 u151 u152 u153 u154 u155 u156 : Value} :
    (restFrom Try.f6 8).wp Try.prog (bodyPost Try.prog Try.f6 fun e w' => e = .returned (.bool true) ∧ Ext w w')
      ⟨#[u0, .slice ta n tc, .int .i64 x, .int .i64 y, .int .i64 far, u5, u6, u7, u8, .pointer (some ⟨w.heap.size, 0, none⟩), u10, u11, u12, u13, .pointer (some ⟨w.heap.size + 1, 0, none⟩), .pointer (some ⟨w.heap.size + 1 + 1, 0, none⟩), .pointer (some ⟨w.heap.size + 1 + 1 + 1, 0, none⟩), u17, u18, .bool true, .pointer (some ⟨p5, 0, none⟩), u21, u22, u23, u24, u25, u26, u27, u28, u29, u30, u31, u32, u33, u34, u35, u36, u37, u38, u39, u40, u41, u42, u43, u44, u45, u46, u47, u48, u49, u50, u51, u52, u53, u54, u55, u56, u57, u58, u59, u60, u61, u62, u63, u64, u65, u66, u67, u68, u69, u70, u71, u72, u73, u74, u75, u76, u77, u78, u79, u80, u81, u82, u83, u84, u85, u86, u87, u88, u89, u90, u91, u92, u93, u94, u95, u96, u97, u98, u99, u100, u101, u102, u103, u104, u105, u106, u107, u108, u109, u110, u111, u112, u113, u114, u115, u116, u117, u118, u119, u120, u121, u122, u123, u124, u125, u126, u127, u128, u129, u130, u131, u132, u133, u134, u135, u136, u137, u138, u139, u140, u141, u142, u143, u144, u145, u146, u147, u148, u149, u150, u151, u152, u153, u154, u155, u156], []⟩ W7 := by
  have hB1 : decide (L2 < L0) = false := by simp; omega
  have hB2 : decide (L3 < L1) = false := by simp; omega
  obtain ⟨fu, fe, ⟨r0, r1⟩, ⟨h0, h1⟩, ⟨t0, t1⟩, ⟨b0, b1⟩, ⟨g0, g1⟩, ⟨m0, m1⟩, hz, ⟨s0, s1⟩⟩ := s
  obtain ⟨⟨w0, w1⟩, ⟨k0, k1⟩, ⟨o0, o1⟩, mk⟩ := c
  obtain ⟨hh, ld, ⟨e0, e1⟩, ⟨j0, j1⟩, ⟨d0, d1⟩⟩ := m
  obtain ⟨ih, id, ⟨i0, i1⟩, ⟨i2, i3⟩, ⟨i4, i5⟩⟩ := m'
  unfold Breed.val Camel.val March.val at hl1 hl2
  unfold Breed.cells at hb7
  unfold Camel.cells at hc7
  unfold March.cells at hm7 hp7
  simp only at hl1 hl2 hb7 hc7 hm7 hp7
  have Hfd := Lib.hid hfd
  have HL := Lib.hid hL
  have HM := Lib.hid hM
  have Hl1 := Lib.hid hl1
  have Hl2 := Lib.hid hl2
  have Hx7 := Lib.hid hx7
  have Ha7 := Lib.hid ha7
  have Hb7 := Lib.hid hb7
  have Hc7 := Lib.hid hc7
  have Hm7 := Lib.hid hm7
  have Hp7 := Lib.hid hp7
  clear hfd hL hM hl1 hl2 hx7 ha7 hb7 hc7 hm7 hp7
  conv => arg 2; whnf
  go_upto_region 9 with (first | (refine wpList_load_row rfl 25 (.tmp 14) rfl (w.heap.size + 1) rfl 25 _ (0, 0) _ Hb7.out Try.underlying25 rfl (by kernel_rfl) ?_) | (refine wpList_load_row rfl 27 (.tmp 15) rfl (w.heap.size + 1 + 1) rfl 27 _ (0, 0) _ Hc7.out Try.underlying27 rfl (by kernel_rfl) ?_) | (refine wpList_load_row rfl 29 (.tmp 16) rfl (w.heap.size + 1 + 1 + 1) rfl 29 _ (0, 0) _ Hm7.out Try.underlying29 rfl (by kernel_rfl) ?_) | (go_at_call 14; refine (Hl1.out _).mono ?_; rintro er v8 ⟨rfl, hx8⟩))
  have hv8 := hx8.alloc (.cells #[.int .i64 L0, .int .i64 L1] 23)
  have hp21 := heap_alloc_new v8 (.cells #[.int .i64 L0, .int .i64 L1] 23)
  generalize v8.alloc (.cells #[.int .i64 L0, .int .i64 L1] 23) = V8 at *
  generalize v8.heap.size = p21 at *
  have ha8 := hv8.heap Ha7.out
  have hb8 := hv8.heap Hb7.out
  have hc8 := hv8.heap Hc7.out
  have hp8 := hv8.heap Hp7.out
  have hy8 := Hx7.out.trans hv8
  have Hp21 := Lib.hid hp21
  have Ha8 := Lib.hid ha8
  have Hb8 := Lib.hid hb8
  have Hc8 := Lib.hid hc8
  have Hp8 := Lib.hid hp8
  have Hy8 := Lib.hid hy8
  clear hp21 ha8 hb8 hc8 hp8 hy8
  clear hx8 hv8 Ha7 Hb7 Hc7 Hp7 Hx7 Hm7 Hl1
  go_upto_region 10 with (first | (refine wpList_load_row rfl 25 (.tmp 14) rfl (w.heap.size + 1) rfl 25 _ (0, 0) _ Hb8.out Try.underlying25 rfl (by kernel_rfl) ?_) | (refine wpList_load_row rfl 27 (.tmp 15) rfl (w.heap.size + 1 + 1) rfl 27 _ (0, 0) _ Hc8.out Try.underlying27 rfl (by kernel_rfl) ?_) | (refine wpList_load_row rfl 29 (.tmp 20) rfl p5 rfl 29 _ (0, 0) _ Hp8.out Try.underlying29 rfl (by kernel_rfl) ?_) | (go_at_call 14; refine (Hl2.out _).mono ?_; rintro er v9 ⟨rfl, hx9⟩))
  have hv9 := hx9.alloc (.cells #[.int .i64 L2, .int .i64 L3] 23)
  have hp23 := heap_alloc_new v9 (.cells #[.int .i64 L2, .int .i64 L3] 23)
  generalize v9.alloc (.cells #[.int .i64 L2, .int .i64 L3] 23) = V9 at *
  generalize v9.heap.size = p23 at *
  have ha := hv9.heap Ha8.out
  have h1 := hv9.heap Hp21.out
  have h3 := hp23
  have hx := Hy8.out.trans hv9
  clear hp23
  have Hx := Lib.hid hx
  have Ha := Lib.hid ha
  have H1 := Lib.hid h1
  have H3 := Lib.hid h3
  clear hx ha h1 h3
  clear hx9 hv9 Ha8 Hb8 Hc8 Hp8 Hp21 Hy8 Hl2
  go_upto_region 11 with (first | (refine wpList_load_row rfl 83 (.tmp 9) rfl w.heap.size rfl 83 _ (0, 0) _ Ha.out Try.underlying83 rfl (by kernel_rfl) ?_) | (go_at_call 29; refine (Hfd.out _ Hx.out).mono ?_; rintro er v3 ⟨rfl, hx3⟩))
  have hv3 := hx3.alloc (.cells #[.int .i64 F1] 3)
  have hp26 := heap_alloc_new v3 (.cells #[.int .i64 F1] 3)
  generalize v3.alloc (.cells #[.int .i64 F1] 3) = V3 at *
  generalize v3.heap.size = p26 at *
  have h13 := hv3.heap H1.out
  have h33 := hv3.heap H3.out
  have hx4 := Hx.out.trans hv3
  obtain ⟨z21, z21b⟩ := (Ext.refl V3).box h13
  obtain ⟨z23, z23b⟩ := (Ext.refl V3).box h33
  obtain ⟨z26, _⟩ := (Ext.refl V3).box hp26
  have Hp26 := Lib.hid hp26
  have H13 := Lib.hid h13
  have H33 := Lib.hid h33
  have Hx4 := Lib.hid hx4
  clear hp26 h13 h33 hx4
  clear hx3 hv3 Ha H1 H3 Hx Hfd
  rcases hfi with ⟨e2, rfl, rfl⟩ | ⟨rfl, e0, e1, e3⟩
  · have hB3 : (F2 != 0) = true := by simpa using e2
    clear e2
    go_wp2_with fail
    go_ret
    exact ⟨rfl, Hx4.out⟩
  · have b0 : decide (F0 ≤ (n : Int)) = true := decide_eq_true e0
    have b1 : decide (F1 ≤ (n : Int)) = true := decide_eq_true e1
    have hi := fun d W (hW : Ext V3 W) => inTime_any p26 F1 d W (hW.heap Hp26.out)
    have gg1 := trivial
    by_cases hneg : F1 < 0
    · have b2 : decide (F1 < 0) = true := decide_eq_true hneg
      have b3 : decide (0 ≤ F1) = false := decide_eq_false (by omega)
      simp only [b3, Bool.false_and] at hi
      have Hi := Lib.hid hi
      clear hi
      clear hneg e3 e0 e1
      go_wp2_with (go_at_call 30; refine (Hi.out _ _ (Ext.refl _)).mono ?_; rintro er v4 ⟨rfl, hx5⟩)
      go_ret
      exact ⟨rfl, Hx4.out.trans hx5⟩
    · have b2 : decide (F1 < 0) = false := decide_eq_false hneg
      have b3 : decide (0 ≤ F1) = true := decide_eq_true (by omega)
      obtain ⟨g0, g1⟩ := e3 (by omega)
      have b4 : decide (0 ≤ F0) = true := decide_eq_true g0
      have b5 : decide (F0 ≤ F1) = true := decide_eq_true g1
      simp only [b3, Bool.true_and] at hi
      by_cases ht : F1 ≤ L0
      · have i0 := fun W hW => hi L0 W hW
        have i2 := fun W hW => hi L2 W hW
        rw [decide_eq_true ht] at i0
        rw [decide_eq_true (show F1 ≤ L2 by have := HL.out; omega)] at i2
        have I0 := Lib.hid i0
        have I2 := Lib.hid i2
        clear i0 i2
        clear hneg e0 e1 ht hi g0 g1 e3
        go_wp2_with (first
          | (go_at_call 30; (have q := gg1; clear q gg1); refine (I0.out _ (Ext.refl _)).mono ?_; rintro er v4 ⟨rfl, hx5⟩; obtain ⟨z33, _⟩ := (Ext.refl v4).box (hx5.heap H33.out))
          | (go_at_call 30; refine (I2.out _ hx5).mono ?_; rintro er v5 ⟨rfl, hx6⟩))
        go_ret
        exact ⟨rfl, (Hx4.out.trans hx5).trans hx6⟩
      · have i0 := fun W hW => hi L0 W hW
        rw [decide_eq_false ht] at i0
        have I0 := Lib.hid i0
        clear i0
        clear hneg e0 e1 ht hi g0 g1 e3
        go_wp2_with (go_at_call 30; refine (I0.out _ (Ext.refl _)).mono ?_; rintro er v4 ⟨rfl, hx5⟩)
        go_ret
        exact ⟨rfl, Hx4.out.trans hx5⟩
end Go.Proofs.Ytcoelhpmkhimpaa
