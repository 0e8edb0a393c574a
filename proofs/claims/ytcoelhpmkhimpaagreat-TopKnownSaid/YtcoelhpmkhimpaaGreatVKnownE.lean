/- TopKnown: behind the looks. -/
import Derived.Test.YtcoelhpmkhimpaaGreatVKBnd
import Derived.Test.YtcoelhpmkhimpaaGreatVGt
import Derived.Test.YtcoelhpmkhimpaaGreatVGs
import Derived.Test.YtcoelhpmkhimpaaGreatVGd
import Derived.Test.YtcoelhpmkhimpaaGreatVGl
namespace Go.Proofs.YtcoelhpmkhimpaaGreat
open Go.RowKit
set_option linter.unusedVariables false
set_option linter.unusedSimpArgs false
set_option maxRecDepth 100000 in
set_option maxHeartbeats 16000000 in
theorem knownEnd {w W2 : World} {a : Option Addr} {n c pw pa : Nat} {l : List Half} {x y dp y0 y1 rm s0 s1 ow : Int}
    (hx : Ext w W2) (ha : W2.heap[pa]? = some (.cells #[.slice a n c] 24 (0, 0))) (hw : W2.heap[pw]? = some (.cells #[.int .i64 x, .int .i64 y, .int .i64 dp, .int .i64 y0, .int .i64 y1, .int .i64 rm, .int .i64 s0, .int .i64 s1, .int .i64 ow] 62 (0, 0)))
    (hl : HalvesAt W2 a n l) (hc : n ≤ c) (hm : c ≤ maxLen) (har : AreaOk l) (hin : In l (pt x y)) (hxb : -10000000 ≤ x ∧ x ≤ 10000000) (hyb : -10000000 ≤ y ∧ y ≤ 10000000)
    {u0 u1 u2 u3 u4 u5 u6 u7 u8 u12 u13 u14 u15 u16 u17 u18 u19 u20 u21 u22 u23 u24 u25 u26 u27 u28 u29 u30 u31 u32 u33 u34 u35 u36 u37 u38 u39 u40 u41 u42 u43 u44 u45 u46 u47 u48 u49 u50 u51 u52 u53 u54 u55 u56 u57 u58 u59 u60 u61 u62 u63 u64 u65 u66 u67 u68 u69 u70 u71 u72 u73 u74 u75 u76 u77 u78 u79 u80 u81 u82 u83 u84 u85 u86 u87 u88 u89 u90 u91 u92 u93 u94 u95 u96 u97 u98 u99 u100 u101 u102 u103 u104 u105 u106 u107 u108 u109 u110 u111 u112 u113 u114 u115 u116 u117 u118 u119 u120 u121 u122 u123 u124 u125 u126 u127 u128 u129 u130 u131 u132 u133 u134 u135 u136 u137 u138 u139 u140 u141 u142 u143 u144 u145 u146 u147 u148 u149 u150 u151 u152 u153 u154 u155 u156 u157 u158 u159 u160 u161 u162 u163 u164 u165 u166 u167 u168 u169 u170 u171 u172 u173 u174 u175 u176 u177 u178 u179 u180 u181 u182 u183 u184 u185 u186 u187 u188 u189 u190 u191 u192 u193 u194 u195 u196 u197 u198 u199 u200 u201 u202 u203 u204 u205 u206 u207 u208 u209 u210 u211 u212 u213 u214 u215 u216 u217 u218 u219 u220 u221 u222 u223 u224 u225 u226 u227 u228 u229 u230 u231 u232 u233 u234 u235 u236 u237 u238 u239 u240 u241 u242 u243 u244 u245 u246 u247 u248 u249 u250 u251 u252 u253 u254 u255 u256 u257 u258 u259 u260 u261 u262 u263 u264 u265 u266 u267 u268 u269 u270 u271 u272 u273 u274 u275 u276 u277 u278 u279 u280 u281 u282 u283 u284 u285 u286 u287 u288 u289 u290 u291 u292 u293 u294 u295 u296 u297 u298 u299 u300 u301 u302 u303 u304 u305 u306 u307 u308 u309 u310 u311 u312 u313 u314 u315 u316 u317 u318 u319 u320 u321 u322 u323 u324 u325 u326 u327 : Value} :
    (restFrom Tryz.f4 25).wp Tryz.prog (bodyPost Tryz.prog Tryz.f4 fun e w' => e = .returned (.bool true) ∧ Ext w w')
      ⟨#[u0, u1, u2, u3, u4, u5, u6, u7, u8, .bool true, .pointer (some ⟨pw, 0, none⟩), .pointer (some ⟨pa, 0, none⟩), u12, u13, u14, u15, u16, u17, u18, u19, u20, u21, u22, u23, u24, u25, u26, u27, u28, u29, u30, u31, u32, u33, u34, u35, u36, u37, u38, u39, u40, u41, u42, u43, u44, u45, u46, u47, u48, u49, u50, u51, u52, u53, u54, u55, u56, u57, u58, u59, u60, u61, u62, u63, u64, u65, u66, u67, u68, u69, u70, u71, u72, u73, u74, u75, u76, u77, u78, u79, u80, u81, u82, u83, u84, u85, u86, u87, u88, u89, u90, u91, u92, u93, u94, u95, u96, u97, u98, u99, u100, u101, u102, u103, u104, u105, u106, u107, u108, u109, u110, u111, u112, u113, u114, u115, u116, u117, u118, u119, u120, u121, u122, u123, u124, u125, u126, u127, u128, u129, u130, u131, u132, u133, u134, u135, u136, u137, u138, u139, u140, u141, u142, u143, u144, u145, u146, u147, u148, u149, u150, u151, u152, u153, u154, u155, u156, u157, u158, u159, u160, u161, u162, u163, u164, u165, u166, u167, u168, u169, u170, u171, u172, u173, u174, u175, u176, u177, u178, u179, u180, u181, u182, u183, u184, u185, u186, u187, u188, u189, u190, u191, u192, u193, u194, u195, u196, u197, u198, u199, u200, u201, u202, u203, u204, u205, u206, u207, u208, u209, u210, u211, u212, u213, u214, u215, u216, u217, u218, u219, u220, u221, u222, u223, u224, u225, u226, u227, u228, u229, u230, u231, u232, u233, u234, u235, u236, u237, u238, u239, u240, u241, u242, u243, u244, u245, u246, u247, u248, u249, u250, u251, u252, u253, u254, u255, u256, u257, u258, u259, u260, u261, u262, u263, u264, u265, u266, u267, u268, u269, u270, u271, u272, u273, u274, u275, u276, u277, u278, u279, u280, u281, u282, u283, u284, u285, u286, u287, u288, u289, u290, u291, u292, u293, u294, u295, u296, u297, u298, u299, u300, u301, u302, u303, u304, u305, u306, u307, u308, u309, u310, u311, u312, u313, u314, u315, u316, u317, u318, u319, u320, u321, u322, u323, u324, u325, u326, u327], []⟩ W2 := by
  have hbd := fun W (hW : Ext W2 W) => boundsF_any a n c l W (hl.ext hW) hc hm
  have hnr := fun W (hW : Ext W2 W) => nearF_any a n c l x y 0 W (hl.ext hW) hc hm
  have hsp := stretch_any
  unfold BoundsPost at hbd
  unfold NearPost at hnr
  obtain ⟨e0, e1, n0, n1, hB, h1, h2, h3, h4⟩ := bounds_true har hin
  have hk := known_one har hB h1 h2 h3 h4
  have hnp := near_true (px := x) (py := y) (far := 0) har hin (by simp only [placeOk, inB, Bool.and_eq_true, decide_eq_true_eq]; omega)
  obtain ⟨K, hK, hK1⟩ := hnp
  have hKk : K = knownOf l x y 0 := by
    unfold nearOf at hK
    split at hK
    · rename_i h
      simp only [Prod.mk.injEq] at hK
      exact absurd hK.2 h
    · simp only [Prod.mk.injEq] at hK
      exact hK.1.symm
  have hK2 : K = 1 ∨ K = 2 := by
    rcases hK1 with ⟨_, h⟩ | h | ⟨h, _⟩
    · simp only [Int.sub_self] at h
      omega
    · exact .inl h
    · exact .inr h
  rw [← hKk] at hk
  simp only [hB] at hbd
  simp only [hK] at hnr
  unfold Span.val at hbd
  simp only at hbd
  simp only [Span.mk.injEq] at hk
  have b1 : decide (x < e0) = false := decide_eq_false (by omega)
  have b2 : decide (e1 < x) = false := decide_eq_false (by omega)
  have b3 : decide (y < n0) = false := decide_eq_false (by omega)
  have b4 : decide (n1 < y) = false := decide_eq_false (by omega)
  have b5 : (K == 0) = false := by simp; omega
  clear hB hK hKk hK1 h1 h2 h3 h4 har hin hxb hyb hl
  have Hx := Lib.hid hx
  have Ha := Lib.hid ha
  have Hw := Lib.hid hw
  have Hbd := Lib.hid hbd
  have Hnr := Lib.hid hnr
  have Hsp := Lib.hid hsp
  have Hk := Lib.hid hk
  have HK2 := Lib.hid hK2
  have B1 := Lib.hid b1
  have B2 := Lib.hid b2
  have B3 := Lib.hid b3
  have B4 := Lib.hid b4
  have B5 := Lib.hid b5
  clear hx ha hw hbd hnr hsp hk hK2 b1 b2 b3 b4 b5
  conv => arg 2; whnf
  dsimp only
  go_upto_region 26 with (first | (refine wpList_load_row rfl 24 (.tmp 11) rfl pa rfl 24 _ (0, 0) _ Ha.out Tryz.underlying24 rfl (by kernel_rfl) ?_) | (go_at_call 21; refine (Hbd.out _ (Ext.refl _)).mono ?_; rintro er v3 ⟨rfl, hx3⟩))
  have hv3 := (hx3.alloc (.cells #[.int .i64 e0, .int .i64 e1] 27)).alloc (.cells #[.int .i64 n0, .int .i64 n1] 27)
  have hp22 := alloc_heap (heap_alloc_new v3 (.cells #[.int .i64 e0, .int .i64 e1] 27)) (.cells #[.int .i64 n0, .int .i64 n1] 27)
  have hp23 := heap_alloc_new (v3.alloc (.cells #[.int .i64 e0, .int .i64 e1] 27)) (.cells #[.int .i64 n0, .int .i64 n1] 27)
  have hsz : (v3.alloc (.cells #[.int .i64 e0, .int .i64 e1] 27)).heap.size = v3.heap.size + 1 := by simp
  rw [hsz] at hp23
  generalize (v3.alloc (.cells #[.int .i64 e0, .int .i64 e1] 27)).alloc (.cells #[.int .i64 n0, .int .i64 n1] 27) = V3 at *
  generalize v3.heap.size = p22 at *
  have ha4 := hv3.heap Ha.out
  have hw4 := hv3.heap Hw.out
  have hx4 := Hx.out.trans hv3
  obtain ⟨zw, _⟩ := (Ext.refl V3).box hw4
  have hV3 := Lib.hid hv3
  clear hv3 hsz hx3
  have Ha4 := Lib.hid ha4
  have Hw4 := Lib.hid hw4
  have Hx4 := Lib.hid hx4
  have Hp22 := Lib.hid hp22
  have Hp23 := Lib.hid hp23
  clear ha4 hw4 hx4 hp22 hp23
  go_upto_region 27 with (first | (refine wpList_load_row rfl 24 (.tmp 11) rfl pa rfl 24 _ (0, 0) _ Ha4.out Tryz.underlying24 rfl (by kernel_rfl) ?_) | (go_at_call 22; refine (Hnr.out _ hV3.out).mono ?_; rintro er v5 ⟨rfl, hx5⟩))
  have hw5 := hx5.heap Hw4.out
  have hx6 := Hx4.out.trans hx5
  have hp5 := hx5.heap Hp22.out
  have hq5 := hx5.heap Hp23.out
  clear zw
  obtain ⟨zw, _⟩ := (Ext.refl v5).box hw5
  obtain ⟨zp, _⟩ := (Ext.refl v5).box hp5
  obtain ⟨zq, _⟩ := (Ext.refl v5).box hq5
  have Hw5 := Lib.hid hw5
  have Hx6 := Lib.hid hx6
  have Hp5 := Lib.hid hp5
  have Hq5 := Lib.hid hq5
  clear hw5 hx6 hp5 hq5
  clear hx5 Ha4 Hw4 Hx4 Hp22 Hp23 Ha Hw Hx Hbd Hnr
  have b1 := B1.out
  have b2 := B2.out
  have b3 := B3.out
  have b4 := B4.out
  have b5 := B5.out
  go_upto_region 29 with fail
  clear zw zp zq b1 b2 b3 b4 b5
  rcases HK2.out with rfl | rfl
  · have hk := Hk.out
    have hne : ¬((e0 = x ∧ e1 = x) ∧ n0 = y ∧ n1 = y) := fun h => absurd (hk.2 h) (by decide)
    clear hk
    have k1 : ((1 : Int) == 2) = false := by decide
    by_cases h0 : e0 = x
    · subst h0
      by_cases h1 : e1 = e0
      · subst h1
        by_cases h2 : n0 = y
        · subst h2
          have h3 : ¬n1 = n0 := fun h => hne ⟨⟨rfl, rfl⟩, rfl, h⟩
          have c1 : (n1 == n0) = false := by simpa using h3
          have c2 : decide (n1 = n0) = false := decide_eq_false h3
          clear hne
          refine wp_region_ext (by kernel_rfl) (by kernel_rfl) (fun f hf hs => ?_)
          have f0 := fun q => ((hf q).box Hw5.out).1
          have f1 := fun q => ((hf q).box Hp5.out).1
          have f2 := fun q => ((hf q).box Hq5.out).1
          have Hf := Lib.hid hf
          have HS := Lib.hid hs
          clear hf hs
          repeat (go_big_quiet_step ((go_at_call 11; exact Calls.ext_of (Hf.out _) HS.out (Hsp.out _ _ _))))
          refine wpQuiet_nil ?_
          intro W9 hW9
          clear f0 f1 f2
          go_wp2_with fail
          go_ret
          exact ⟨rfl, Hx6.out.trans hW9⟩
        · have c1 : (n0 == y) = false := by simpa using h2
          have c2 : decide (n0 = y) = false := decide_eq_false h2
          clear hne
          refine wp_region_ext (by kernel_rfl) (by kernel_rfl) (fun f hf hs => ?_)
          have f0 := fun q => ((hf q).box Hw5.out).1
          have f1 := fun q => ((hf q).box Hp5.out).1
          have f2 := fun q => ((hf q).box Hq5.out).1
          have Hf := Lib.hid hf
          have HS := Lib.hid hs
          clear hf hs
          repeat (go_big_quiet_step ((go_at_call 11; exact Calls.ext_of (Hf.out _) HS.out (Hsp.out _ _ _))))
          refine wpQuiet_nil ?_
          intro W9 hW9
          clear f0 f1 f2
          go_wp2_with fail
          go_ret
          exact ⟨rfl, Hx6.out.trans hW9⟩
      · have c1 : (e1 == e0) = false := by simpa using h1
        have c2 : decide (e1 = e0) = false := decide_eq_false h1
        clear hne
        refine wp_region_ext (by kernel_rfl) (by kernel_rfl) (fun f hf hs => ?_)
        have f0 := fun q => ((hf q).box Hw5.out).1
        have f1 := fun q => ((hf q).box Hp5.out).1
        have f2 := fun q => ((hf q).box Hq5.out).1
        have Hf := Lib.hid hf
        have HS := Lib.hid hs
        clear hf hs
        repeat (go_big_quiet_step ((go_at_call 11; exact Calls.ext_of (Hf.out _) HS.out (Hsp.out _ _ _))))
        refine wpQuiet_nil ?_
        intro W9 hW9
        clear f0 f1 f2
        go_wp2_with fail
        go_ret
        exact ⟨rfl, Hx6.out.trans hW9⟩
    · have c1 : (e0 == x) = false := by simpa using h0
      have c2 : decide (e0 = x) = false := decide_eq_false h0
      clear hne
      refine wp_region_ext (by kernel_rfl) (by kernel_rfl) (fun f hf hs => ?_)
      have f0 := fun q => ((hf q).box Hw5.out).1
      have f1 := fun q => ((hf q).box Hp5.out).1
      have f2 := fun q => ((hf q).box Hq5.out).1
      have Hf := Lib.hid hf
      have HS := Lib.hid hs
      clear hf hs
      repeat (go_big_quiet_step ((go_at_call 11; exact Calls.ext_of (Hf.out _) HS.out (Hsp.out _ _ _))))
      refine wpQuiet_nil ?_
      intro W9 hW9
      clear f0 f1 f2
      go_wp2_with fail
      go_ret
      exact ⟨rfl, Hx6.out.trans hW9⟩
  · have hk := Hk.out
    obtain ⟨⟨rfl, rfl⟩, rfl, rfl⟩ := hk.1 rfl
    clear hk
    refine wp_region_ext (by kernel_rfl) (by kernel_rfl) (fun f hf hs => ?_)
    have f0 := fun q => ((hf q).box Hw5.out).1
    have f1 := fun q => ((hf q).box Hp5.out).1
    have f2 := fun q => ((hf q).box Hq5.out).1
    have Hf := Lib.hid hf
    have HS := Lib.hid hs
    clear hf hs
    repeat (go_big_quiet_step ((go_at_call 11; exact Calls.ext_of (Hf.out _) HS.out (Hsp.out _ _ _))))
    refine wpQuiet_nil ?_
    intro W9 hW9
    clear f0 f1 f2
    go_wp2_with fail
    go_ret
    exact ⟨rfl, Hx6.out.trans hW9⟩
end Go.Proofs.YtcoelhpmkhimpaaGreat
