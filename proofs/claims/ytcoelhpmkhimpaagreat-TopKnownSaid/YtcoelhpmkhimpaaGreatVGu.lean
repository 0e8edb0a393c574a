/- TopKnown: one look, from the call of See on (region 19 to the end of a round). -/
import Derived.Test.YtcoelhpmkhimpaaGreatVKnownE
import Derived.Test.YtcoelhpmkhimpaaGreatVKSee
import Derived.Test.YtcoelhpmkhimpaaGreatVGt
import Derived.Test.YtcoelhpmkhimpaaGreatVGp
namespace Go.Proofs.YtcoelhpmkhimpaaGreat
open Go.RowKit
set_option linter.unusedVariables false
set_option linter.unusedSimpArgs false
/-- what is so ahead of a look: the box of the area, and the place in it -/
structure KSt (w V : World) (pa : Nat) (x y : Int) (wr : World) : Prop where
  ext : Ext w wr
  but : But (fun b => b = pa) V wr
  area : ∃ (a : Option Addr) (n c : Nat) (l : List Half), wr.heap[pa]? = some (.cells #[.slice a n c] 24 (0, 0)) ∧ HalvesAt wr a n l ∧ n ≤ c ∧ c ≤ maxLen ∧ AreaOk l ∧ In l (pt x y) ∧ (∀ b, a = some b → b.block ≠ pa)
theorem KSt.more {w V wr W : World} {pa : Nat} {x y : Int} (h : KSt w V pa x y wr) (e : Ext wr W) : KSt w V pa x y W := by
  obtain ⟨a, n, c, l, h1, h2, h3, h4, h5, h6, h7⟩ := h.area
  exact ⟨h.ext.trans e, h.but.trans (e.but _), a, n, c, l, e.heap h1, h2.ext e, h3, h4, h5, h6, h7⟩
theorem KSt.put {w V wr W : World} {pa : Nat} {x y : Int} (h : KSt w V pa x y wr) (e : Ext wr W) (hp : w.heap.size ≤ pa) {a : Option Addr} {n c : Nat} {l : List Half} (hl : HalvesAt W a n l) (hc : n ≤ c) (hm : c ≤ maxLen) (har : AreaOk l) (hin : In l (pt x y)) (hf : From wr.heap.size a) :
    KSt w V pa x y (W.setCell ⟨pa, 0, none⟩ (.slice a n c)) := by
  obtain ⟨a0, n0, c0, l0, h1, _⟩ := h.area
  have hlt := heap_lt h1
  have hne : ∀ b, a = some b → b.block ≠ pa := fun b hb => by
    have := hf b hb
    omega
  refine ⟨(h.ext.trans e).setCell (p := ⟨pa, 0, none⟩) hp _, (h.but.trans (e.but _)).trans (But.setCell _ _ rfl), a, n, c, l, ?_, hl.same fun X hX => Below.heap_setCell _ _ _ _ (hne X hX), hc, hm, har, hin, hne⟩
  rw [heap_setCell_box, e.heap h1]
  rfl
set_option maxRecDepth 100000 in
set_option maxHeartbeats 16000000 in
theorem knownLook {Q : Exit → Act → World → Prop} {w W2 wr : World} {pa pw pS : Nat} {x y dp y0 y1 rm s0 s1 ow ox oy fx fy tx ty : Int}
    (hS : KSt w W2 pa x y wr) (hp : w.heap.size ≤ pa) (hw : wr.heap[pw]? = some (.cells #[.int .i64 x, .int .i64 y, .int .i64 dp, .int .i64 y0, .int .i64 y1, .int .i64 rm, .int .i64 s0, .int .i64 s1, .int .i64 ow] 62 (0, 0)))
    (hs : wr.heap[pS]? = some (.cells #[.int .u8 1, .int .i64 ox, .int .i64 oy, .int .i64 fx, .int .i64 fy, .int .i64 tx, .int .i64 ty, .int .i64 0, .int .i64 0, .int .i64 0] 68 (0, 0)))
    (hok : sightOk ⟨1, ox, oy, fx, fy, tx, ty, 0, 0, 0⟩ = true) (hsn : seenB ⟨1, ox, oy, fx, fy, tx, ty, 0, 0, 0⟩ x y = true)
    (hxb : -10000000 ≤ x ∧ x ≤ 10000000) (hyb : -10000000 ≤ y ∧ y ≤ 10000000)
    {u0 u1 u2 u3 u4 u5 u6 u7 u8 u9 u12 u13 u14 u15 u16 u17 u18 u20 u21 u22 u23 u24 u25 u26 u27 u28 u29 u30 u31 u32 u33 u34 u35 u36 u37 u38 u39 u40 u41 u42 u43 u44 u45 u46 u47 u48 u49 u50 u51 u52 u53 u54 u55 u56 u57 u58 u59 u60 u61 u62 u63 u64 u65 u66 u67 u68 u69 u70 u71 u72 u73 u74 u75 u76 u77 u78 u79 u80 u81 u82 u83 u84 u85 u86 u87 u88 u89 u90 u91 u92 u93 u94 u95 u96 u97 u98 u99 u100 u101 u102 u103 u104 u105 u106 u107 u108 u109 u110 u111 u112 u113 u114 u115 u116 u117 u118 u119 u120 u121 u122 u123 u124 u125 u126 u127 u128 u129 u130 u131 u132 u133 u134 u135 u136 u137 u138 u139 u140 u141 u142 u143 u144 u145 u146 u147 u148 u149 u150 u151 u152 u153 u154 u155 u156 u157 u158 u159 u160 u161 u162 u163 u164 u165 u166 u167 u168 u169 u170 u171 u172 u173 u174 u175 u176 u177 u178 u179 u180 u181 u182 u183 u184 u185 u186 u187 u188 u189 u190 u191 u192 u193 u194 u195 u196 u197 u198 u199 u200 u201 u202 u203 u204 u205 u206 u207 u208 u209 u210 u211 u212 u213 u214 u215 u216 u217 u218 u219 u220 u221 u222 u223 u224 u225 u226 u227 u228 u229 u230 u231 u232 u233 u234 u235 u236 u237 u238 u239 u240 u241 u242 u243 u244 u245 u246 u247 u248 u249 u250 u251 u252 u253 u254 u255 u256 u257 u258 u259 u260 u261 u262 u263 u264 u265 u266 u267 u268 u269 u270 u271 u272 u273 u274 u275 u276 u277 u278 u279 u280 u281 u282 u283 u284 u285 u286 u287 u288 u289 u290 u291 u292 u293 u294 u295 u296 u297 u298 u299 u300 u301 u302 u303 u304 u305 u306 u307 u308 u309 u310 u311 u312 u313 u314 u315 u316 u317 u318 u319 u320 u321 u322 u323 u324 u325 u326 u327 : Value}
    (hnext : ∀ W', KSt w W2 pa x y W' → ∀ {v20 v21 v232 v233 v234 v235 v236 v237 v238 v239 v240 v241 v242 v243 v244 v245 v246 v247 v248 v249 v250 v251 : Value},
      Q .normal ⟨#[u0, u1, u2, u3, u4, u5, u6, u7, u8, u9, .pointer (some ⟨pw, 0, none⟩), .pointer (some ⟨pa, 0, none⟩), u12, u13, u14, u15, u16, u17, u18, .pointer (some ⟨pS, 0, none⟩), v20, v21, u22, u23, u24, u25, u26, u27, u28, u29, u30, u31, u32, u33, u34, u35, u36, u37, u38, u39, u40, u41, u42, u43, u44, u45, u46, u47, u48, u49, u50, u51, u52, u53, u54, u55, u56, u57, u58, u59, u60, u61, u62, u63, u64, u65, u66, u67, u68, u69, u70, u71, u72, u73, u74, u75, u76, u77, u78, u79, u80, u81, u82, u83, u84, u85, u86, u87, u88, u89, u90, u91, u92, u93, u94, u95, u96, u97, u98, u99, u100, u101, u102, u103, u104, u105, u106, u107, u108, u109, u110, u111, u112, u113, u114, u115, u116, u117, u118, u119, u120, u121, u122, u123, u124, u125, u126, u127, u128, u129, u130, u131, u132, u133, u134, u135, u136, u137, u138, u139, u140, u141, u142, u143, u144, u145, u146, u147, u148, u149, u150, u151, u152, u153, u154, u155, u156, u157, u158, u159, u160, u161, u162, u163, u164, u165, u166, u167, u168, u169, u170, u171, u172, u173, u174, u175, u176, u177, u178, u179, u180, u181, u182, u183, u184, u185, u186, u187, u188, u189, u190, u191, u192, u193, u194, u195, u196, u197, u198, u199, u200, u201, u202, u203, u204, u205, u206, u207, u208, u209, u210, u211, u212, u213, u214, u215, u216, u217, u218, u219, u220, u221, u222, u223, u224, u225, u226, u227, u228, u229, u230, u231, v232, v233, v234, v235, v236, v237, v238, v239, v240, v241, v242, v243, v244, v245, v246, v247, v248, v249, v250, v251, u252, u253, u254, u255, u256, u257, u258, u259, u260, u261, u262, u263, u264, u265, u266, u267, u268, u269, u270, u271, u272, u273, u274, u275, u276, u277, u278, u279, u280, u281, u282, u283, u284, u285, u286, u287, u288, u289, u290, u291, u292, u293, u294, u295, u296, u297, u298, u299, u300, u301, u302, u303, u304, u305, u306, u307, u308, u309, u310, u311, u312, u313, u314, u315, u316, u317, u318, u319, u320, u321, u322, u323, u324, u325, u326, u327], []⟩ W')
    (hbrk : ∀ W', KSt w W2 pa x y W' → ∀ {v20 v21 v232 v233 v234 v235 v236 v237 v238 v239 v240 v241 v242 v243 v244 v245 v246 v247 v248 v249 v250 v251 : Value},
      Q (.exit 0) ⟨#[u0, u1, u2, u3, u4, u5, u6, u7, u8, u9, .pointer (some ⟨pw, 0, none⟩), .pointer (some ⟨pa, 0, none⟩), u12, u13, u14, u15, u16, u17, u18, .pointer (some ⟨pS, 0, none⟩), v20, v21, u22, u23, u24, u25, u26, u27, u28, u29, u30, u31, u32, u33, u34, u35, u36, u37, u38, u39, u40, u41, u42, u43, u44, u45, u46, u47, u48, u49, u50, u51, u52, u53, u54, u55, u56, u57, u58, u59, u60, u61, u62, u63, u64, u65, u66, u67, u68, u69, u70, u71, u72, u73, u74, u75, u76, u77, u78, u79, u80, u81, u82, u83, u84, u85, u86, u87, u88, u89, u90, u91, u92, u93, u94, u95, u96, u97, u98, u99, u100, u101, u102, u103, u104, u105, u106, u107, u108, u109, u110, u111, u112, u113, u114, u115, u116, u117, u118, u119, u120, u121, u122, u123, u124, u125, u126, u127, u128, u129, u130, u131, u132, u133, u134, u135, u136, u137, u138, u139, u140, u141, u142, u143, u144, u145, u146, u147, u148, u149, u150, u151, u152, u153, u154, u155, u156, u157, u158, u159, u160, u161, u162, u163, u164, u165, u166, u167, u168, u169, u170, u171, u172, u173, u174, u175, u176, u177, u178, u179, u180, u181, u182, u183, u184, u185, u186, u187, u188, u189, u190, u191, u192, u193, u194, u195, u196, u197, u198, u199, u200, u201, u202, u203, u204, u205, u206, u207, u208, u209, u210, u211, u212, u213, u214, u215, u216, u217, u218, u219, u220, u221, u222, u223, u224, u225, u226, u227, u228, u229, u230, u231, v232, v233, v234, v235, v236, v237, v238, v239, v240, v241, v242, v243, v244, v245, v246, v247, v248, v249, v250, v251, u252, u253, u254, u255, u256, u257, u258, u259, u260, u261, u262, u263, u264, u265, u266, u267, u268, u269, u270, u271, u272, u273, u274, u275, u276, u277, u278, u279, u280, u281, u282, u283, u284, u285, u286, u287, u288, u289, u290, u291, u292, u293, u294, u295, u296, u297, u298, u299, u300, u301, u302, u303, u304, u305, u306, u307, u308, u309, u310, u311, u312, u313, u314, u315, u316, u317, u318, u319, u320, u321, u322, u323, u324, u325, u326, u327], []⟩ W') :
    (restFrom Tryz.f4 19).wp Tryz.prog Q
      ⟨#[u0, u1, u2, u3, u4, u5, u6, u7, u8, u9, .pointer (some ⟨pw, 0, none⟩), .pointer (some ⟨pa, 0, none⟩), u12, u13, u14, u15, u16, u17, u18, .pointer (some ⟨pS, 0, none⟩), u20, u21, u22, u23, u24, u25, u26, u27, u28, u29, u30, u31, u32, u33, u34, u35, u36, u37, u38, u39, u40, u41, u42, u43, u44, u45, u46, u47, u48, u49, u50, u51, u52, u53, u54, u55, u56, u57, u58, u59, u60, u61, u62, u63, u64, u65, u66, u67, u68, u69, u70, u71, u72, u73, u74, u75, u76, u77, u78, u79, u80, u81, u82, u83, u84, u85, u86, u87, u88, u89, u90, u91, u92, u93, u94, u95, u96, u97, u98, u99, u100, u101, u102, u103, u104, u105, u106, u107, u108, u109, u110, u111, u112, u113, u114, u115, u116, u117, u118, u119, u120, u121, u122, u123, u124, u125, u126, u127, u128, u129, u130, u131, u132, u133, u134, u135, u136, u137, u138, u139, u140, u141, u142, u143, u144, u145, u146, u147, u148, u149, u150, u151, u152, u153, u154, u155, u156, u157, u158, u159, u160, u161, u162, u163, u164, u165, u166, u167, u168, u169, u170, u171, u172, u173, u174, u175, u176, u177, u178, u179, u180, u181, u182, u183, u184, u185, u186, u187, u188, u189, u190, u191, u192, u193, u194, u195, u196, u197, u198, u199, u200, u201, u202, u203, u204, u205, u206, u207, u208, u209, u210, u211, u212, u213, u214, u215, u216, u217, u218, u219, u220, u221, u222, u223, u224, u225, u226, u227, u228, u229, u230, u231, u232, u233, u234, u235, u236, u237, u238, u239, u240, u241, u242, u243, u244, u245, u246, u247, u248, u249, u250, u251, u252, u253, u254, u255, u256, u257, u258, u259, u260, u261, u262, u263, u264, u265, u266, u267, u268, u269, u270, u271, u272, u273, u274, u275, u276, u277, u278, u279, u280, u281, u282, u283, u284, u285, u286, u287, u288, u289, u290, u291, u292, u293, u294, u295, u296, u297, u298, u299, u300, u301, u302, u303, u304, u305, u306, u307, u308, u309, u310, u311, u312, u313, u314, u315, u316, u317, u318, u319, u320, u321, u322, u323, u324, u325, u326, u327], []⟩ wr := by
  dsimp only at hnext hbrk
  obtain ⟨a, n, c, l, ha, hl, hc, hm, har, hin, hf⟩ := hS.area
  have hlt := heap_lt ha
  have hse := see_any a n c l ⟨1, ox, oy, fx, fy, tx, ty, 0, 0, 0⟩ wr hl hc hm (by show (0 : Int) ≤ 1; decide) (by show (1 : Int) ≤ 255; decide)
  unfold SeePost Sight.val at hse
  simp only at hse
  rcases see_true har hin hok hsn with ⟨hv, har', hin'⟩ | hv
  · rw [hv] at hse
    simp only at hse
    obtain ⟨L, hL⟩ : ∃ L, l ++ halvesOf ⟨1, ox, oy, fx, fy, tx, ty, 0, 0, 0⟩ = L := ⟨_, rfl⟩
    rw [hL] at hse har' hin'
    obtain ⟨m, hm'⟩ : ∃ m, L.length = m := ⟨_, rfl⟩
    rw [hm'] at hse
    clear hv hl hin har hok hsn hf hL
    have HS := Lib.hid hS
    have Hw := Lib.hid hw
    have Hs := Lib.hid hs
    have Ha := Lib.hid ha
    have Hse := Lib.hid hse
    have Har' := Lib.hid har'
    have Hin' := Lib.hid hin'
    have Hnext := Lib.hid hnext
    have Hm' := Lib.hid hm'
    clear hS hw hs ha hse har' hin' hnext hm'
    clear hbrk
    conv => arg 2; whnf
    dsimp only
    go_upto_region 20 with (first | (refine wpList_load_row rfl 24 (.tmp 11) rfl pa rfl 24 _ (0, 0) _ Ha.out Tryz.underlying24 rfl (by kernel_rfl) ?_) | (refine wpList_load_row rfl 68 (.tmp 19) rfl pS rfl 68 _ (0, 0) _ Hs.out Tryz.underlying68 rfl (by kernel_rfl) ?_) | (go_at_call 20; refine Hse.out.mono ?_; rintro er v3 ⟨b, k, rfl, hbk, hkm, hx3, hb3, hf3⟩))
    have hst := fun W (hW : Ext v3 W) => stays_any b m k L x y W (hb3.ext hW) hbk hkm (fun h hh => by have := Har'.out.each h hh; omega) (by omega) (by omega)
    rw [stays_in.2 Hin'.out] at hst
    have hx4 := hx3.alloc (.cells #[.slice b m k] 24)
    have hv4 := (Ext.refl v3).alloc (.cells #[.slice b m k] 24)
    have hp20 := heap_alloc_new v3 (.cells #[.slice b m k] 24)
    generalize v3.alloc (.cells #[.slice b m k] 24) = V4 at *
    generalize v3.heap.size = p20 at *
    have hw4 := hx4.heap Hw.out
    have ha4 := hx4.heap Ha.out
    obtain ⟨z20, _⟩ := (Ext.refl V4).box hp20
    obtain ⟨zw, _⟩ := (Ext.refl V4).box hw4
    have hb4 := hb3.ext hv4
    have Hst := Lib.hid fun W (hW : Ext V4 W) => hst W (hv4.trans hW)
    clear hst hb3 hx3 hv4 Ha Hw Hs Hse
    have Hx4 := Lib.hid hx4
    have Hp20 := Lib.hid hp20
    have Hb4 := Lib.hid hb4
    have Ha4 := Lib.hid ha4
    clear hx4 hp20 hb4 ha4
    go_upto_if 250 with (first | (refine wpList_load_row rfl 24 (.tmp 20) rfl p20 rfl 24 _ (0, 0) _ Hp20.out Tryz.underlying24 rfl (by kernel_rfl) ?_) | (go_at_call 8; refine (Hst.out _ (Ext.refl _)).mono ?_; rintro er v5 ⟨rfl, hx5⟩))
    have hp5 := hx5.heap Hp20.out
    have ha5 := hx5.heap Ha4.out
    have hy5 := Hx4.out.trans hx5
    clear z20 zw
    obtain ⟨z20, _⟩ := (Ext.refl v5).box hp5
    obtain ⟨z11, f11⟩ := (Ext.refl v5).box ha5
    have hK := HS.out.put hy5 hp (Hb4.out.ext hx5) hbk hkm Har'.out Hin'.out hf3
    have hlt5 := heap_lt ha5
    have HK := Lib.hid hK
    have Hp5 := Lib.hid hp5
    clear hK hp5
    clear hx5 Hx4 hy5 ha5 hf3
    go_wp2_with (refine wpList_load_row rfl 24 (.tmp 20) rfl p20 rfl 24 _ (0, 0) _ Hp5.out Tryz.underlying24 rfl (by kernel_rfl) ?_)
    exact Hnext.out _ HK.out
  · rw [hv] at hse
    simp only [List.length_nil] at hse
    clear hv hl hin har hok hsn hf
    have HS := Lib.hid hS
    have Hw := Lib.hid hw
    have Hs := Lib.hid hs
    have Ha := Lib.hid ha
    have Hse := Lib.hid hse
    have Hbrk := Lib.hid hbrk
    clear hS hw hs ha hse hbrk
    clear hnext
    conv => arg 2; whnf
    dsimp only
    go_upto_region 20 with (first | (refine wpList_load_row rfl 24 (.tmp 11) rfl pa rfl 24 _ (0, 0) _ Ha.out Tryz.underlying24 rfl (by kernel_rfl) ?_) | (refine wpList_load_row rfl 68 (.tmp 19) rfl pS rfl 68 _ (0, 0) _ Hs.out Tryz.underlying68 rfl (by kernel_rfl) ?_) | (go_at_call 20; refine Hse.out.mono ?_; rintro er v3 ⟨b, k, rfl, hbk, hkm, hx3, hb3, hf3⟩))
    have hK := HS.out.more (hx3.alloc (.cells #[.slice b 0 k] 24))
    generalize v3.alloc (.cells #[.slice b 0 k] 24) = V4 at *
    have HK := Lib.hid hK
    clear hK
    clear hx3 hb3 hf3
    go_wp2_with fail
    exact Hbrk.out _ HK.out
end Go.Proofs.YtcoelhpmkhimpaaGreat

/- TopKnown: one look: how it is seen (regions 17 and 18 of a round). -/
namespace Go.Proofs.YtcoelhpmkhimpaaGreat
open Go.RowKit
set_option linter.unusedVariables false
set_option linter.unusedSimpArgs false
theorem run_max8 (a b c d e f g h : Int) (w : World) : (Builtin.max_ #[3, 3, 3, 3, 3, 3, 3, 3] 3 #[.int .i64 a, .int .i64 b, .int .i64 c, .int .i64 d, .int .i64 e, .int .i64 f, .int .i64 g, .int .i64 h]).run Tryz.prog w = .ok (.int .i64 (max (max (max a b) (max c d)) (max (max e f) (max g h)))) w := by
  have hm : ∀ p q : Int, (if p < q then q else p) = max p q := by
    intro p q
    split <;> omega
  simp [Builtin.max_, Builtin.max2, hm, Int.max_assoc]
/-- the numbers of a look from a well to another one -/
structure Turn (dx dy t Q1 Q2 fx fy tx ty R1 R2 R3 R4 R5 R6 M : Int) : Prop where
  q1 : (dy * t).tdiv 2 = Q1
  q2 : (dx * t).tdiv 2 = Q2
  efx : 2 * dx + Q1 = fx
  efy : 2 * dy - Q2 = fy
  etx : 2 * dx - Q1 = tx
  ety : 2 * dy + Q2 = ty
  r1 : fx * ty = R1
  r2 : fy * tx = R2
  r3 : fx * dy = R3
  r4 : fy * dx = R4
  r5 : dx * ty = R5
  r6 : dy * tx = R6
  m : max (max (max fx (-fx)) (max fy (-fy))) (max (max tx (-tx)) (max ty (-ty))) = M
theorem turn_some (dx dy t : Int) : ∃ Q1 Q2 fx fy tx ty R1 R2 R3 R4 R5 R6 M, Turn dx dy t Q1 Q2 fx fy tx ty R1 R2 R3 R4 R5 R6 M :=
  ⟨_, _, _, _, _, _, _, _, _, _, _, _, _, rfl, rfl, rfl, rfl, rfl, rfl, rfl, rfl, rfl, rfl, rfl, rfl, rfl⟩
theorem turn_bd {dx t : Int} (h : -400 ≤ dx ∧ dx ≤ 400) (ht : t = 1 ∨ t = 2) : (-800 ≤ dx * t ∧ dx * t ≤ 800) ∧ (-400 ≤ (dx * t).tdiv 2 ∧ (dx * t).tdiv 2 ≤ 400) := by
  have : -800 ≤ dx * t ∧ dx * t ≤ 800 := by rcases ht with rfl | rfl <;> omega
  refine ⟨this, ?_⟩
  generalize dx * t = P at *
  rcases Int.le_total 0 P with h | h
  · rw [Int.tdiv_eq_ediv_of_nonneg h]
    omega
  · have e : P.tdiv 2 = -((-P).tdiv 2) := by rw [Int.neg_tdiv, Int.neg_neg]
    rw [e, Int.tdiv_eq_ediv_of_nonneg (by omega)]
    omega
/-- all that is so of these numbers -/
structure TurnB (dx dy t Q1 Q2 fx fy tx ty R1 R2 R3 R4 R5 R6 M : Int) : Prop where
  p1 : -800 ≤ dy * t ∧ dy * t ≤ 800
  p2 : -800 ≤ dx * t ∧ dx * t ≤ 800
  q1 : -400 ≤ Q1 ∧ Q1 ≤ 400
  q2 : -400 ≤ Q2 ∧ Q2 ≤ 400
  bfx : -1200 ≤ fx ∧ fx ≤ 1200
  bfy : -1200 ≤ fy ∧ fy ≤ 1200
  btx : -1200 ≤ tx ∧ tx ≤ 1200
  bty : -1200 ≤ ty ∧ ty ≤ 1200
  m1 : -1440000 ≤ R1 ∧ R1 ≤ 1440000
  m2 : -1440000 ≤ R2 ∧ R2 ≤ 1440000
  m3 : -480000 ≤ R3 ∧ R3 ≤ 480000
  m4 : -480000 ≤ R4 ∧ R4 ≤ 480000
  m5 : -480000 ≤ R5 ∧ R5 ≤ 480000
  m6 : -480000 ≤ R6 ∧ R6 ≤ 480000
  hmx : ∀ W, (Builtin.max_ #[3, 3, 3, 3, 3, 3, 3, 3] 3 #[.int .i64 fx, .int .i64 (-fx), .int .i64 fy, .int .i64 (-fy), .int .i64 tx, .int .i64 (-tx), .int .i64 ty, .int .i64 (-ty)]).run Tryz.prog W = .ok (.int .i64 M) W
theorem Turn.bd {dx dy t Q1 Q2 fx fy tx ty R1 R2 R3 R4 R5 R6 M : Int} (hT : Turn dx dy t Q1 Q2 fx fy tx ty R1 R2 R3 R4 R5 R6 M) (hd : -400 ≤ dx ∧ dx ≤ 400) (hd' : -400 ≤ dy ∧ dy ≤ 400) (ht : t = 1 ∨ t = 2) :
    TurnB dx dy t Q1 Q2 fx fy tx ty R1 R2 R3 R4 R5 R6 M := by
  obtain ⟨hP2, hq2⟩ := turn_bd hd ht
  obtain ⟨hP1, hq1⟩ := turn_bd hd' ht
  obtain ⟨e1, e2, e3, e4, e5, e6, e7, e8, e9, e10, e11, e12, e13⟩ := hT
  rw [e1] at hq1
  rw [e2] at hq2
  have bfx : -1200 ≤ fx ∧ fx ≤ 1200 := by omega
  have bfy : -1200 ≤ fy ∧ fy ≤ 1200 := by omega
  have btx : -1200 ≤ tx ∧ tx ≤ 1200 := by omega
  have bty : -1200 ≤ ty ∧ ty ≤ 1200 := by omega
  have m1 := mul_le (A := 1200) (B := 1200) bfx.1 bfx.2 bty.1 bty.2
  have m2 := mul_le (A := 1200) (B := 1200) bfy.1 bfy.2 btx.1 btx.2
  have m3 := mul_le (A := 1200) (B := 400) bfx.1 bfx.2 hd'.1 hd'.2
  have m4 := mul_le (A := 1200) (B := 400) bfy.1 bfy.2 hd.1 hd.2
  have m5 := mul_le (A := 400) (B := 1200) hd.1 hd.2 bty.1 bty.2
  have m6 := mul_le (A := 400) (B := 1200) hd'.1 hd'.2 btx.1 btx.2
  rw [e7] at m1
  rw [e8] at m2
  rw [e9] at m3
  rw [e10] at m4
  rw [e11] at m5
  rw [e12] at m6
  simp only [Int.reduceMul, Int.reduceNeg] at m1 m2 m3 m4 m5 m6
  have hmx := fun W => run_max8 fx (-fx) fy (-fy) tx (-tx) ty (-ty) W
  rw [e13] at hmx
  exact ⟨hP1, hP2, hq1, hq2, bfx, bfy, btx, bty, m1, m2, m3, m4, m5, m6, hmx⟩
theorem leq_t {a b : Int} (h : a ≤ b) : decide (a - b ≤ 0) = true ∧ decide (a ≤ b) = true := ⟨decide_eq_true (by omega), decide_eq_true h⟩
theorem leq_f {a b : Int} (h : ¬a ≤ b) : decide (a - b ≤ 0) = false ∧ decide (a ≤ b) = false := ⟨decide_eq_false (by omega), decide_eq_false h⟩
theorem lss_t {a b : Int} (h : a < b) : decide (a - b < 0) = true ∧ decide (a < b) = true := ⟨decide_eq_true (by omega), decide_eq_true h⟩
theorem lss_f {a b : Int} (h : ¬a < b) : decide (a - b < 0) = false ∧ decide (a < b) = false := ⟨decide_eq_false (by omega), decide_eq_false h⟩
theorem Turn.look {x y ox oy dx dy t Q1 Q2 fx fy tx ty R1 R2 R3 R4 R5 R6 M : Int} (hT : Turn dx dy t Q1 Q2 fx fy tx ty R1 R2 R3 R4 R5 R6 M) (hox : -10000000 ≤ ox ∧ ox ≤ 10000000) (hoy : -10000000 ≤ oy ∧ oy ≤ 10000000)
    (hdx : ox - x = dx) (hdy : oy - y = dy) (h1 : ¬R1 ≤ R2) (h2 : ¬R3 < R4) (h3 : ¬R5 < R6) (h4 : ¬1000 < M) : sightOk ⟨1, ox, oy, fx, fy, tx, ty, 0, 0, 0⟩ = true ∧ seenB ⟨1, ox, oy, fx, fy, tx, ty, 0, 0, 0⟩ x y = true := by
  obtain ⟨e1, e2, e3, e4, e5, e6, e7, e8, e9, e10, e11, e12, e13⟩ := hT
  refine look_ok hox hoy (by omega) (by omega) (by omega) (by omega) (by rw [e7, e8]; omega) ?_ ?_
  · rw [hdx, hdy, e9, e10]
    omega
  · rw [hdx, hdy, e11, e12]
    omega
set_option maxRecDepth 100000 in
set_option maxHeartbeats 16000000 in
theorem knownC1 {Q : Exit → Act → World → Prop} {w W2 wr : World} {pa pw pS : Nat} {x y dp y0 y1 rm s0 s1 ow ox oy dx dy t : Int} {Q1 Q2 fx fy tx ty R1 R2 R3 R4 R5 R6 M : Int}
    (hT : Turn dx dy t Q1 Q2 fx fy tx ty R1 R2 R3 R4 R5 R6 M)
    (hS : KSt w W2 pa x y wr) (hp : w.heap.size ≤ pa) (hw : wr.heap[pw]? = some (.cells #[.int .i64 x, .int .i64 y, .int .i64 dp, .int .i64 y0, .int .i64 y1, .int .i64 rm, .int .i64 s0, .int .i64 s1, .int .i64 ow] 62 (0, 0)))
    (hs : wr.heap[pS]? = some (.cells #[.int .u8 1, .int .i64 ox, .int .i64 oy, .int .i64 fx, .int .i64 fy, .int .i64 tx, .int .i64 ty, .int .i64 0, .int .i64 0, .int .i64 0] 68 (0, 0)))
    (hox : -10000000 ≤ ox ∧ ox ≤ 10000000) (hoy : -10000000 ≤ oy ∧ oy ≤ 10000000)
    (hdx : ox - x = dx) (hdy : oy - y = dy) (hd : -400 ≤ dx ∧ dx ≤ 400) (hd' : -400 ≤ dy ∧ dy ≤ 400) (ht : t = 1 ∨ t = 2)
    (hxb : -10000000 ≤ x ∧ x ≤ 10000000) (hyb : -10000000 ≤ y ∧ y ≤ 10000000)
    (h1 : R1 ≤ R2)
    {u0 u1 u2 u3 u4 u5 u6 u7 u8 u9 u12 u13 u14 u15 u18 u20 u21 u22 u23 u24 u25 u26 u27 u28 u29 u30 u31 u32 u33 u34 u35 u36 u37 u38 u39 u40 u41 u42 u43 u44 u45 u46 u47 u48 u49 u50 u51 u52 u53 u54 u55 u56 u57 u58 u59 u60 u61 u62 u63 u64 u65 u66 u67 u68 u69 u70 u71 u72 u73 u74 u75 u76 u77 u78 u79 u80 u81 u82 u83 u84 u85 u86 u87 u88 u89 u90 u91 u92 u93 u94 u95 u96 u97 u98 u99 u100 u101 u102 u103 u104 u105 u106 u107 u108 u109 u110 u111 u112 u113 u114 u115 u116 u117 u118 u119 u120 u121 u122 u123 u124 u125 u126 u127 u128 u129 u130 u131 u132 u133 u134 u135 u136 u137 u138 u139 u140 u141 u142 u143 u144 u145 u146 u147 u148 u149 u150 u151 u152 u153 u154 u155 u156 u157 u158 u159 u160 u161 u162 u163 u164 u165 u166 u167 u168 u169 u170 u171 u172 u173 u174 u175 u176 u177 u178 u179 u180 u181 u182 u183 u184 u185 u186 u187 u188 u189 u190 u191 u192 u193 u194 u195 u196 u197 u198 u199 u200 u201 u202 u203 u204 u205 u206 u207 u208 u209 u210 u211 u212 u213 u214 u215 u216 u217 u218 u219 u220 u221 u222 u223 u224 u225 u226 u227 u228 u229 u230 u231 u232 u233 u234 u235 u236 u237 u238 u239 u240 u241 u242 u243 u244 u245 u246 u247 u248 u249 u250 u251 u252 u253 u254 u255 u256 u257 u258 u259 u260 u261 u262 u263 u264 u265 u266 u267 u268 u269 u270 u271 u272 u273 u274 u275 u276 u277 u278 u279 u280 u281 u282 u283 u284 u285 u286 u287 u288 u289 u290 u291 u292 u293 u294 u295 u296 u297 u298 u299 u300 u301 u302 u303 u304 u305 u306 u307 u308 u309 u310 u311 u312 u313 u314 u315 u316 u317 u318 u319 u320 u321 u322 u323 u324 u325 u326 u327 : Value}
    (hcont : ∀ W', KSt w W2 pa x y W' → ∀ {v156 v157 v158 v159 v160 v161 v162 v163 v164 v165 v166 v167 v168 v169 v170 v171 v172 v173 v174 v175 v176 v177 v178 v179 v180 v181 v182 v183 v184 v185 v186 v187 v188 v189 v190 v191 v192 v193 v194 v195 v196 v197 v198 v199 v200 v201 v202 v203 v204 v205 v206 v207 v208 v209 v210 v211 v212 v213 v214 v215 v216 v217 v218 v219 v220 v221 v222 v223 v224 v225 v226 v227 v228 v229 v230 v231 : Value},
      Q (.exit 1) ⟨#[u0, u1, u2, u3, u4, u5, u6, u7, u8, u9, .pointer (some ⟨pw, 0, none⟩), .pointer (some ⟨pa, 0, none⟩), u12, u13, u14, u15, .int .i64 dx, .int .i64 dy, u18, .pointer (some ⟨pS, 0, none⟩), u20, u21, u22, u23, u24, u25, u26, u27, u28, u29, u30, u31, u32, u33, u34, u35, u36, u37, u38, u39, u40, u41, u42, u43, u44, u45, u46, u47, u48, u49, u50, u51, u52, u53, u54, u55, u56, u57, u58, u59, u60, u61, u62, u63, u64, u65, u66, u67, u68, u69, u70, u71, u72, u73, u74, u75, u76, u77, u78, u79, u80, u81, u82, u83, u84, u85, u86, u87, u88, u89, u90, u91, u92, u93, u94, u95, u96, u97, u98, u99, u100, u101, u102, u103, u104, u105, u106, u107, u108, u109, u110, u111, u112, u113, u114, u115, u116, u117, u118, u119, u120, u121, u122, u123, u124, u125, u126, u127, u128, u129, u130, u131, u132, u133, u134, u135, u136, u137, u138, u139, u140, u141, u142, u143, u144, u145, u146, u147, u148, u149, u150, u151, u152, u153, u154, u155, v156, v157, v158, v159, v160, v161, v162, v163, v164, v165, v166, v167, v168, v169, v170, v171, v172, v173, v174, v175, v176, v177, v178, v179, v180, v181, v182, v183, v184, v185, v186, v187, v188, v189, v190, v191, v192, v193, v194, v195, v196, v197, v198, v199, v200, v201, v202, v203, v204, v205, v206, v207, v208, v209, v210, v211, v212, v213, v214, v215, v216, v217, v218, v219, v220, v221, v222, v223, v224, v225, v226, v227, v228, v229, v230, v231, u232, u233, u234, u235, u236, u237, u238, u239, u240, u241, u242, u243, u244, u245, u246, u247, u248, u249, u250, u251, u252, u253, u254, u255, u256, u257, u258, u259, u260, u261, u262, u263, u264, u265, u266, u267, u268, u269, u270, u271, u272, u273, u274, u275, u276, u277, u278, u279, u280, u281, u282, u283, u284, u285, u286, u287, u288, u289, u290, u291, u292, u293, u294, u295, u296, u297, u298, u299, u300, u301, u302, u303, u304, u305, u306, u307, u308, u309, u310, u311, u312, u313, u314, u315, u316, u317, u318, u319, u320, u321, u322, u323, u324, u325, u326, u327], []⟩ W')
    :
    (restFrom Tryz.f4 18).wp Tryz.prog Q
      ⟨#[u0, u1, u2, u3, u4, u5, u6, u7, u8, u9, .pointer (some ⟨pw, 0, none⟩), .pointer (some ⟨pa, 0, none⟩), u12, u13, u14, u15, .int .i64 dx, .int .i64 dy, u18, .pointer (some ⟨pS, 0, none⟩), u20, u21, u22, u23, u24, u25, u26, u27, u28, u29, u30, u31, u32, u33, u34, u35, u36, u37, u38, u39, u40, u41, u42, u43, u44, u45, u46, u47, u48, u49, u50, u51, u52, u53, u54, u55, u56, u57, u58, u59, u60, u61, u62, u63, u64, u65, u66, u67, u68, u69, u70, u71, u72, u73, u74, u75, u76, u77, u78, u79, u80, u81, u82, u83, u84, u85, u86, u87, u88, u89, u90, u91, u92, u93, u94, u95, u96, u97, u98, u99, u100, u101, u102, u103, u104, u105, u106, u107, u108, u109, u110, u111, u112, u113, u114, u115, u116, u117, u118, u119, u120, u121, u122, u123, u124, u125, u126, u127, u128, u129, u130, u131, u132, u133, u134, u135, u136, u137, u138, u139, u140, u141, u142, u143, u144, u145, u146, u147, u148, u149, u150, u151, u152, u153, u154, u155, u156, u157, u158, u159, u160, u161, u162, u163, u164, u165, u166, u167, u168, u169, u170, u171, u172, u173, u174, u175, u176, u177, u178, u179, u180, u181, u182, u183, u184, u185, u186, u187, u188, u189, u190, u191, u192, u193, u194, u195, u196, u197, u198, u199, u200, u201, u202, u203, u204, u205, u206, u207, u208, u209, u210, u211, u212, u213, u214, u215, u216, u217, u218, u219, u220, u221, u222, u223, u224, u225, u226, u227, u228, u229, u230, u231, u232, u233, u234, u235, u236, u237, u238, u239, u240, u241, u242, u243, u244, u245, u246, u247, u248, u249, u250, u251, u252, u253, u254, u255, u256, u257, u258, u259, u260, u261, u262, u263, u264, u265, u266, u267, u268, u269, u270, u271, u272, u273, u274, u275, u276, u277, u278, u279, u280, u281, u282, u283, u284, u285, u286, u287, u288, u289, u290, u291, u292, u293, u294, u295, u296, u297, u298, u299, u300, u301, u302, u303, u304, u305, u306, u307, u308, u309, u310, u311, u312, u313, u314, u315, u316, u317, u318, u319, u320, u321, u322, u323, u324, u325, u326, u327], []⟩ wr := by
  dsimp only at hcont
  have hB := hT.bd hd hd' ht
  have hm1 := hB.m1
  have hm2 := hB.m2
  have hm3 := hB.m3
  have hm4 := hB.m4
  have hm5 := hB.m5
  have hm6 := hB.m6
  have hbfx := hB.bfx
  have hbfy := hB.bfy
  have hbtx := hB.btx
  have hbty := hB.bty
  have hmx := hB.hmx
  have e7 := hT.r1
  have e8 := hT.r2
  have e9 := hT.r3
  have e10 := hT.r4
  have e11 := hT.r5
  have e12 := hT.r6
  clear hB hT hox hoy hdx hdy ht
  obtain ⟨c1, c1'⟩ := leq_t h1
  clear h1 hm3 hm4 hm5 hm6 e9 e10 e11 e12 hmx hbfx hbfy hbtx hbty hd hd'
  have HS := Lib.hid hS
  have Hw := Lib.hid hw
  have Hs := Lib.hid hs
  have Hcont := Lib.hid hcont
  clear hS hw hs hcont
  conv => arg 2; whnf
  dsimp only
  go_upto_region 18 with fail
  refine wp_region_seq (fun f hf hs => ?_)
  simp only [List.append]
  have f0 := fun q => ((hf q).box Hs.out).1
  clear hf hs
  repeat (go_big_quiet_step (fail))
  refine wpQuiet_nil ?_
  intro W1 hW1
  clear f0
  have hK := HS.out.more hW1
  have HK := Lib.hid hK
  clear hK
  clear hW1 HS Hs Hw
  iterate 4 go_step
  first | exact Hcont.out _ HK.out | (go_step; exact Hcont.out _ HK.out)
set_option maxRecDepth 100000 in
set_option maxHeartbeats 16000000 in
theorem knownC2 {Q : Exit → Act → World → Prop} {w W2 wr : World} {pa pw pS : Nat} {x y dp y0 y1 rm s0 s1 ow ox oy dx dy t : Int} {Q1 Q2 fx fy tx ty R1 R2 R3 R4 R5 R6 M : Int}
    (hT : Turn dx dy t Q1 Q2 fx fy tx ty R1 R2 R3 R4 R5 R6 M)
    (hS : KSt w W2 pa x y wr) (hp : w.heap.size ≤ pa) (hw : wr.heap[pw]? = some (.cells #[.int .i64 x, .int .i64 y, .int .i64 dp, .int .i64 y0, .int .i64 y1, .int .i64 rm, .int .i64 s0, .int .i64 s1, .int .i64 ow] 62 (0, 0)))
    (hs : wr.heap[pS]? = some (.cells #[.int .u8 1, .int .i64 ox, .int .i64 oy, .int .i64 fx, .int .i64 fy, .int .i64 tx, .int .i64 ty, .int .i64 0, .int .i64 0, .int .i64 0] 68 (0, 0)))
    (hox : -10000000 ≤ ox ∧ ox ≤ 10000000) (hoy : -10000000 ≤ oy ∧ oy ≤ 10000000)
    (hdx : ox - x = dx) (hdy : oy - y = dy) (hd : -400 ≤ dx ∧ dx ≤ 400) (hd' : -400 ≤ dy ∧ dy ≤ 400) (ht : t = 1 ∨ t = 2)
    (hxb : -10000000 ≤ x ∧ x ≤ 10000000) (hyb : -10000000 ≤ y ∧ y ≤ 10000000)
    (h1 : ¬R1 ≤ R2) (h2 : R3 < R4)
    {u0 u1 u2 u3 u4 u5 u6 u7 u8 u9 u12 u13 u14 u15 u18 u20 u21 u22 u23 u24 u25 u26 u27 u28 u29 u30 u31 u32 u33 u34 u35 u36 u37 u38 u39 u40 u41 u42 u43 u44 u45 u46 u47 u48 u49 u50 u51 u52 u53 u54 u55 u56 u57 u58 u59 u60 u61 u62 u63 u64 u65 u66 u67 u68 u69 u70 u71 u72 u73 u74 u75 u76 u77 u78 u79 u80 u81 u82 u83 u84 u85 u86 u87 u88 u89 u90 u91 u92 u93 u94 u95 u96 u97 u98 u99 u100 u101 u102 u103 u104 u105 u106 u107 u108 u109 u110 u111 u112 u113 u114 u115 u116 u117 u118 u119 u120 u121 u122 u123 u124 u125 u126 u127 u128 u129 u130 u131 u132 u133 u134 u135 u136 u137 u138 u139 u140 u141 u142 u143 u144 u145 u146 u147 u148 u149 u150 u151 u152 u153 u154 u155 u156 u157 u158 u159 u160 u161 u162 u163 u164 u165 u166 u167 u168 u169 u170 u171 u172 u173 u174 u175 u176 u177 u178 u179 u180 u181 u182 u183 u184 u185 u186 u187 u188 u189 u190 u191 u192 u193 u194 u195 u196 u197 u198 u199 u200 u201 u202 u203 u204 u205 u206 u207 u208 u209 u210 u211 u212 u213 u214 u215 u216 u217 u218 u219 u220 u221 u222 u223 u224 u225 u226 u227 u228 u229 u230 u231 u232 u233 u234 u235 u236 u237 u238 u239 u240 u241 u242 u243 u244 u245 u246 u247 u248 u249 u250 u251 u252 u253 u254 u255 u256 u257 u258 u259 u260 u261 u262 u263 u264 u265 u266 u267 u268 u269 u270 u271 u272 u273 u274 u275 u276 u277 u278 u279 u280 u281 u282 u283 u284 u285 u286 u287 u288 u289 u290 u291 u292 u293 u294 u295 u296 u297 u298 u299 u300 u301 u302 u303 u304 u305 u306 u307 u308 u309 u310 u311 u312 u313 u314 u315 u316 u317 u318 u319 u320 u321 u322 u323 u324 u325 u326 u327 : Value}
    (hcont : ∀ W', KSt w W2 pa x y W' → ∀ {v156 v157 v158 v159 v160 v161 v162 v163 v164 v165 v166 v167 v168 v169 v170 v171 v172 v173 v174 v175 v176 v177 v178 v179 v180 v181 v182 v183 v184 v185 v186 v187 v188 v189 v190 v191 v192 v193 v194 v195 v196 v197 v198 v199 v200 v201 v202 v203 v204 v205 v206 v207 v208 v209 v210 v211 v212 v213 v214 v215 v216 v217 v218 v219 v220 v221 v222 v223 v224 v225 v226 v227 v228 v229 v230 v231 : Value},
      Q (.exit 1) ⟨#[u0, u1, u2, u3, u4, u5, u6, u7, u8, u9, .pointer (some ⟨pw, 0, none⟩), .pointer (some ⟨pa, 0, none⟩), u12, u13, u14, u15, .int .i64 dx, .int .i64 dy, u18, .pointer (some ⟨pS, 0, none⟩), u20, u21, u22, u23, u24, u25, u26, u27, u28, u29, u30, u31, u32, u33, u34, u35, u36, u37, u38, u39, u40, u41, u42, u43, u44, u45, u46, u47, u48, u49, u50, u51, u52, u53, u54, u55, u56, u57, u58, u59, u60, u61, u62, u63, u64, u65, u66, u67, u68, u69, u70, u71, u72, u73, u74, u75, u76, u77, u78, u79, u80, u81, u82, u83, u84, u85, u86, u87, u88, u89, u90, u91, u92, u93, u94, u95, u96, u97, u98, u99, u100, u101, u102, u103, u104, u105, u106, u107, u108, u109, u110, u111, u112, u113, u114, u115, u116, u117, u118, u119, u120, u121, u122, u123, u124, u125, u126, u127, u128, u129, u130, u131, u132, u133, u134, u135, u136, u137, u138, u139, u140, u141, u142, u143, u144, u145, u146, u147, u148, u149, u150, u151, u152, u153, u154, u155, v156, v157, v158, v159, v160, v161, v162, v163, v164, v165, v166, v167, v168, v169, v170, v171, v172, v173, v174, v175, v176, v177, v178, v179, v180, v181, v182, v183, v184, v185, v186, v187, v188, v189, v190, v191, v192, v193, v194, v195, v196, v197, v198, v199, v200, v201, v202, v203, v204, v205, v206, v207, v208, v209, v210, v211, v212, v213, v214, v215, v216, v217, v218, v219, v220, v221, v222, v223, v224, v225, v226, v227, v228, v229, v230, v231, u232, u233, u234, u235, u236, u237, u238, u239, u240, u241, u242, u243, u244, u245, u246, u247, u248, u249, u250, u251, u252, u253, u254, u255, u256, u257, u258, u259, u260, u261, u262, u263, u264, u265, u266, u267, u268, u269, u270, u271, u272, u273, u274, u275, u276, u277, u278, u279, u280, u281, u282, u283, u284, u285, u286, u287, u288, u289, u290, u291, u292, u293, u294, u295, u296, u297, u298, u299, u300, u301, u302, u303, u304, u305, u306, u307, u308, u309, u310, u311, u312, u313, u314, u315, u316, u317, u318, u319, u320, u321, u322, u323, u324, u325, u326, u327], []⟩ W')
    :
    (restFrom Tryz.f4 18).wp Tryz.prog Q
      ⟨#[u0, u1, u2, u3, u4, u5, u6, u7, u8, u9, .pointer (some ⟨pw, 0, none⟩), .pointer (some ⟨pa, 0, none⟩), u12, u13, u14, u15, .int .i64 dx, .int .i64 dy, u18, .pointer (some ⟨pS, 0, none⟩), u20, u21, u22, u23, u24, u25, u26, u27, u28, u29, u30, u31, u32, u33, u34, u35, u36, u37, u38, u39, u40, u41, u42, u43, u44, u45, u46, u47, u48, u49, u50, u51, u52, u53, u54, u55, u56, u57, u58, u59, u60, u61, u62, u63, u64, u65, u66, u67, u68, u69, u70, u71, u72, u73, u74, u75, u76, u77, u78, u79, u80, u81, u82, u83, u84, u85, u86, u87, u88, u89, u90, u91, u92, u93, u94, u95, u96, u97, u98, u99, u100, u101, u102, u103, u104, u105, u106, u107, u108, u109, u110, u111, u112, u113, u114, u115, u116, u117, u118, u119, u120, u121, u122, u123, u124, u125, u126, u127, u128, u129, u130, u131, u132, u133, u134, u135, u136, u137, u138, u139, u140, u141, u142, u143, u144, u145, u146, u147, u148, u149, u150, u151, u152, u153, u154, u155, u156, u157, u158, u159, u160, u161, u162, u163, u164, u165, u166, u167, u168, u169, u170, u171, u172, u173, u174, u175, u176, u177, u178, u179, u180, u181, u182, u183, u184, u185, u186, u187, u188, u189, u190, u191, u192, u193, u194, u195, u196, u197, u198, u199, u200, u201, u202, u203, u204, u205, u206, u207, u208, u209, u210, u211, u212, u213, u214, u215, u216, u217, u218, u219, u220, u221, u222, u223, u224, u225, u226, u227, u228, u229, u230, u231, u232, u233, u234, u235, u236, u237, u238, u239, u240, u241, u242, u243, u244, u245, u246, u247, u248, u249, u250, u251, u252, u253, u254, u255, u256, u257, u258, u259, u260, u261, u262, u263, u264, u265, u266, u267, u268, u269, u270, u271, u272, u273, u274, u275, u276, u277, u278, u279, u280, u281, u282, u283, u284, u285, u286, u287, u288, u289, u290, u291, u292, u293, u294, u295, u296, u297, u298, u299, u300, u301, u302, u303, u304, u305, u306, u307, u308, u309, u310, u311, u312, u313, u314, u315, u316, u317, u318, u319, u320, u321, u322, u323, u324, u325, u326, u327], []⟩ wr := by
  dsimp only at hcont
  have hB := hT.bd hd hd' ht
  have hm1 := hB.m1
  have hm2 := hB.m2
  have hm3 := hB.m3
  have hm4 := hB.m4
  have hm5 := hB.m5
  have hm6 := hB.m6
  have hbfx := hB.bfx
  have hbfy := hB.bfy
  have hbtx := hB.btx
  have hbty := hB.bty
  have hmx := hB.hmx
  have e7 := hT.r1
  have e8 := hT.r2
  have e9 := hT.r3
  have e10 := hT.r4
  have e11 := hT.r5
  have e12 := hT.r6
  clear hB hT hox hoy hdx hdy ht
  obtain ⟨c1, c1'⟩ := leq_f h1
  obtain ⟨c2, c2'⟩ := lss_t h2
  clear h1 h2 hm5 hm6 e11 e12 hmx hbfx hbfy hbtx hbty hd hd'
  have HS := Lib.hid hS
  have Hw := Lib.hid hw
  have Hs := Lib.hid hs
  have Hcont := Lib.hid hcont
  clear hS hw hs hcont
  conv => arg 2; whnf
  dsimp only
  go_upto_region 18 with fail
  refine wp_region_seq (fun f hf hs => ?_)
  simp only [List.append]
  have f0 := fun q => ((hf q).box Hs.out).1
  clear hf hs
  repeat (go_big_quiet_step (fail))
  refine wpQuiet_nil ?_
  intro W1 hW1
  clear f0
  have hK := HS.out.more hW1
  have HK := Lib.hid hK
  clear hK
  clear hW1 HS Hs Hw
  iterate 4 go_step
  first | exact Hcont.out _ HK.out | (go_step; exact Hcont.out _ HK.out)
set_option maxRecDepth 100000 in
set_option maxHeartbeats 16000000 in
theorem knownC3 {Q : Exit → Act → World → Prop} {w W2 wr : World} {pa pw pS : Nat} {x y dp y0 y1 rm s0 s1 ow ox oy dx dy t : Int} {Q1 Q2 fx fy tx ty R1 R2 R3 R4 R5 R6 M : Int}
    (hT : Turn dx dy t Q1 Q2 fx fy tx ty R1 R2 R3 R4 R5 R6 M)
    (hS : KSt w W2 pa x y wr) (hp : w.heap.size ≤ pa) (hw : wr.heap[pw]? = some (.cells #[.int .i64 x, .int .i64 y, .int .i64 dp, .int .i64 y0, .int .i64 y1, .int .i64 rm, .int .i64 s0, .int .i64 s1, .int .i64 ow] 62 (0, 0)))
    (hs : wr.heap[pS]? = some (.cells #[.int .u8 1, .int .i64 ox, .int .i64 oy, .int .i64 fx, .int .i64 fy, .int .i64 tx, .int .i64 ty, .int .i64 0, .int .i64 0, .int .i64 0] 68 (0, 0)))
    (hox : -10000000 ≤ ox ∧ ox ≤ 10000000) (hoy : -10000000 ≤ oy ∧ oy ≤ 10000000)
    (hdx : ox - x = dx) (hdy : oy - y = dy) (hd : -400 ≤ dx ∧ dx ≤ 400) (hd' : -400 ≤ dy ∧ dy ≤ 400) (ht : t = 1 ∨ t = 2)
    (hxb : -10000000 ≤ x ∧ x ≤ 10000000) (hyb : -10000000 ≤ y ∧ y ≤ 10000000)
    (h1 : ¬R1 ≤ R2) (h2 : ¬R3 < R4) (h3 : R5 < R6)
    {u0 u1 u2 u3 u4 u5 u6 u7 u8 u9 u12 u13 u14 u15 u18 u20 u21 u22 u23 u24 u25 u26 u27 u28 u29 u30 u31 u32 u33 u34 u35 u36 u37 u38 u39 u40 u41 u42 u43 u44 u45 u46 u47 u48 u49 u50 u51 u52 u53 u54 u55 u56 u57 u58 u59 u60 u61 u62 u63 u64 u65 u66 u67 u68 u69 u70 u71 u72 u73 u74 u75 u76 u77 u78 u79 u80 u81 u82 u83 u84 u85 u86 u87 u88 u89 u90 u91 u92 u93 u94 u95 u96 u97 u98 u99 u100 u101 u102 u103 u104 u105 u106 u107 u108 u109 u110 u111 u112 u113 u114 u115 u116 u117 u118 u119 u120 u121 u122 u123 u124 u125 u126 u127 u128 u129 u130 u131 u132 u133 u134 u135 u136 u137 u138 u139 u140 u141 u142 u143 u144 u145 u146 u147 u148 u149 u150 u151 u152 u153 u154 u155 u156 u157 u158 u159 u160 u161 u162 u163 u164 u165 u166 u167 u168 u169 u170 u171 u172 u173 u174 u175 u176 u177 u178 u179 u180 u181 u182 u183 u184 u185 u186 u187 u188 u189 u190 u191 u192 u193 u194 u195 u196 u197 u198 u199 u200 u201 u202 u203 u204 u205 u206 u207 u208 u209 u210 u211 u212 u213 u214 u215 u216 u217 u218 u219 u220 u221 u222 u223 u224 u225 u226 u227 u228 u229 u230 u231 u232 u233 u234 u235 u236 u237 u238 u239 u240 u241 u242 u243 u244 u245 u246 u247 u248 u249 u250 u251 u252 u253 u254 u255 u256 u257 u258 u259 u260 u261 u262 u263 u264 u265 u266 u267 u268 u269 u270 u271 u272 u273 u274 u275 u276 u277 u278 u279 u280 u281 u282 u283 u284 u285 u286 u287 u288 u289 u290 u291 u292 u293 u294 u295 u296 u297 u298 u299 u300 u301 u302 u303 u304 u305 u306 u307 u308 u309 u310 u311 u312 u313 u314 u315 u316 u317 u318 u319 u320 u321 u322 u323 u324 u325 u326 u327 : Value}
    (hcont : ∀ W', KSt w W2 pa x y W' → ∀ {v156 v157 v158 v159 v160 v161 v162 v163 v164 v165 v166 v167 v168 v169 v170 v171 v172 v173 v174 v175 v176 v177 v178 v179 v180 v181 v182 v183 v184 v185 v186 v187 v188 v189 v190 v191 v192 v193 v194 v195 v196 v197 v198 v199 v200 v201 v202 v203 v204 v205 v206 v207 v208 v209 v210 v211 v212 v213 v214 v215 v216 v217 v218 v219 v220 v221 v222 v223 v224 v225 v226 v227 v228 v229 v230 v231 : Value},
      Q (.exit 1) ⟨#[u0, u1, u2, u3, u4, u5, u6, u7, u8, u9, .pointer (some ⟨pw, 0, none⟩), .pointer (some ⟨pa, 0, none⟩), u12, u13, u14, u15, .int .i64 dx, .int .i64 dy, u18, .pointer (some ⟨pS, 0, none⟩), u20, u21, u22, u23, u24, u25, u26, u27, u28, u29, u30, u31, u32, u33, u34, u35, u36, u37, u38, u39, u40, u41, u42, u43, u44, u45, u46, u47, u48, u49, u50, u51, u52, u53, u54, u55, u56, u57, u58, u59, u60, u61, u62, u63, u64, u65, u66, u67, u68, u69, u70, u71, u72, u73, u74, u75, u76, u77, u78, u79, u80, u81, u82, u83, u84, u85, u86, u87, u88, u89, u90, u91, u92, u93, u94, u95, u96, u97, u98, u99, u100, u101, u102, u103, u104, u105, u106, u107, u108, u109, u110, u111, u112, u113, u114, u115, u116, u117, u118, u119, u120, u121, u122, u123, u124, u125, u126, u127, u128, u129, u130, u131, u132, u133, u134, u135, u136, u137, u138, u139, u140, u141, u142, u143, u144, u145, u146, u147, u148, u149, u150, u151, u152, u153, u154, u155, v156, v157, v158, v159, v160, v161, v162, v163, v164, v165, v166, v167, v168, v169, v170, v171, v172, v173, v174, v175, v176, v177, v178, v179, v180, v181, v182, v183, v184, v185, v186, v187, v188, v189, v190, v191, v192, v193, v194, v195, v196, v197, v198, v199, v200, v201, v202, v203, v204, v205, v206, v207, v208, v209, v210, v211, v212, v213, v214, v215, v216, v217, v218, v219, v220, v221, v222, v223, v224, v225, v226, v227, v228, v229, v230, v231, u232, u233, u234, u235, u236, u237, u238, u239, u240, u241, u242, u243, u244, u245, u246, u247, u248, u249, u250, u251, u252, u253, u254, u255, u256, u257, u258, u259, u260, u261, u262, u263, u264, u265, u266, u267, u268, u269, u270, u271, u272, u273, u274, u275, u276, u277, u278, u279, u280, u281, u282, u283, u284, u285, u286, u287, u288, u289, u290, u291, u292, u293, u294, u295, u296, u297, u298, u299, u300, u301, u302, u303, u304, u305, u306, u307, u308, u309, u310, u311, u312, u313, u314, u315, u316, u317, u318, u319, u320, u321, u322, u323, u324, u325, u326, u327], []⟩ W')
    :
    (restFrom Tryz.f4 18).wp Tryz.prog Q
      ⟨#[u0, u1, u2, u3, u4, u5, u6, u7, u8, u9, .pointer (some ⟨pw, 0, none⟩), .pointer (some ⟨pa, 0, none⟩), u12, u13, u14, u15, .int .i64 dx, .int .i64 dy, u18, .pointer (some ⟨pS, 0, none⟩), u20, u21, u22, u23, u24, u25, u26, u27, u28, u29, u30, u31, u32, u33, u34, u35, u36, u37, u38, u39, u40, u41, u42, u43, u44, u45, u46, u47, u48, u49, u50, u51, u52, u53, u54, u55, u56, u57, u58, u59, u60, u61, u62, u63, u64, u65, u66, u67, u68, u69, u70, u71, u72, u73, u74, u75, u76, u77, u78, u79, u80, u81, u82, u83, u84, u85, u86, u87, u88, u89, u90, u91, u92, u93, u94, u95, u96, u97, u98, u99, u100, u101, u102, u103, u104, u105, u106, u107, u108, u109, u110, u111, u112, u113, u114, u115, u116, u117, u118, u119, u120, u121, u122, u123, u124, u125, u126, u127, u128, u129, u130, u131, u132, u133, u134, u135, u136, u137, u138, u139, u140, u141, u142, u143, u144, u145, u146, u147, u148, u149, u150, u151, u152, u153, u154, u155, u156, u157, u158, u159, u160, u161, u162, u163, u164, u165, u166, u167, u168, u169, u170, u171, u172, u173, u174, u175, u176, u177, u178, u179, u180, u181, u182, u183, u184, u185, u186, u187, u188, u189, u190, u191, u192, u193, u194, u195, u196, u197, u198, u199, u200, u201, u202, u203, u204, u205, u206, u207, u208, u209, u210, u211, u212, u213, u214, u215, u216, u217, u218, u219, u220, u221, u222, u223, u224, u225, u226, u227, u228, u229, u230, u231, u232, u233, u234, u235, u236, u237, u238, u239, u240, u241, u242, u243, u244, u245, u246, u247, u248, u249, u250, u251, u252, u253, u254, u255, u256, u257, u258, u259, u260, u261, u262, u263, u264, u265, u266, u267, u268, u269, u270, u271, u272, u273, u274, u275, u276, u277, u278, u279, u280, u281, u282, u283, u284, u285, u286, u287, u288, u289, u290, u291, u292, u293, u294, u295, u296, u297, u298, u299, u300, u301, u302, u303, u304, u305, u306, u307, u308, u309, u310, u311, u312, u313, u314, u315, u316, u317, u318, u319, u320, u321, u322, u323, u324, u325, u326, u327], []⟩ wr := by
  dsimp only at hcont
  have hB := hT.bd hd hd' ht
  have hm1 := hB.m1
  have hm2 := hB.m2
  have hm3 := hB.m3
  have hm4 := hB.m4
  have hm5 := hB.m5
  have hm6 := hB.m6
  have hbfx := hB.bfx
  have hbfy := hB.bfy
  have hbtx := hB.btx
  have hbty := hB.bty
  have hmx := hB.hmx
  have e7 := hT.r1
  have e8 := hT.r2
  have e9 := hT.r3
  have e10 := hT.r4
  have e11 := hT.r5
  have e12 := hT.r6
  clear hB hT hox hoy hdx hdy ht
  obtain ⟨c1, c1'⟩ := leq_f h1
  obtain ⟨c2, c2'⟩ := lss_f h2
  obtain ⟨c3, c3'⟩ := lss_t h3
  clear h1 h2 h3 hmx hbfx hbfy hbtx hbty hd hd'
  have HS := Lib.hid hS
  have Hw := Lib.hid hw
  have Hs := Lib.hid hs
  have Hcont := Lib.hid hcont
  clear hS hw hs hcont
  conv => arg 2; whnf
  dsimp only
  go_upto_region 18 with fail
  refine wp_region_seq (fun f hf hs => ?_)
  simp only [List.append]
  have f0 := fun q => ((hf q).box Hs.out).1
  clear hf hs
  repeat (go_big_quiet_step (fail))
  refine wpQuiet_nil ?_
  intro W1 hW1
  clear f0
  have hK := HS.out.more hW1
  have HK := Lib.hid hK
  clear hK
  clear hW1 HS Hs Hw
  iterate 4 go_step
  first | exact Hcont.out _ HK.out | (go_step; exact Hcont.out _ HK.out)
set_option maxRecDepth 100000 in
set_option maxHeartbeats 16000000 in
theorem knownC4 {Q : Exit → Act → World → Prop} {w W2 wr : World} {pa pw pS : Nat} {x y dp y0 y1 rm s0 s1 ow ox oy dx dy t : Int} {Q1 Q2 fx fy tx ty R1 R2 R3 R4 R5 R6 M : Int}
    (hT : Turn dx dy t Q1 Q2 fx fy tx ty R1 R2 R3 R4 R5 R6 M)
    (hS : KSt w W2 pa x y wr) (hp : w.heap.size ≤ pa) (hw : wr.heap[pw]? = some (.cells #[.int .i64 x, .int .i64 y, .int .i64 dp, .int .i64 y0, .int .i64 y1, .int .i64 rm, .int .i64 s0, .int .i64 s1, .int .i64 ow] 62 (0, 0)))
    (hs : wr.heap[pS]? = some (.cells #[.int .u8 1, .int .i64 ox, .int .i64 oy, .int .i64 fx, .int .i64 fy, .int .i64 tx, .int .i64 ty, .int .i64 0, .int .i64 0, .int .i64 0] 68 (0, 0)))
    (hox : -10000000 ≤ ox ∧ ox ≤ 10000000) (hoy : -10000000 ≤ oy ∧ oy ≤ 10000000)
    (hdx : ox - x = dx) (hdy : oy - y = dy) (hd : -400 ≤ dx ∧ dx ≤ 400) (hd' : -400 ≤ dy ∧ dy ≤ 400) (ht : t = 1 ∨ t = 2)
    (hxb : -10000000 ≤ x ∧ x ≤ 10000000) (hyb : -10000000 ≤ y ∧ y ≤ 10000000)
    (h1 : ¬R1 ≤ R2) (h2 : ¬R3 < R4) (h3 : ¬R5 < R6) (h4 : 1000 < M)
    {u0 u1 u2 u3 u4 u5 u6 u7 u8 u9 u12 u13 u14 u15 u18 u20 u21 u22 u23 u24 u25 u26 u27 u28 u29 u30 u31 u32 u33 u34 u35 u36 u37 u38 u39 u40 u41 u42 u43 u44 u45 u46 u47 u48 u49 u50 u51 u52 u53 u54 u55 u56 u57 u58 u59 u60 u61 u62 u63 u64 u65 u66 u67 u68 u69 u70 u71 u72 u73 u74 u75 u76 u77 u78 u79 u80 u81 u82 u83 u84 u85 u86 u87 u88 u89 u90 u91 u92 u93 u94 u95 u96 u97 u98 u99 u100 u101 u102 u103 u104 u105 u106 u107 u108 u109 u110 u111 u112 u113 u114 u115 u116 u117 u118 u119 u120 u121 u122 u123 u124 u125 u126 u127 u128 u129 u130 u131 u132 u133 u134 u135 u136 u137 u138 u139 u140 u141 u142 u143 u144 u145 u146 u147 u148 u149 u150 u151 u152 u153 u154 u155 u156 u157 u158 u159 u160 u161 u162 u163 u164 u165 u166 u167 u168 u169 u170 u171 u172 u173 u174 u175 u176 u177 u178 u179 u180 u181 u182 u183 u184 u185 u186 u187 u188 u189 u190 u191 u192 u193 u194 u195 u196 u197 u198 u199 u200 u201 u202 u203 u204 u205 u206 u207 u208 u209 u210 u211 u212 u213 u214 u215 u216 u217 u218 u219 u220 u221 u222 u223 u224 u225 u226 u227 u228 u229 u230 u231 u232 u233 u234 u235 u236 u237 u238 u239 u240 u241 u242 u243 u244 u245 u246 u247 u248 u249 u250 u251 u252 u253 u254 u255 u256 u257 u258 u259 u260 u261 u262 u263 u264 u265 u266 u267 u268 u269 u270 u271 u272 u273 u274 u275 u276 u277 u278 u279 u280 u281 u282 u283 u284 u285 u286 u287 u288 u289 u290 u291 u292 u293 u294 u295 u296 u297 u298 u299 u300 u301 u302 u303 u304 u305 u306 u307 u308 u309 u310 u311 u312 u313 u314 u315 u316 u317 u318 u319 u320 u321 u322 u323 u324 u325 u326 u327 : Value}
    (hcont : ∀ W', KSt w W2 pa x y W' → ∀ {v156 v157 v158 v159 v160 v161 v162 v163 v164 v165 v166 v167 v168 v169 v170 v171 v172 v173 v174 v175 v176 v177 v178 v179 v180 v181 v182 v183 v184 v185 v186 v187 v188 v189 v190 v191 v192 v193 v194 v195 v196 v197 v198 v199 v200 v201 v202 v203 v204 v205 v206 v207 v208 v209 v210 v211 v212 v213 v214 v215 v216 v217 v218 v219 v220 v221 v222 v223 v224 v225 v226 v227 v228 v229 v230 v231 : Value},
      Q (.exit 1) ⟨#[u0, u1, u2, u3, u4, u5, u6, u7, u8, u9, .pointer (some ⟨pw, 0, none⟩), .pointer (some ⟨pa, 0, none⟩), u12, u13, u14, u15, .int .i64 dx, .int .i64 dy, u18, .pointer (some ⟨pS, 0, none⟩), u20, u21, u22, u23, u24, u25, u26, u27, u28, u29, u30, u31, u32, u33, u34, u35, u36, u37, u38, u39, u40, u41, u42, u43, u44, u45, u46, u47, u48, u49, u50, u51, u52, u53, u54, u55, u56, u57, u58, u59, u60, u61, u62, u63, u64, u65, u66, u67, u68, u69, u70, u71, u72, u73, u74, u75, u76, u77, u78, u79, u80, u81, u82, u83, u84, u85, u86, u87, u88, u89, u90, u91, u92, u93, u94, u95, u96, u97, u98, u99, u100, u101, u102, u103, u104, u105, u106, u107, u108, u109, u110, u111, u112, u113, u114, u115, u116, u117, u118, u119, u120, u121, u122, u123, u124, u125, u126, u127, u128, u129, u130, u131, u132, u133, u134, u135, u136, u137, u138, u139, u140, u141, u142, u143, u144, u145, u146, u147, u148, u149, u150, u151, u152, u153, u154, u155, v156, v157, v158, v159, v160, v161, v162, v163, v164, v165, v166, v167, v168, v169, v170, v171, v172, v173, v174, v175, v176, v177, v178, v179, v180, v181, v182, v183, v184, v185, v186, v187, v188, v189, v190, v191, v192, v193, v194, v195, v196, v197, v198, v199, v200, v201, v202, v203, v204, v205, v206, v207, v208, v209, v210, v211, v212, v213, v214, v215, v216, v217, v218, v219, v220, v221, v222, v223, v224, v225, v226, v227, v228, v229, v230, v231, u232, u233, u234, u235, u236, u237, u238, u239, u240, u241, u242, u243, u244, u245, u246, u247, u248, u249, u250, u251, u252, u253, u254, u255, u256, u257, u258, u259, u260, u261, u262, u263, u264, u265, u266, u267, u268, u269, u270, u271, u272, u273, u274, u275, u276, u277, u278, u279, u280, u281, u282, u283, u284, u285, u286, u287, u288, u289, u290, u291, u292, u293, u294, u295, u296, u297, u298, u299, u300, u301, u302, u303, u304, u305, u306, u307, u308, u309, u310, u311, u312, u313, u314, u315, u316, u317, u318, u319, u320, u321, u322, u323, u324, u325, u326, u327], []⟩ W')
    :
    (restFrom Tryz.f4 18).wp Tryz.prog Q
      ⟨#[u0, u1, u2, u3, u4, u5, u6, u7, u8, u9, .pointer (some ⟨pw, 0, none⟩), .pointer (some ⟨pa, 0, none⟩), u12, u13, u14, u15, .int .i64 dx, .int .i64 dy, u18, .pointer (some ⟨pS, 0, none⟩), u20, u21, u22, u23, u24, u25, u26, u27, u28, u29, u30, u31, u32, u33, u34, u35, u36, u37, u38, u39, u40, u41, u42, u43, u44, u45, u46, u47, u48, u49, u50, u51, u52, u53, u54, u55, u56, u57, u58, u59, u60, u61, u62, u63, u64, u65, u66, u67, u68, u69, u70, u71, u72, u73, u74, u75, u76, u77, u78, u79, u80, u81, u82, u83, u84, u85, u86, u87, u88, u89, u90, u91, u92, u93, u94, u95, u96, u97, u98, u99, u100, u101, u102, u103, u104, u105, u106, u107, u108, u109, u110, u111, u112, u113, u114, u115, u116, u117, u118, u119, u120, u121, u122, u123, u124, u125, u126, u127, u128, u129, u130, u131, u132, u133, u134, u135, u136, u137, u138, u139, u140, u141, u142, u143, u144, u145, u146, u147, u148, u149, u150, u151, u152, u153, u154, u155, u156, u157, u158, u159, u160, u161, u162, u163, u164, u165, u166, u167, u168, u169, u170, u171, u172, u173, u174, u175, u176, u177, u178, u179, u180, u181, u182, u183, u184, u185, u186, u187, u188, u189, u190, u191, u192, u193, u194, u195, u196, u197, u198, u199, u200, u201, u202, u203, u204, u205, u206, u207, u208, u209, u210, u211, u212, u213, u214, u215, u216, u217, u218, u219, u220, u221, u222, u223, u224, u225, u226, u227, u228, u229, u230, u231, u232, u233, u234, u235, u236, u237, u238, u239, u240, u241, u242, u243, u244, u245, u246, u247, u248, u249, u250, u251, u252, u253, u254, u255, u256, u257, u258, u259, u260, u261, u262, u263, u264, u265, u266, u267, u268, u269, u270, u271, u272, u273, u274, u275, u276, u277, u278, u279, u280, u281, u282, u283, u284, u285, u286, u287, u288, u289, u290, u291, u292, u293, u294, u295, u296, u297, u298, u299, u300, u301, u302, u303, u304, u305, u306, u307, u308, u309, u310, u311, u312, u313, u314, u315, u316, u317, u318, u319, u320, u321, u322, u323, u324, u325, u326, u327], []⟩ wr := by
  dsimp only at hcont
  have hB := hT.bd hd hd' ht
  have hm1 := hB.m1
  have hm2 := hB.m2
  have hm3 := hB.m3
  have hm4 := hB.m4
  have hm5 := hB.m5
  have hm6 := hB.m6
  have hbfx := hB.bfx
  have hbfy := hB.bfy
  have hbtx := hB.btx
  have hbty := hB.bty
  have hmx := hB.hmx
  have e7 := hT.r1
  have e8 := hT.r2
  have e9 := hT.r3
  have e10 := hT.r4
  have e11 := hT.r5
  have e12 := hT.r6
  clear hB hT hox hoy hdx hdy ht
  obtain ⟨c1, c1'⟩ := leq_f h1
  obtain ⟨c2, c2'⟩ := lss_f h2
  obtain ⟨c3, c3'⟩ := lss_f h3
  have c4 := decide_eq_true h4
  clear h1 h2 h3 h4
  have HS := Lib.hid hS
  have Hw := Lib.hid hw
  have Hs := Lib.hid hs
  have Hcont := Lib.hid hcont
  clear hS hw hs hcont
  conv => arg 2; whnf
  dsimp only
  go_upto_region 18 with fail
  refine wp_region_seq (fun f hf hs => ?_)
  simp only [List.append]
  have f0 := fun q => ((hf q).box Hs.out).1
  clear hf hs
  repeat (go_big_quiet_step (fail))
  refine wpQuiet_nil ?_
  intro W1 hW1
  clear f0
  have hK := HS.out.more hW1
  have HK := Lib.hid hK
  clear hK
  clear hW1 HS Hs Hw
  iterate 4 go_step
  first | exact Hcont.out _ HK.out | (go_step; exact Hcont.out _ HK.out)
set_option maxRecDepth 100000 in
set_option maxHeartbeats 16000000 in
theorem knownC5 {Q : Exit → Act → World → Prop} {w W2 wr : World} {pa pw pS : Nat} {x y dp y0 y1 rm s0 s1 ow ox oy dx dy t : Int} {Q1 Q2 fx fy tx ty R1 R2 R3 R4 R5 R6 M : Int}
    (hT : Turn dx dy t Q1 Q2 fx fy tx ty R1 R2 R3 R4 R5 R6 M)
    (hS : KSt w W2 pa x y wr) (hp : w.heap.size ≤ pa) (hw : wr.heap[pw]? = some (.cells #[.int .i64 x, .int .i64 y, .int .i64 dp, .int .i64 y0, .int .i64 y1, .int .i64 rm, .int .i64 s0, .int .i64 s1, .int .i64 ow] 62 (0, 0)))
    (hs : wr.heap[pS]? = some (.cells #[.int .u8 1, .int .i64 ox, .int .i64 oy, .int .i64 fx, .int .i64 fy, .int .i64 tx, .int .i64 ty, .int .i64 0, .int .i64 0, .int .i64 0] 68 (0, 0)))
    (hox : -10000000 ≤ ox ∧ ox ≤ 10000000) (hoy : -10000000 ≤ oy ∧ oy ≤ 10000000)
    (hdx : ox - x = dx) (hdy : oy - y = dy) (hd : -400 ≤ dx ∧ dx ≤ 400) (hd' : -400 ≤ dy ∧ dy ≤ 400) (ht : t = 1 ∨ t = 2)
    (hxb : -10000000 ≤ x ∧ x ≤ 10000000) (hyb : -10000000 ≤ y ∧ y ≤ 10000000)
    (h1 : ¬R1 ≤ R2) (h2 : ¬R3 < R4) (h3 : ¬R5 < R6) (h4 : ¬1000 < M)
    {u0 u1 u2 u3 u4 u5 u6 u7 u8 u9 u12 u13 u14 u15 u18 u20 u21 u22 u23 u24 u25 u26 u27 u28 u29 u30 u31 u32 u33 u34 u35 u36 u37 u38 u39 u40 u41 u42 u43 u44 u45 u46 u47 u48 u49 u50 u51 u52 u53 u54 u55 u56 u57 u58 u59 u60 u61 u62 u63 u64 u65 u66 u67 u68 u69 u70 u71 u72 u73 u74 u75 u76 u77 u78 u79 u80 u81 u82 u83 u84 u85 u86 u87 u88 u89 u90 u91 u92 u93 u94 u95 u96 u97 u98 u99 u100 u101 u102 u103 u104 u105 u106 u107 u108 u109 u110 u111 u112 u113 u114 u115 u116 u117 u118 u119 u120 u121 u122 u123 u124 u125 u126 u127 u128 u129 u130 u131 u132 u133 u134 u135 u136 u137 u138 u139 u140 u141 u142 u143 u144 u145 u146 u147 u148 u149 u150 u151 u152 u153 u154 u155 u156 u157 u158 u159 u160 u161 u162 u163 u164 u165 u166 u167 u168 u169 u170 u171 u172 u173 u174 u175 u176 u177 u178 u179 u180 u181 u182 u183 u184 u185 u186 u187 u188 u189 u190 u191 u192 u193 u194 u195 u196 u197 u198 u199 u200 u201 u202 u203 u204 u205 u206 u207 u208 u209 u210 u211 u212 u213 u214 u215 u216 u217 u218 u219 u220 u221 u222 u223 u224 u225 u226 u227 u228 u229 u230 u231 u232 u233 u234 u235 u236 u237 u238 u239 u240 u241 u242 u243 u244 u245 u246 u247 u248 u249 u250 u251 u252 u253 u254 u255 u256 u257 u258 u259 u260 u261 u262 u263 u264 u265 u266 u267 u268 u269 u270 u271 u272 u273 u274 u275 u276 u277 u278 u279 u280 u281 u282 u283 u284 u285 u286 u287 u288 u289 u290 u291 u292 u293 u294 u295 u296 u297 u298 u299 u300 u301 u302 u303 u304 u305 u306 u307 u308 u309 u310 u311 u312 u313 u314 u315 u316 u317 u318 u319 u320 u321 u322 u323 u324 u325 u326 u327 : Value}
    (hnext : ∀ W', KSt w W2 pa x y W' → ∀ {v20 v21 v156 v157 v158 v159 v160 v161 v162 v163 v164 v165 v166 v167 v168 v169 v170 v171 v172 v173 v174 v175 v176 v177 v178 v179 v180 v181 v182 v183 v184 v185 v186 v187 v188 v189 v190 v191 v192 v193 v194 v195 v196 v197 v198 v199 v200 v201 v202 v203 v204 v205 v206 v207 v208 v209 v210 v211 v212 v213 v214 v215 v216 v217 v218 v219 v220 v221 v222 v223 v224 v225 v226 v227 v228 v229 v230 v231 v232 v233 v234 v235 v236 v237 v238 v239 v240 v241 v242 v243 v244 v245 v246 v247 v248 v249 v250 v251 : Value},
      Q .normal ⟨#[u0, u1, u2, u3, u4, u5, u6, u7, u8, u9, .pointer (some ⟨pw, 0, none⟩), .pointer (some ⟨pa, 0, none⟩), u12, u13, u14, u15, .int .i64 dx, .int .i64 dy, u18, .pointer (some ⟨pS, 0, none⟩), v20, v21, u22, u23, u24, u25, u26, u27, u28, u29, u30, u31, u32, u33, u34, u35, u36, u37, u38, u39, u40, u41, u42, u43, u44, u45, u46, u47, u48, u49, u50, u51, u52, u53, u54, u55, u56, u57, u58, u59, u60, u61, u62, u63, u64, u65, u66, u67, u68, u69, u70, u71, u72, u73, u74, u75, u76, u77, u78, u79, u80, u81, u82, u83, u84, u85, u86, u87, u88, u89, u90, u91, u92, u93, u94, u95, u96, u97, u98, u99, u100, u101, u102, u103, u104, u105, u106, u107, u108, u109, u110, u111, u112, u113, u114, u115, u116, u117, u118, u119, u120, u121, u122, u123, u124, u125, u126, u127, u128, u129, u130, u131, u132, u133, u134, u135, u136, u137, u138, u139, u140, u141, u142, u143, u144, u145, u146, u147, u148, u149, u150, u151, u152, u153, u154, u155, v156, v157, v158, v159, v160, v161, v162, v163, v164, v165, v166, v167, v168, v169, v170, v171, v172, v173, v174, v175, v176, v177, v178, v179, v180, v181, v182, v183, v184, v185, v186, v187, v188, v189, v190, v191, v192, v193, v194, v195, v196, v197, v198, v199, v200, v201, v202, v203, v204, v205, v206, v207, v208, v209, v210, v211, v212, v213, v214, v215, v216, v217, v218, v219, v220, v221, v222, v223, v224, v225, v226, v227, v228, v229, v230, v231, v232, v233, v234, v235, v236, v237, v238, v239, v240, v241, v242, v243, v244, v245, v246, v247, v248, v249, v250, v251, u252, u253, u254, u255, u256, u257, u258, u259, u260, u261, u262, u263, u264, u265, u266, u267, u268, u269, u270, u271, u272, u273, u274, u275, u276, u277, u278, u279, u280, u281, u282, u283, u284, u285, u286, u287, u288, u289, u290, u291, u292, u293, u294, u295, u296, u297, u298, u299, u300, u301, u302, u303, u304, u305, u306, u307, u308, u309, u310, u311, u312, u313, u314, u315, u316, u317, u318, u319, u320, u321, u322, u323, u324, u325, u326, u327], []⟩ W')
    (hbrk : ∀ W', KSt w W2 pa x y W' → ∀ {v20 v21 v156 v157 v158 v159 v160 v161 v162 v163 v164 v165 v166 v167 v168 v169 v170 v171 v172 v173 v174 v175 v176 v177 v178 v179 v180 v181 v182 v183 v184 v185 v186 v187 v188 v189 v190 v191 v192 v193 v194 v195 v196 v197 v198 v199 v200 v201 v202 v203 v204 v205 v206 v207 v208 v209 v210 v211 v212 v213 v214 v215 v216 v217 v218 v219 v220 v221 v222 v223 v224 v225 v226 v227 v228 v229 v230 v231 v232 v233 v234 v235 v236 v237 v238 v239 v240 v241 v242 v243 v244 v245 v246 v247 v248 v249 v250 v251 : Value},
      Q (.exit 0) ⟨#[u0, u1, u2, u3, u4, u5, u6, u7, u8, u9, .pointer (some ⟨pw, 0, none⟩), .pointer (some ⟨pa, 0, none⟩), u12, u13, u14, u15, .int .i64 dx, .int .i64 dy, u18, .pointer (some ⟨pS, 0, none⟩), v20, v21, u22, u23, u24, u25, u26, u27, u28, u29, u30, u31, u32, u33, u34, u35, u36, u37, u38, u39, u40, u41, u42, u43, u44, u45, u46, u47, u48, u49, u50, u51, u52, u53, u54, u55, u56, u57, u58, u59, u60, u61, u62, u63, u64, u65, u66, u67, u68, u69, u70, u71, u72, u73, u74, u75, u76, u77, u78, u79, u80, u81, u82, u83, u84, u85, u86, u87, u88, u89, u90, u91, u92, u93, u94, u95, u96, u97, u98, u99, u100, u101, u102, u103, u104, u105, u106, u107, u108, u109, u110, u111, u112, u113, u114, u115, u116, u117, u118, u119, u120, u121, u122, u123, u124, u125, u126, u127, u128, u129, u130, u131, u132, u133, u134, u135, u136, u137, u138, u139, u140, u141, u142, u143, u144, u145, u146, u147, u148, u149, u150, u151, u152, u153, u154, u155, v156, v157, v158, v159, v160, v161, v162, v163, v164, v165, v166, v167, v168, v169, v170, v171, v172, v173, v174, v175, v176, v177, v178, v179, v180, v181, v182, v183, v184, v185, v186, v187, v188, v189, v190, v191, v192, v193, v194, v195, v196, v197, v198, v199, v200, v201, v202, v203, v204, v205, v206, v207, v208, v209, v210, v211, v212, v213, v214, v215, v216, v217, v218, v219, v220, v221, v222, v223, v224, v225, v226, v227, v228, v229, v230, v231, v232, v233, v234, v235, v236, v237, v238, v239, v240, v241, v242, v243, v244, v245, v246, v247, v248, v249, v250, v251, u252, u253, u254, u255, u256, u257, u258, u259, u260, u261, u262, u263, u264, u265, u266, u267, u268, u269, u270, u271, u272, u273, u274, u275, u276, u277, u278, u279, u280, u281, u282, u283, u284, u285, u286, u287, u288, u289, u290, u291, u292, u293, u294, u295, u296, u297, u298, u299, u300, u301, u302, u303, u304, u305, u306, u307, u308, u309, u310, u311, u312, u313, u314, u315, u316, u317, u318, u319, u320, u321, u322, u323, u324, u325, u326, u327], []⟩ W')
    :
    (restFrom Tryz.f4 18).wp Tryz.prog Q
      ⟨#[u0, u1, u2, u3, u4, u5, u6, u7, u8, u9, .pointer (some ⟨pw, 0, none⟩), .pointer (some ⟨pa, 0, none⟩), u12, u13, u14, u15, .int .i64 dx, .int .i64 dy, u18, .pointer (some ⟨pS, 0, none⟩), u20, u21, u22, u23, u24, u25, u26, u27, u28, u29, u30, u31, u32, u33, u34, u35, u36, u37, u38, u39, u40, u41, u42, u43, u44, u45, u46, u47, u48, u49, u50, u51, u52, u53, u54, u55, u56, u57, u58, u59, u60, u61, u62, u63, u64, u65, u66, u67, u68, u69, u70, u71, u72, u73, u74, u75, u76, u77, u78, u79, u80, u81, u82, u83, u84, u85, u86, u87, u88, u89, u90, u91, u92, u93, u94, u95, u96, u97, u98, u99, u100, u101, u102, u103, u104, u105, u106, u107, u108, u109, u110, u111, u112, u113, u114, u115, u116, u117, u118, u119, u120, u121, u122, u123, u124, u125, u126, u127, u128, u129, u130, u131, u132, u133, u134, u135, u136, u137, u138, u139, u140, u141, u142, u143, u144, u145, u146, u147, u148, u149, u150, u151, u152, u153, u154, u155, u156, u157, u158, u159, u160, u161, u162, u163, u164, u165, u166, u167, u168, u169, u170, u171, u172, u173, u174, u175, u176, u177, u178, u179, u180, u181, u182, u183, u184, u185, u186, u187, u188, u189, u190, u191, u192, u193, u194, u195, u196, u197, u198, u199, u200, u201, u202, u203, u204, u205, u206, u207, u208, u209, u210, u211, u212, u213, u214, u215, u216, u217, u218, u219, u220, u221, u222, u223, u224, u225, u226, u227, u228, u229, u230, u231, u232, u233, u234, u235, u236, u237, u238, u239, u240, u241, u242, u243, u244, u245, u246, u247, u248, u249, u250, u251, u252, u253, u254, u255, u256, u257, u258, u259, u260, u261, u262, u263, u264, u265, u266, u267, u268, u269, u270, u271, u272, u273, u274, u275, u276, u277, u278, u279, u280, u281, u282, u283, u284, u285, u286, u287, u288, u289, u290, u291, u292, u293, u294, u295, u296, u297, u298, u299, u300, u301, u302, u303, u304, u305, u306, u307, u308, u309, u310, u311, u312, u313, u314, u315, u316, u317, u318, u319, u320, u321, u322, u323, u324, u325, u326, u327], []⟩ wr := by
  dsimp only at hnext hbrk
  have hlook := hT.look hox hoy hdx hdy h1 h2 h3 h4
  have hB := hT.bd hd hd' ht
  have hm1 := hB.m1
  have hm2 := hB.m2
  have hm3 := hB.m3
  have hm4 := hB.m4
  have hm5 := hB.m5
  have hm6 := hB.m6
  have hbfx := hB.bfx
  have hbfy := hB.bfy
  have hbtx := hB.btx
  have hbty := hB.bty
  have hmx := hB.hmx
  have e7 := hT.r1
  have e8 := hT.r2
  have e9 := hT.r3
  have e10 := hT.r4
  have e11 := hT.r5
  have e12 := hT.r6
  clear hB hT hox hoy hdx hdy ht
  obtain ⟨c1, c1'⟩ := leq_f h1
  obtain ⟨c2, c2'⟩ := lss_f h2
  obtain ⟨c3, c3'⟩ := lss_f h3
  have c4 := decide_eq_false h4
  clear h1 h2 h3 h4
  have HS := Lib.hid hS
  have Hw := Lib.hid hw
  have Hs := Lib.hid hs
  have Hnext := Lib.hid hnext
  have Hbrk := Lib.hid hbrk
  have Hlook := Lib.hid hlook
  clear hS hw hs hnext hbrk hlook
  conv => arg 2; whnf
  dsimp only
  go_upto_region 18 with fail
  refine wp_region_seq (fun f hf hs => ?_)
  simp only [List.append]
  have f0 := fun q => ((hf q).box Hs.out).1
  clear hf hs
  repeat (go_big_quiet_step (fail))
  refine wpQuiet_nil ?_
  intro W1 hW1
  clear f0
  have hK := HS.out.more hW1
  have hw1 := hW1.heap Hw.out
  have hs1 := hW1.heap Hs.out
  have HK := Lib.hid hK
  have Hw1 := Lib.hid hw1
  have Hs1 := Lib.hid hs1
  clear hK hw1 hs1
  clear hW1 HS Hs Hw
  iterate 5 go_step
  first | exact knownLook HK.out hp Hw1.out Hs1.out Hlook.out.1 Hlook.out.2 hxb hyb (fun W' hW' => Hnext.out W' hW') (fun W' hW' => Hbrk.out W' hW') | (go_step; exact knownLook HK.out hp Hw1.out Hs1.out Hlook.out.1 Hlook.out.2 hxb hyb (fun W' hW' => Hnext.out W' hW') (fun W' hW' => Hbrk.out W' hW'))
end Go.Proofs.YtcoelhpmkhimpaaGreat
