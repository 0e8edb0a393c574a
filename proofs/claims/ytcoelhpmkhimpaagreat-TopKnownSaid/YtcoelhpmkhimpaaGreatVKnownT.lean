/- TopKnown: the looks (the loop), from region 10 on. -/
import Derived.Test.YtcoelhpmkhimpaaGreatVGv
namespace Go.Proofs.YtcoelhpmkhimpaaGreat
open Go.RowKit
set_option linter.unusedVariables false
set_option linter.unusedSimpArgs false
set_option maxRecDepth 100000 in
set_option maxHeartbeats 16000000 in
theorem knownTail {w W2 : World} {a wa la oa ba : Option Addr} {n c wn wc ln lc on oc bn bc pw pa : Nat} {l : List Half} {ws : List Well} {os bl : List Int} {x y dp y0 y1 rm s0 s1 ow : Int}
    (hx : Ext w W2) (hld : W2.heap[w.heap.size]? = some (.cells #[.slice wa wn wc, .slice la ln lc] 57 (0, 0))) (hwl : ∀ W, Ext w W → WellsAt W wa wn ws) (hwn : 1 ≤ wn ∧ wn ≤ 12) (hwc : wn ≤ wc) (hwm : wc ≤ maxLen) (hwk : ws.all wellOk = true)
    (ha : W2.heap[pa]? = some (.cells #[.slice a n c] 24 (0, 0))) (hw : W2.heap[pw]? = some (.cells #[.int .i64 x, .int .i64 y, .int .i64 dp, .int .i64 y0, .int .i64 y1, .int .i64 rm, .int .i64 s0, .int .i64 s1, .int .i64 ow] 62 (0, 0)))
    (hne : w.heap.size < pw ∧ pw < pa) (hf : ∀ b, a = some b → b.block ≠ pa)
    (hl : HalvesAt W2 a n l) (hc : n ≤ c) (hm : c ≤ maxLen) (har : AreaOk l) (hin : In l (pt x y)) (hxb : -10000000 ≤ x ∧ x ≤ 10000000) (hyb : -10000000 ≤ y ∧ y ≤ 10000000)
    (hoa : ∀ W, Ext w W → IntsAt .u8 W oa on os) (hom : on ≤ maxLen) (hor : ∀ z ∈ os, 0 ≤ z ∧ z ≤ 255)
    (hby : ∀ W, Ext w W → IntsAt .u32 W ba bn bl) (hbm : bn ≤ maxLen) (hbr : ∀ z ∈ bl, 0 ≤ z ∧ z ≤ 4294967295)
    {u0 u1 u5 u6 u7 u8 u12 u13 u14 u15 u16 u17 u18 u19 u20 u21 u22 u23 u24 u25 u26 u27 u28 u29 u30 u31 u32 u33 u34 u35 u36 u37 u38 u39 u40 u41 u42 u43 u44 u45 u46 u47 u48 u49 u50 u51 u52 u53 u54 u55 u56 u57 u58 u59 u60 u61 u62 u63 u64 u65 u66 u67 u68 u69 u70 u71 u72 u73 u74 u75 u76 u77 u78 u79 u80 u81 u82 u83 u84 u85 u86 u87 u88 u89 u90 u91 u92 u93 u94 u95 u96 u97 u98 u99 u100 u101 u102 u103 u104 u105 u106 u107 u108 u109 u110 u111 u112 u113 u114 u115 u116 u117 u118 u119 u120 u121 u122 u123 u124 u125 u126 u127 u128 u129 u130 u131 u132 u133 u134 u135 u136 u137 u138 u139 u140 u141 u142 u143 u144 u145 u146 u147 u148 u149 u150 u151 u152 u153 u154 u155 u156 u157 u158 u159 u160 u161 u162 u163 u164 u165 u166 u167 u168 u169 u170 u171 u172 u173 u174 u175 u176 u177 u178 u179 u180 u181 u182 u183 u184 u185 u186 u187 u188 u189 u190 u191 u192 u193 u194 u195 u196 u197 u198 u199 u200 u201 u202 u203 u204 u205 u206 u207 u208 u209 u210 u211 u212 u213 u214 u215 u216 u217 u218 u219 u220 u221 u222 u223 u224 u225 u226 u227 u228 u229 u230 u231 u232 u233 u234 u235 u236 u237 u238 u239 u240 u241 u242 u243 u244 u245 u246 u247 u248 u249 u250 u251 u252 u253 u254 u255 u256 u257 u258 u259 u260 u261 u262 u263 u264 u265 u266 u267 u268 u269 u270 u271 u272 u273 u274 u275 u276 u277 u278 u279 u280 u281 u282 u283 u284 u285 u286 u287 u288 u289 u290 u291 u292 u293 u294 u295 u296 u297 u298 u299 u300 u301 u302 u303 u304 u305 u306 u307 u308 u309 u310 u311 u312 u313 u314 u315 u316 u317 u318 u319 u320 u321 u322 u323 u324 u325 u326 u327 : Value} :
    (restFrom Tryz.f4 10).wp Tryz.prog (bodyPost Tryz.prog Tryz.f4 fun e w' => e = .returned (.bool true) ∧ Ext w w')
      ⟨#[u0, u1, .slice oa on oc, .slice ba bn bc, .pointer (some ⟨w.heap.size, 0, none⟩), u5, u6, u7, u8, .bool true, .pointer (some ⟨pw, 0, none⟩), .pointer (some ⟨pa, 0, none⟩), u12, u13, u14, u15, u16, u17, u18, u19, u20, u21, u22, u23, u24, u25, u26, u27, u28, u29, u30, u31, u32, u33, u34, u35, u36, u37, u38, u39, u40, u41, u42, u43, u44, u45, u46, u47, u48, u49, u50, u51, u52, u53, u54, u55, u56, u57, u58, u59, u60, u61, u62, u63, u64, u65, u66, u67, u68, u69, u70, u71, u72, u73, u74, u75, u76, u77, u78, u79, u80, u81, u82, u83, u84, u85, u86, u87, u88, u89, u90, u91, u92, u93, u94, u95, u96, u97, u98, u99, u100, u101, u102, u103, u104, u105, u106, u107, u108, u109, u110, u111, u112, u113, u114, u115, u116, u117, u118, u119, u120, u121, u122, u123, u124, u125, u126, u127, u128, u129, u130, u131, u132, u133, u134, u135, u136, u137, u138, u139, u140, u141, u142, u143, u144, u145, u146, u147, u148, u149, u150, u151, u152, u153, u154, u155, u156, u157, u158, u159, u160, u161, u162, u163, u164, u165, u166, u167, u168, u169, u170, u171, u172, u173, u174, u175, u176, u177, u178, u179, u180, u181, u182, u183, u184, u185, u186, u187, u188, u189, u190, u191, u192, u193, u194, u195, u196, u197, u198, u199, u200, u201, u202, u203, u204, u205, u206, u207, u208, u209, u210, u211, u212, u213, u214, u215, u216, u217, u218, u219, u220, u221, u222, u223, u224, u225, u226, u227, u228, u229, u230, u231, u232, u233, u234, u235, u236, u237, u238, u239, u240, u241, u242, u243, u244, u245, u246, u247, u248, u249, u250, u251, u252, u253, u254, u255, u256, u257, u258, u259, u260, u261, u262, u263, u264, u265, u266, u267, u268, u269, u270, u271, u272, u273, u274, u275, u276, u277, u278, u279, u280, u281, u282, u283, u284, u285, u286, u287, u288, u289, u290, u291, u292, u293, u294, u295, u296, u297, u298, u299, u300, u301, u302, u303, u304, u305, u306, u307, u308, u309, u310, u311, u312, u313, u314, u315, u316, u317, u318, u319, u320, u321, u322, u323, u324, u325, u326, u327], []⟩ W2 := by
  have hst : KSt w W2 pa x y W2 := ⟨hx, But.refl _ _, a, n, c, l, ha, hl, hc, hm, har, hin, hf⟩
  unfold maxLen at hom
  clear ha hl har hin hf hc hm
  have Hx := Lib.hid hx
  have Hld := Lib.hid hld
  have Hwl := Lib.hid hwl
  have Hwk := Lib.hid hwk
  have Hw := Lib.hid hw
  have Hoa := Lib.hid hoa
  have Hor := Lib.hid hor
  have Hby := Lib.hid hby
  have Hbr := Lib.hid hbr
  have Hst := Lib.hid hst
  clear hx hld hwl hwk hw hoa hor hby hbr hst
  conv => arg 2; whnf
  dsimp only
  go_upto_region 11 with fail
  go_loopw [74] (fun i wr => ∃ k : Nat, i = .int .i64 k ∧ k ≤ on ∧ KSt w W2 pa x y wr) (fun i _ => on - (intOf i).toNat)
  case atStart => exact ⟨0, rfl, Nat.zero_le _, Hst.out⟩
  case round =>
    obtain ⟨k, rfl, hk, hS⟩ := hrel
    by_cases hlt : k < on
    · have hltB : decide ((k : Int) < (on : Int)) = true := by simp; omega
      obtain ⟨ob, oo, z, rfl, hzk, c0⟩ := (Hoa.out wr hS.ext).get k hlt
      have hzr := Hor.out z (List.mem_of_getElem? hzk)
      have hld' := hS.but.block _ _ Hld.out (by omega)
      have hw' := hS.but.block _ _ Hw.out (by omega)
      have hwl' := Hwl.out wr hS.ext
      have hby' := Hby.out wr hS.ext
      have HS := Lib.hid hS
      have Hld' := Lib.hid hld'
      have Hw' := Lib.hid hw'
      have Hwl' := Lib.hid hwl'
      have Hby' := Lib.hid hby'
      have Hzr := Lib.hid hzr
      have Hzk := Lib.hid hzk
      clear hS hld' hw' hwl' hby' hzr hzk
      go_upto_region 12 with fail
      rename_i K hk
      have HK := Lib.hid hk
      clear hk
      go_wp2_with fail
      refine HK.out _ _ ?_
      clear HK
      refine knownOther HS.out (by omega) Hld'.out Hw'.out Hwl'.out hwn Hwk.out Hzr.out (by omega) Hby'.out hbm Hbr.out hxb hyb ?hnext ?hcont ?hbrk
      case hnext =>
        intro W' hW'
        intros
        have HW' := Lib.hid hW'
        clear hW'
        go_wp2_with fail
        go_roundw
        case rel => exact ⟨k + 1, by go_num, by omega, HW'.out⟩
        case measure => simp [intOf]; omega
      case hcont =>
        intro W' hW'
        intros
        have HW' := Lib.hid hW'
        clear hW'
        go_wp2_with fail
        go_roundw
        case rel => exact ⟨k + 1, by go_num, by omega, HW'.out⟩
        case measure => simp [intOf]; omega
      case hbrk =>
        intro W' hW'
        intros
        obtain ⟨a', n', c', l', ha', hl', hc', hm', har', hin', hf'⟩ := hW'.area
        have hxr := hW'.ext
        have hw' := hW'.but.block _ _ Hw.out (by omega)
        have Hxr := Lib.hid hxr
        have Hw' := Lib.hid hw'
        have Ha' := Lib.hid ha'
        have Hl' := Lib.hid hl'
        have Har' := Lib.hid har'
        have Hin' := Lib.hid hin'
        clear hxr hw' ha' hl' har' hin'
        clear hW'
        iterate 4 go_step
        exact knownEnd Hxr.out Ha'.out Hw'.out Hl'.out hc' hm' Har'.out Hin'.out hxb hyb
    · have hltB : decide ((k : Int) < (on : Int)) = false := by simp; omega
      obtain ⟨a', n', c', l', ha', hl', hc', hm', har', hin', hf'⟩ := hS.area
      have hxr := hS.ext
      have hw' := hS.but.block _ _ Hw.out (by omega)
      have Hxr := Lib.hid hxr
      have Hw' := Lib.hid hw'
      have Ha' := Lib.hid ha'
      have Hl' := Lib.hid hl'
      have Har' := Lib.hid har'
      have Hin' := Lib.hid hin'
      clear hxr hw' ha' hl' har' hin'
      clear hS
      go_upto_if 75 with fail
      iterate 6 go_step
      exact knownEnd Hxr.out Ha'.out Hw'.out Hl'.out hc' hm' Har'.out Hin'.out hxb hyb
end Go.Proofs.YtcoelhpmkhimpaaGreat
