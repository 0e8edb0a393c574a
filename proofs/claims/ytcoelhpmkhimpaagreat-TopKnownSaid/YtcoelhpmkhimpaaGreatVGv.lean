/- TopKnown: one look: the sight (region 17 of a round), and what comes of it. -/
import Derived.Test.YtcoelhpmkhimpaaGreatVGu
namespace Go.Proofs.YtcoelhpmkhimpaaGreat
open Go.RowKit
set_option linter.unusedVariables false
set_option linter.unusedSimpArgs false
set_option maxRecDepth 100000 in
set_option maxHeartbeats 16000000 in
theorem knownTurn {Q : Exit → Act → World → Prop} {w W2 wr : World} {pa pw pO : Nat} {x y dp y0 y1 rm s0 s1 ow ox oy odp oy0 oy1 orm os0 os1 oow dx dy t : Int}
    (hS : KSt w W2 pa x y wr) (hp : w.heap.size ≤ pa) (hw : wr.heap[pw]? = some (.cells #[.int .i64 x, .int .i64 y, .int .i64 dp, .int .i64 y0, .int .i64 y1, .int .i64 rm, .int .i64 s0, .int .i64 s1, .int .i64 ow] 62 (0, 0)))
    (ho : wr.heap[pO]? = some (.cells #[.int .i64 ox, .int .i64 oy, .int .i64 odp, .int .i64 oy0, .int .i64 oy1, .int .i64 orm, .int .i64 os0, .int .i64 os1, .int .i64 oow] 62 (0, 0)))
    (hox : -10000000 ≤ ox ∧ ox ≤ 10000000) (hoy : -10000000 ≤ oy ∧ oy ≤ 10000000)
    (hdx : ox - x = dx) (hdy : oy - y = dy) (hd : -400 ≤ dx ∧ dx ≤ 400) (hd' : -400 ≤ dy ∧ dy ≤ 400) (ht : t = 1 ∨ t = 2)
    (hxb : -10000000 ≤ x ∧ x ≤ 10000000) (hyb : -10000000 ≤ y ∧ y ≤ 10000000)
    {u0 u1 u2 u3 u4 u5 u6 u7 u8 u9 u12 u13 u14 u19 u20 u21 u22 u23 u24 u25 u26 u27 u28 u29 u30 u31 u32 u33 u34 u35 u36 u37 u38 u39 u40 u41 u42 u43 u44 u45 u46 u47 u48 u49 u50 u51 u52 u53 u54 u55 u56 u57 u58 u59 u60 u61 u62 u63 u64 u65 u66 u67 u68 u69 u70 u71 u72 u73 u74 u75 u76 u77 u78 u79 u80 u81 u82 u83 u84 u85 u86 u87 u88 u89 u90 u91 u92 u93 u94 u95 u96 u97 u98 u99 u100 u101 u102 u103 u104 u105 u106 u107 u108 u109 u110 u111 u112 u113 u114 u115 u116 u117 u118 u119 u120 u121 u122 u123 u124 u125 u126 u127 u128 u129 u130 u131 u132 u133 u134 u135 u136 u137 u138 u139 u140 u141 u142 u143 u144 u145 u146 u147 u148 u149 u150 u151 u152 u153 u154 u155 u156 u157 u158 u159 u160 u161 u162 u163 u164 u165 u166 u167 u168 u169 u170 u171 u172 u173 u174 u175 u176 u177 u178 u179 u180 u181 u182 u183 u184 u185 u186 u187 u188 u189 u190 u191 u192 u193 u194 u195 u196 u197 u198 u199 u200 u201 u202 u203 u204 u205 u206 u207 u208 u209 u210 u211 u212 u213 u214 u215 u216 u217 u218 u219 u220 u221 u222 u223 u224 u225 u226 u227 u228 u229 u230 u231 u232 u233 u234 u235 u236 u237 u238 u239 u240 u241 u242 u243 u244 u245 u246 u247 u248 u249 u250 u251 u252 u253 u254 u255 u256 u257 u258 u259 u260 u261 u262 u263 u264 u265 u266 u267 u268 u269 u270 u271 u272 u273 u274 u275 u276 u277 u278 u279 u280 u281 u282 u283 u284 u285 u286 u287 u288 u289 u290 u291 u292 u293 u294 u295 u296 u297 u298 u299 u300 u301 u302 u303 u304 u305 u306 u307 u308 u309 u310 u311 u312 u313 u314 u315 u316 u317 u318 u319 u320 u321 u322 u323 u324 u325 u326 u327 : Value}
    (hnext : ∀ W', KSt w W2 pa x y W' → ∀ {v19 v20 v21 v121 v122 v123 v124 v125 v126 v127 v128 v129 v130 v131 v132 v133 v134 v135 v136 v137 v138 v139 v140 v141 v142 v143 v144 v145 v146 v147 v148 v149 v150 v151 v152 v153 v154 v155 v156 v157 v158 v159 v160 v161 v162 v163 v164 v165 v166 v167 v168 v169 v170 v171 v172 v173 v174 v175 v176 v177 v178 v179 v180 v181 v182 v183 v184 v185 v186 v187 v188 v189 v190 v191 v192 v193 v194 v195 v196 v197 v198 v199 v200 v201 v202 v203 v204 v205 v206 v207 v208 v209 v210 v211 v212 v213 v214 v215 v216 v217 v218 v219 v220 v221 v222 v223 v224 v225 v226 v227 v228 v229 v230 v231 v232 v233 v234 v235 v236 v237 v238 v239 v240 v241 v242 v243 v244 v245 v246 v247 v248 v249 v250 v251 : Value},
      Q .normal ⟨#[u0, u1, u2, u3, u4, u5, u6, u7, u8, u9, .pointer (some ⟨pw, 0, none⟩), .pointer (some ⟨pa, 0, none⟩), u12, u13, u14, .pointer (some ⟨pO, 0, none⟩), .int .i64 dx, .int .i64 dy, .int .i64 t, v19, v20, v21, u22, u23, u24, u25, u26, u27, u28, u29, u30, u31, u32, u33, u34, u35, u36, u37, u38, u39, u40, u41, u42, u43, u44, u45, u46, u47, u48, u49, u50, u51, u52, u53, u54, u55, u56, u57, u58, u59, u60, u61, u62, u63, u64, u65, u66, u67, u68, u69, u70, u71, u72, u73, u74, u75, u76, u77, u78, u79, u80, u81, u82, u83, u84, u85, u86, u87, u88, u89, u90, u91, u92, u93, u94, u95, u96, u97, u98, u99, u100, u101, u102, u103, u104, u105, u106, u107, u108, u109, u110, u111, u112, u113, u114, u115, u116, u117, u118, u119, u120, v121, v122, v123, v124, v125, v126, v127, v128, v129, v130, v131, v132, v133, v134, v135, v136, v137, v138, v139, v140, v141, v142, v143, v144, v145, v146, v147, v148, v149, v150, v151, v152, v153, v154, v155, v156, v157, v158, v159, v160, v161, v162, v163, v164, v165, v166, v167, v168, v169, v170, v171, v172, v173, v174, v175, v176, v177, v178, v179, v180, v181, v182, v183, v184, v185, v186, v187, v188, v189, v190, v191, v192, v193, v194, v195, v196, v197, v198, v199, v200, v201, v202, v203, v204, v205, v206, v207, v208, v209, v210, v211, v212, v213, v214, v215, v216, v217, v218, v219, v220, v221, v222, v223, v224, v225, v226, v227, v228, v229, v230, v231, v232, v233, v234, v235, v236, v237, v238, v239, v240, v241, v242, v243, v244, v245, v246, v247, v248, v249, v250, v251, u252, u253, u254, u255, u256, u257, u258, u259, u260, u261, u262, u263, u264, u265, u266, u267, u268, u269, u270, u271, u272, u273, u274, u275, u276, u277, u278, u279, u280, u281, u282, u283, u284, u285, u286, u287, u288, u289, u290, u291, u292, u293, u294, u295, u296, u297, u298, u299, u300, u301, u302, u303, u304, u305, u306, u307, u308, u309, u310, u311, u312, u313, u314, u315, u316, u317, u318, u319, u320, u321, u322, u323, u324, u325, u326, u327], []⟩ W')
    (hcont : ∀ W', KSt w W2 pa x y W' → ∀ {v19 v20 v21 v121 v122 v123 v124 v125 v126 v127 v128 v129 v130 v131 v132 v133 v134 v135 v136 v137 v138 v139 v140 v141 v142 v143 v144 v145 v146 v147 v148 v149 v150 v151 v152 v153 v154 v155 v156 v157 v158 v159 v160 v161 v162 v163 v164 v165 v166 v167 v168 v169 v170 v171 v172 v173 v174 v175 v176 v177 v178 v179 v180 v181 v182 v183 v184 v185 v186 v187 v188 v189 v190 v191 v192 v193 v194 v195 v196 v197 v198 v199 v200 v201 v202 v203 v204 v205 v206 v207 v208 v209 v210 v211 v212 v213 v214 v215 v216 v217 v218 v219 v220 v221 v222 v223 v224 v225 v226 v227 v228 v229 v230 v231 v232 v233 v234 v235 v236 v237 v238 v239 v240 v241 v242 v243 v244 v245 v246 v247 v248 v249 v250 v251 : Value},
      Q (.exit 1) ⟨#[u0, u1, u2, u3, u4, u5, u6, u7, u8, u9, .pointer (some ⟨pw, 0, none⟩), .pointer (some ⟨pa, 0, none⟩), u12, u13, u14, .pointer (some ⟨pO, 0, none⟩), .int .i64 dx, .int .i64 dy, .int .i64 t, v19, v20, v21, u22, u23, u24, u25, u26, u27, u28, u29, u30, u31, u32, u33, u34, u35, u36, u37, u38, u39, u40, u41, u42, u43, u44, u45, u46, u47, u48, u49, u50, u51, u52, u53, u54, u55, u56, u57, u58, u59, u60, u61, u62, u63, u64, u65, u66, u67, u68, u69, u70, u71, u72, u73, u74, u75, u76, u77, u78, u79, u80, u81, u82, u83, u84, u85, u86, u87, u88, u89, u90, u91, u92, u93, u94, u95, u96, u97, u98, u99, u100, u101, u102, u103, u104, u105, u106, u107, u108, u109, u110, u111, u112, u113, u114, u115, u116, u117, u118, u119, u120, v121, v122, v123, v124, v125, v126, v127, v128, v129, v130, v131, v132, v133, v134, v135, v136, v137, v138, v139, v140, v141, v142, v143, v144, v145, v146, v147, v148, v149, v150, v151, v152, v153, v154, v155, v156, v157, v158, v159, v160, v161, v162, v163, v164, v165, v166, v167, v168, v169, v170, v171, v172, v173, v174, v175, v176, v177, v178, v179, v180, v181, v182, v183, v184, v185, v186, v187, v188, v189, v190, v191, v192, v193, v194, v195, v196, v197, v198, v199, v200, v201, v202, v203, v204, v205, v206, v207, v208, v209, v210, v211, v212, v213, v214, v215, v216, v217, v218, v219, v220, v221, v222, v223, v224, v225, v226, v227, v228, v229, v230, v231, v232, v233, v234, v235, v236, v237, v238, v239, v240, v241, v242, v243, v244, v245, v246, v247, v248, v249, v250, v251, u252, u253, u254, u255, u256, u257, u258, u259, u260, u261, u262, u263, u264, u265, u266, u267, u268, u269, u270, u271, u272, u273, u274, u275, u276, u277, u278, u279, u280, u281, u282, u283, u284, u285, u286, u287, u288, u289, u290, u291, u292, u293, u294, u295, u296, u297, u298, u299, u300, u301, u302, u303, u304, u305, u306, u307, u308, u309, u310, u311, u312, u313, u314, u315, u316, u317, u318, u319, u320, u321, u322, u323, u324, u325, u326, u327], []⟩ W')
    (hbrk : ∀ W', KSt w W2 pa x y W' → ∀ {v19 v20 v21 v121 v122 v123 v124 v125 v126 v127 v128 v129 v130 v131 v132 v133 v134 v135 v136 v137 v138 v139 v140 v141 v142 v143 v144 v145 v146 v147 v148 v149 v150 v151 v152 v153 v154 v155 v156 v157 v158 v159 v160 v161 v162 v163 v164 v165 v166 v167 v168 v169 v170 v171 v172 v173 v174 v175 v176 v177 v178 v179 v180 v181 v182 v183 v184 v185 v186 v187 v188 v189 v190 v191 v192 v193 v194 v195 v196 v197 v198 v199 v200 v201 v202 v203 v204 v205 v206 v207 v208 v209 v210 v211 v212 v213 v214 v215 v216 v217 v218 v219 v220 v221 v222 v223 v224 v225 v226 v227 v228 v229 v230 v231 v232 v233 v234 v235 v236 v237 v238 v239 v240 v241 v242 v243 v244 v245 v246 v247 v248 v249 v250 v251 : Value},
      Q (.exit 0) ⟨#[u0, u1, u2, u3, u4, u5, u6, u7, u8, u9, .pointer (some ⟨pw, 0, none⟩), .pointer (some ⟨pa, 0, none⟩), u12, u13, u14, .pointer (some ⟨pO, 0, none⟩), .int .i64 dx, .int .i64 dy, .int .i64 t, v19, v20, v21, u22, u23, u24, u25, u26, u27, u28, u29, u30, u31, u32, u33, u34, u35, u36, u37, u38, u39, u40, u41, u42, u43, u44, u45, u46, u47, u48, u49, u50, u51, u52, u53, u54, u55, u56, u57, u58, u59, u60, u61, u62, u63, u64, u65, u66, u67, u68, u69, u70, u71, u72, u73, u74, u75, u76, u77, u78, u79, u80, u81, u82, u83, u84, u85, u86, u87, u88, u89, u90, u91, u92, u93, u94, u95, u96, u97, u98, u99, u100, u101, u102, u103, u104, u105, u106, u107, u108, u109, u110, u111, u112, u113, u114, u115, u116, u117, u118, u119, u120, v121, v122, v123, v124, v125, v126, v127, v128, v129, v130, v131, v132, v133, v134, v135, v136, v137, v138, v139, v140, v141, v142, v143, v144, v145, v146, v147, v148, v149, v150, v151, v152, v153, v154, v155, v156, v157, v158, v159, v160, v161, v162, v163, v164, v165, v166, v167, v168, v169, v170, v171, v172, v173, v174, v175, v176, v177, v178, v179, v180, v181, v182, v183, v184, v185, v186, v187, v188, v189, v190, v191, v192, v193, v194, v195, v196, v197, v198, v199, v200, v201, v202, v203, v204, v205, v206, v207, v208, v209, v210, v211, v212, v213, v214, v215, v216, v217, v218, v219, v220, v221, v222, v223, v224, v225, v226, v227, v228, v229, v230, v231, v232, v233, v234, v235, v236, v237, v238, v239, v240, v241, v242, v243, v244, v245, v246, v247, v248, v249, v250, v251, u252, u253, u254, u255, u256, u257, u258, u259, u260, u261, u262, u263, u264, u265, u266, u267, u268, u269, u270, u271, u272, u273, u274, u275, u276, u277, u278, u279, u280, u281, u282, u283, u284, u285, u286, u287, u288, u289, u290, u291, u292, u293, u294, u295, u296, u297, u298, u299, u300, u301, u302, u303, u304, u305, u306, u307, u308, u309, u310, u311, u312, u313, u314, u315, u316, u317, u318, u319, u320, u321, u322, u323, u324, u325, u326, u327], []⟩ W')
    :
    (restFrom Tryz.f4 17).wp Tryz.prog Q
      ⟨#[u0, u1, u2, u3, u4, u5, u6, u7, u8, u9, .pointer (some ⟨pw, 0, none⟩), .pointer (some ⟨pa, 0, none⟩), u12, u13, u14, .pointer (some ⟨pO, 0, none⟩), .int .i64 dx, .int .i64 dy, .int .i64 t, u19, u20, u21, u22, u23, u24, u25, u26, u27, u28, u29, u30, u31, u32, u33, u34, u35, u36, u37, u38, u39, u40, u41, u42, u43, u44, u45, u46, u47, u48, u49, u50, u51, u52, u53, u54, u55, u56, u57, u58, u59, u60, u61, u62, u63, u64, u65, u66, u67, u68, u69, u70, u71, u72, u73, u74, u75, u76, u77, u78, u79, u80, u81, u82, u83, u84, u85, u86, u87, u88, u89, u90, u91, u92, u93, u94, u95, u96, u97, u98, u99, u100, u101, u102, u103, u104, u105, u106, u107, u108, u109, u110, u111, u112, u113, u114, u115, u116, u117, u118, u119, u120, u121, u122, u123, u124, u125, u126, u127, u128, u129, u130, u131, u132, u133, u134, u135, u136, u137, u138, u139, u140, u141, u142, u143, u144, u145, u146, u147, u148, u149, u150, u151, u152, u153, u154, u155, u156, u157, u158, u159, u160, u161, u162, u163, u164, u165, u166, u167, u168, u169, u170, u171, u172, u173, u174, u175, u176, u177, u178, u179, u180, u181, u182, u183, u184, u185, u186, u187, u188, u189, u190, u191, u192, u193, u194, u195, u196, u197, u198, u199, u200, u201, u202, u203, u204, u205, u206, u207, u208, u209, u210, u211, u212, u213, u214, u215, u216, u217, u218, u219, u220, u221, u222, u223, u224, u225, u226, u227, u228, u229, u230, u231, u232, u233, u234, u235, u236, u237, u238, u239, u240, u241, u242, u243, u244, u245, u246, u247, u248, u249, u250, u251, u252, u253, u254, u255, u256, u257, u258, u259, u260, u261, u262, u263, u264, u265, u266, u267, u268, u269, u270, u271, u272, u273, u274, u275, u276, u277, u278, u279, u280, u281, u282, u283, u284, u285, u286, u287, u288, u289, u290, u291, u292, u293, u294, u295, u296, u297, u298, u299, u300, u301, u302, u303, u304, u305, u306, u307, u308, u309, u310, u311, u312, u313, u314, u315, u316, u317, u318, u319, u320, u321, u322, u323, u324, u325, u326, u327], []⟩ wr := by
  dsimp only at hnext hcont hbrk
  obtain ⟨Q1, Q2, fx, fy, tx, ty, R1, R2, R3, R4, R5, R6, M, hT⟩ := turn_some dx dy t
  have hB := hT.bd hd hd' ht
  obtain ⟨P1, hP1⟩ : ∃ P, dy * t = P := ⟨_, rfl⟩
  obtain ⟨P2, hP2⟩ : ∃ P, dx * t = P := ⟨_, rfl⟩
  have hp1 := hB.p1
  have hp2 := hB.p2
  have hq1 := hB.q1
  have hq2 := hB.q2
  have e1 := hT.q1
  have e2 := hT.q2
  have e3 := hT.efx
  have e4 := hT.efy
  have e5 := hT.etx
  have e6 := hT.ety
  rw [hP1] at e1 hp1
  rw [hP2] at e2 hp2
  obtain ⟨z0, _⟩ := (Ext.refl wr).box ho
  have hc := fun W (hW : Ext wr W) => hS.more hW
  have hw' := fun W (hW : Ext wr W) => hW.heap hw
  have HS := Lib.hid hS
  have Hw := Lib.hid hw
  have Ho := Lib.hid ho
  have HT := Lib.hid hT
  have HB := Lib.hid hB
  have Hnext := Lib.hid hnext
  have Hcont := Lib.hid hcont
  have Hbrk := Lib.hid hbrk
  have Hox := Lib.hid hox
  have Hoy := Lib.hid hoy
  have Hdx := Lib.hid hdx
  have Hdy := Lib.hid hdy
  have Ht := Lib.hid ht
  have Hc := Lib.hid hc
  have Hw' := Lib.hid hw'
  have Hxb := Lib.hid hxb
  have Hyb := Lib.hid hyb
  clear hS hw ho hT hB hnext hcont hbrk hox hoy hdx hdy ht hc hw' hxb hyb
  conv => arg 2; whnf
  dsimp only
  go_upto_region 17 with fail
  rename_i K hk
  have HK := Lib.hid hk
  clear hk
  go_wp2_with (refine wpList_store_row rfl 68 (.tmp 19) (.tmp 155) rfl wr.heap.size #[.int .u8 1, .int .i64 ox, .int .i64 oy, .int .i64 fx, .int .i64 fy, .int .i64 tx, .int .i64 ty, .int .i64 0, .int .i64 0, .int .i64 0] rfl rfl 68 _ (heap_alloc_new wr _) (by kernel_rfl) (by kernel_rfl) (by kernel_rfl) ?_)
  refine HK.out _ _ ?_
  have hx6 : Ext wr ((wr.alloc (.cells #[.int .u8 0, .int .i64 0, .int .i64 0, .int .i64 0, .int .i64 0, .int .i64 0, .int .i64 0, .int .i64 0, .int .i64 0, .int .i64 0] 68)).setRow wr.heap.size #[.int .u8 1, .int .i64 ox, .int .i64 oy, .int .i64 fx, .int .i64 fy, .int .i64 tx, .int .i64 ty, .int .i64 0, .int .i64 0, .int .i64 0]) := below_setRow ((Ext.refl wr).alloc _) (Nat.le_refl _) _
  have hp19 := setRow_heap (wr.alloc (.cells #[.int .u8 0, .int .i64 0, .int .i64 0, .int .i64 0, .int .i64 0, .int .i64 0, .int .i64 0, .int .i64 0, .int .i64 0, .int .i64 0] 68)) wr.heap.size _ #[.int .u8 1, .int .i64 ox, .int .i64 oy, .int .i64 fx, .int .i64 fy, .int .i64 tx, .int .i64 ty, .int .i64 0, .int .i64 0, .int .i64 0] 68 (0, 0) (heap_alloc_new wr _)
  generalize (wr.alloc (.cells #[.int .u8 0, .int .i64 0, .int .i64 0, .int .i64 0, .int .i64 0, .int .i64 0, .int .i64 0, .int .i64 0, .int .i64 0, .int .i64 0] 68)).setRow wr.heap.size #[.int .u8 1, .int .i64 ox, .int .i64 oy, .int .i64 fx, .int .i64 fy, .int .i64 tx, .int .i64 ty, .int .i64 0, .int .i64 0, .int .i64 0] = W6 at *
  generalize wr.heap.size = p19 at *
  have hK := Hc.out W6 hx6
  have hw6 := Hw'.out W6 hx6
  by_cases h1 : R1 ≤ R2
  · exact knownC1 HT.out hK hp hw6 hp19 Hox.out Hoy.out Hdx.out Hdy.out hd hd' Ht.out Hxb.out Hyb.out h1 (fun W' hW' => Hcont.out W' hW')
  · by_cases h2 : R3 < R4
    · exact knownC2 HT.out hK hp hw6 hp19 Hox.out Hoy.out Hdx.out Hdy.out hd hd' Ht.out Hxb.out Hyb.out h1 h2 (fun W' hW' => Hcont.out W' hW')
    · by_cases h3 : R5 < R6
      · exact knownC3 HT.out hK hp hw6 hp19 Hox.out Hoy.out Hdx.out Hdy.out hd hd' Ht.out Hxb.out Hyb.out h1 h2 h3 (fun W' hW' => Hcont.out W' hW')
      · by_cases h4 : 1000 < M
        · exact knownC4 HT.out hK hp hw6 hp19 Hox.out Hoy.out Hdx.out Hdy.out hd hd' Ht.out Hxb.out Hyb.out h1 h2 h3 h4 (fun W' hW' => Hcont.out W' hW')
        · exact knownC5 HT.out hK hp hw6 hp19 Hox.out Hoy.out Hdx.out Hdy.out hd hd' Ht.out Hxb.out Hyb.out h1 h2 h3 h4 (fun W' hW' => Hnext.out W' hW') (fun W' hW' => Hbrk.out W' hW')
end Go.Proofs.YtcoelhpmkhimpaaGreat

/- TopKnown: one look: at which well (regions 13 to 16 of a round). -/
namespace Go.Proofs.YtcoelhpmkhimpaaGreat
open Go.RowKit
set_option linter.unusedVariables false
set_option linter.unusedSimpArgs false
/-- numberOf, at a number of whatever size -/
theorem numberOf_far (a : Option Addr) (n c : Nat) (l : List Int) (j : Int) (w : World) (hl : IntsAt .u32 w a n l) (hn : n ≤ maxLen) (hj : 0 ≤ j ∧ j ≤ 9223372036854775807) : Calls Tryz.prog 16 #[.slice a n c, .int .i64 j] w fun e w' => e = .returned (.int .u32 (numI l j)) ∧ w' = w := by
  have hll := hl.1
  unfold maxLen at hn
  by_cases h0 : n = 0
  · subst h0
    have hv : numI l j = 0 := by unfold numI; rw [hll, if_pos rfl]
    rw [hv]
    clear hl hll
    go_enter Tryz.func16, Tryz.ntmps16
    go_wp2_with fail
    go_ret
    exact ⟨rfl, rfl⟩
  · obtain ⟨R, hR⟩ : ∃ R : Nat, j.tmod n = R := ⟨(j.tmod n).toNat, by
      rw [Int.tmod_eq_emod_of_nonneg hj.1]
      have := Int.emod_nonneg j (show (n : Int) ≠ 0 by omega)
      omega⟩
    have hRn : R < n := by
      have := Int.emod_lt_of_pos j (show (0 : Int) < n by omega)
      rw [Int.tmod_eq_emod_of_nonneg hj.1] at hR
      omega
    have hv : numI l j = l.getD R 0 := by unfold numI; rw [hll, if_neg h0, hR]; rfl
    rw [hv]
    obtain ⟨b, off, k, rfl, hk, c0⟩ := hl.get R hRn
    rw [show l.getD R 0 = k by rw [List.getD_eq_getElem?_getD, hk]; rfl]
    have hz : ((n : Int) == 0) = false := by simp; omega
    have hz' : (n : Int) ≠ 0 := by omega
    have hlt : decide ((R : Int) < (n : Int)) = true := by simp; omega
    clear hl hll hv
    go_enter Tryz.func16, Tryz.ntmps16
    go_wp2_with fail
    go_ret
    exact ⟨rfl, rfl⟩
set_option maxRecDepth 100000 in
set_option maxHeartbeats 16000000 in
theorem knownOther {Q : Exit → Act → World → Prop} {w W2 wr : World} {pa pw : Nat} {x y dp y0 y1 rm s0 s1 ow : Int} {wa la ba : Option Addr} {wn wc ln lc bn bc : Nat} {ws : List Well} {bl : List Int} {i : Nat} {z : Int}
    (hS : KSt w W2 pa x y wr) (hp : w.heap.size ≤ pa) (hld : wr.heap[w.heap.size]? = some (.cells #[.slice wa wn wc, .slice la ln lc] 57 (0, 0)))
    (hw : wr.heap[pw]? = some (.cells #[.int .i64 x, .int .i64 y, .int .i64 dp, .int .i64 y0, .int .i64 y1, .int .i64 rm, .int .i64 s0, .int .i64 s1, .int .i64 ow] 62 (0, 0)))
    (hwl : WellsAt wr wa wn ws) (hwn : 1 ≤ wn ∧ wn ≤ 12) (hwk : ws.all wellOk = true) (hz : 0 ≤ z ∧ z ≤ 255) (hi : i ≤ 9223372036854775807)
    (hby : IntsAt .u32 wr ba bn bl) (hbm : bn ≤ maxLen) (hbr : ∀ z ∈ bl, 0 ≤ z ∧ z ≤ 4294967295)
    (hxb : -10000000 ≤ x ∧ x ≤ 10000000) (hyb : -10000000 ≤ y ∧ y ≤ 10000000)
    {u0 u1 u2 u5 u6 u7 u8 u9 u12 u15 u16 u17 u18 u19 u20 u21 u22 u23 u24 u25 u26 u27 u28 u29 u30 u31 u32 u33 u34 u35 u36 u37 u38 u39 u40 u41 u42 u43 u44 u45 u46 u47 u48 u49 u50 u51 u52 u53 u54 u55 u56 u57 u58 u59 u60 u61 u62 u63 u64 u65 u66 u67 u68 u69 u70 u71 u72 u73 u74 u75 u76 u77 u78 u79 u80 u81 u82 u83 u84 u85 u86 u87 u88 u89 u90 u91 u92 u93 u94 u95 u96 u97 u98 u99 u100 u101 u102 u103 u104 u105 u106 u107 u108 u109 u110 u111 u112 u113 u114 u115 u116 u117 u118 u119 u120 u121 u122 u123 u124 u125 u126 u127 u128 u129 u130 u131 u132 u133 u134 u135 u136 u137 u138 u139 u140 u141 u142 u143 u144 u145 u146 u147 u148 u149 u150 u151 u152 u153 u154 u155 u156 u157 u158 u159 u160 u161 u162 u163 u164 u165 u166 u167 u168 u169 u170 u171 u172 u173 u174 u175 u176 u177 u178 u179 u180 u181 u182 u183 u184 u185 u186 u187 u188 u189 u190 u191 u192 u193 u194 u195 u196 u197 u198 u199 u200 u201 u202 u203 u204 u205 u206 u207 u208 u209 u210 u211 u212 u213 u214 u215 u216 u217 u218 u219 u220 u221 u222 u223 u224 u225 u226 u227 u228 u229 u230 u231 u232 u233 u234 u235 u236 u237 u238 u239 u240 u241 u242 u243 u244 u245 u246 u247 u248 u249 u250 u251 u252 u253 u254 u255 u256 u257 u258 u259 u260 u261 u262 u263 u264 u265 u266 u267 u268 u269 u270 u271 u272 u273 u274 u275 u276 u277 u278 u279 u280 u281 u282 u283 u284 u285 u286 u287 u288 u289 u290 u291 u292 u293 u294 u295 u296 u297 u298 u299 u300 u301 u302 u303 u304 u305 u306 u307 u308 u309 u310 u311 u312 u313 u314 u315 u316 u317 u318 u319 u320 u321 u322 u323 u324 u325 u326 u327 : Value}
    (hnext : ∀ W', KSt w W2 pa x y W' → ∀ {v15 v16 v17 v18 v19 v20 v21 v79 v80 v81 v82 v83 v84 v85 v86 v87 v88 v89 v90 v91 v92 v93 v94 v95 v96 v97 v98 v99 v100 v101 v102 v103 v104 v105 v106 v107 v108 v109 v110 v111 v112 v113 v114 v115 v116 v117 v118 v119 v120 v121 v122 v123 v124 v125 v126 v127 v128 v129 v130 v131 v132 v133 v134 v135 v136 v137 v138 v139 v140 v141 v142 v143 v144 v145 v146 v147 v148 v149 v150 v151 v152 v153 v154 v155 v156 v157 v158 v159 v160 v161 v162 v163 v164 v165 v166 v167 v168 v169 v170 v171 v172 v173 v174 v175 v176 v177 v178 v179 v180 v181 v182 v183 v184 v185 v186 v187 v188 v189 v190 v191 v192 v193 v194 v195 v196 v197 v198 v199 v200 v201 v202 v203 v204 v205 v206 v207 v208 v209 v210 v211 v212 v213 v214 v215 v216 v217 v218 v219 v220 v221 v222 v223 v224 v225 v226 v227 v228 v229 v230 v231 v232 v233 v234 v235 v236 v237 v238 v239 v240 v241 v242 v243 v244 v245 v246 v247 v248 v249 v250 v251 : Value},
      Q .normal ⟨#[u0, u1, u2, .slice ba bn bc, .pointer (some ⟨w.heap.size, 0, none⟩), u5, u6, u7, u8, u9, .pointer (some ⟨pw, 0, none⟩), .pointer (some ⟨pa, 0, none⟩), u12, .int .i64 i, .int .u8 z, v15, v16, v17, v18, v19, v20, v21, u22, u23, u24, u25, u26, u27, u28, u29, u30, u31, u32, u33, u34, u35, u36, u37, u38, u39, u40, u41, u42, u43, u44, u45, u46, u47, u48, u49, u50, u51, u52, u53, u54, u55, u56, u57, u58, u59, u60, u61, u62, u63, u64, u65, u66, u67, u68, u69, u70, u71, u72, u73, u74, u75, u76, u77, u78, v79, v80, v81, v82, v83, v84, v85, v86, v87, v88, v89, v90, v91, v92, v93, v94, v95, v96, v97, v98, v99, v100, v101, v102, v103, v104, v105, v106, v107, v108, v109, v110, v111, v112, v113, v114, v115, v116, v117, v118, v119, v120, v121, v122, v123, v124, v125, v126, v127, v128, v129, v130, v131, v132, v133, v134, v135, v136, v137, v138, v139, v140, v141, v142, v143, v144, v145, v146, v147, v148, v149, v150, v151, v152, v153, v154, v155, v156, v157, v158, v159, v160, v161, v162, v163, v164, v165, v166, v167, v168, v169, v170, v171, v172, v173, v174, v175, v176, v177, v178, v179, v180, v181, v182, v183, v184, v185, v186, v187, v188, v189, v190, v191, v192, v193, v194, v195, v196, v197, v198, v199, v200, v201, v202, v203, v204, v205, v206, v207, v208, v209, v210, v211, v212, v213, v214, v215, v216, v217, v218, v219, v220, v221, v222, v223, v224, v225, v226, v227, v228, v229, v230, v231, v232, v233, v234, v235, v236, v237, v238, v239, v240, v241, v242, v243, v244, v245, v246, v247, v248, v249, v250, v251, u252, u253, u254, u255, u256, u257, u258, u259, u260, u261, u262, u263, u264, u265, u266, u267, u268, u269, u270, u271, u272, u273, u274, u275, u276, u277, u278, u279, u280, u281, u282, u283, u284, u285, u286, u287, u288, u289, u290, u291, u292, u293, u294, u295, u296, u297, u298, u299, u300, u301, u302, u303, u304, u305, u306, u307, u308, u309, u310, u311, u312, u313, u314, u315, u316, u317, u318, u319, u320, u321, u322, u323, u324, u325, u326, u327], []⟩ W')
    (hcont : ∀ W', KSt w W2 pa x y W' → ∀ {v15 v16 v17 v18 v19 v20 v21 v79 v80 v81 v82 v83 v84 v85 v86 v87 v88 v89 v90 v91 v92 v93 v94 v95 v96 v97 v98 v99 v100 v101 v102 v103 v104 v105 v106 v107 v108 v109 v110 v111 v112 v113 v114 v115 v116 v117 v118 v119 v120 v121 v122 v123 v124 v125 v126 v127 v128 v129 v130 v131 v132 v133 v134 v135 v136 v137 v138 v139 v140 v141 v142 v143 v144 v145 v146 v147 v148 v149 v150 v151 v152 v153 v154 v155 v156 v157 v158 v159 v160 v161 v162 v163 v164 v165 v166 v167 v168 v169 v170 v171 v172 v173 v174 v175 v176 v177 v178 v179 v180 v181 v182 v183 v184 v185 v186 v187 v188 v189 v190 v191 v192 v193 v194 v195 v196 v197 v198 v199 v200 v201 v202 v203 v204 v205 v206 v207 v208 v209 v210 v211 v212 v213 v214 v215 v216 v217 v218 v219 v220 v221 v222 v223 v224 v225 v226 v227 v228 v229 v230 v231 v232 v233 v234 v235 v236 v237 v238 v239 v240 v241 v242 v243 v244 v245 v246 v247 v248 v249 v250 v251 : Value},
      Q (.exit 1) ⟨#[u0, u1, u2, .slice ba bn bc, .pointer (some ⟨w.heap.size, 0, none⟩), u5, u6, u7, u8, u9, .pointer (some ⟨pw, 0, none⟩), .pointer (some ⟨pa, 0, none⟩), u12, .int .i64 i, .int .u8 z, v15, v16, v17, v18, v19, v20, v21, u22, u23, u24, u25, u26, u27, u28, u29, u30, u31, u32, u33, u34, u35, u36, u37, u38, u39, u40, u41, u42, u43, u44, u45, u46, u47, u48, u49, u50, u51, u52, u53, u54, u55, u56, u57, u58, u59, u60, u61, u62, u63, u64, u65, u66, u67, u68, u69, u70, u71, u72, u73, u74, u75, u76, u77, u78, v79, v80, v81, v82, v83, v84, v85, v86, v87, v88, v89, v90, v91, v92, v93, v94, v95, v96, v97, v98, v99, v100, v101, v102, v103, v104, v105, v106, v107, v108, v109, v110, v111, v112, v113, v114, v115, v116, v117, v118, v119, v120, v121, v122, v123, v124, v125, v126, v127, v128, v129, v130, v131, v132, v133, v134, v135, v136, v137, v138, v139, v140, v141, v142, v143, v144, v145, v146, v147, v148, v149, v150, v151, v152, v153, v154, v155, v156, v157, v158, v159, v160, v161, v162, v163, v164, v165, v166, v167, v168, v169, v170, v171, v172, v173, v174, v175, v176, v177, v178, v179, v180, v181, v182, v183, v184, v185, v186, v187, v188, v189, v190, v191, v192, v193, v194, v195, v196, v197, v198, v199, v200, v201, v202, v203, v204, v205, v206, v207, v208, v209, v210, v211, v212, v213, v214, v215, v216, v217, v218, v219, v220, v221, v222, v223, v224, v225, v226, v227, v228, v229, v230, v231, v232, v233, v234, v235, v236, v237, v238, v239, v240, v241, v242, v243, v244, v245, v246, v247, v248, v249, v250, v251, u252, u253, u254, u255, u256, u257, u258, u259, u260, u261, u262, u263, u264, u265, u266, u267, u268, u269, u270, u271, u272, u273, u274, u275, u276, u277, u278, u279, u280, u281, u282, u283, u284, u285, u286, u287, u288, u289, u290, u291, u292, u293, u294, u295, u296, u297, u298, u299, u300, u301, u302, u303, u304, u305, u306, u307, u308, u309, u310, u311, u312, u313, u314, u315, u316, u317, u318, u319, u320, u321, u322, u323, u324, u325, u326, u327], []⟩ W')
    (hbrk : ∀ W', KSt w W2 pa x y W' → ∀ {v15 v16 v17 v18 v19 v20 v21 v79 v80 v81 v82 v83 v84 v85 v86 v87 v88 v89 v90 v91 v92 v93 v94 v95 v96 v97 v98 v99 v100 v101 v102 v103 v104 v105 v106 v107 v108 v109 v110 v111 v112 v113 v114 v115 v116 v117 v118 v119 v120 v121 v122 v123 v124 v125 v126 v127 v128 v129 v130 v131 v132 v133 v134 v135 v136 v137 v138 v139 v140 v141 v142 v143 v144 v145 v146 v147 v148 v149 v150 v151 v152 v153 v154 v155 v156 v157 v158 v159 v160 v161 v162 v163 v164 v165 v166 v167 v168 v169 v170 v171 v172 v173 v174 v175 v176 v177 v178 v179 v180 v181 v182 v183 v184 v185 v186 v187 v188 v189 v190 v191 v192 v193 v194 v195 v196 v197 v198 v199 v200 v201 v202 v203 v204 v205 v206 v207 v208 v209 v210 v211 v212 v213 v214 v215 v216 v217 v218 v219 v220 v221 v222 v223 v224 v225 v226 v227 v228 v229 v230 v231 v232 v233 v234 v235 v236 v237 v238 v239 v240 v241 v242 v243 v244 v245 v246 v247 v248 v249 v250 v251 : Value},
      Q (.exit 0) ⟨#[u0, u1, u2, .slice ba bn bc, .pointer (some ⟨w.heap.size, 0, none⟩), u5, u6, u7, u8, u9, .pointer (some ⟨pw, 0, none⟩), .pointer (some ⟨pa, 0, none⟩), u12, .int .i64 i, .int .u8 z, v15, v16, v17, v18, v19, v20, v21, u22, u23, u24, u25, u26, u27, u28, u29, u30, u31, u32, u33, u34, u35, u36, u37, u38, u39, u40, u41, u42, u43, u44, u45, u46, u47, u48, u49, u50, u51, u52, u53, u54, u55, u56, u57, u58, u59, u60, u61, u62, u63, u64, u65, u66, u67, u68, u69, u70, u71, u72, u73, u74, u75, u76, u77, u78, v79, v80, v81, v82, v83, v84, v85, v86, v87, v88, v89, v90, v91, v92, v93, v94, v95, v96, v97, v98, v99, v100, v101, v102, v103, v104, v105, v106, v107, v108, v109, v110, v111, v112, v113, v114, v115, v116, v117, v118, v119, v120, v121, v122, v123, v124, v125, v126, v127, v128, v129, v130, v131, v132, v133, v134, v135, v136, v137, v138, v139, v140, v141, v142, v143, v144, v145, v146, v147, v148, v149, v150, v151, v152, v153, v154, v155, v156, v157, v158, v159, v160, v161, v162, v163, v164, v165, v166, v167, v168, v169, v170, v171, v172, v173, v174, v175, v176, v177, v178, v179, v180, v181, v182, v183, v184, v185, v186, v187, v188, v189, v190, v191, v192, v193, v194, v195, v196, v197, v198, v199, v200, v201, v202, v203, v204, v205, v206, v207, v208, v209, v210, v211, v212, v213, v214, v215, v216, v217, v218, v219, v220, v221, v222, v223, v224, v225, v226, v227, v228, v229, v230, v231, v232, v233, v234, v235, v236, v237, v238, v239, v240, v241, v242, v243, v244, v245, v246, v247, v248, v249, v250, v251, u252, u253, u254, u255, u256, u257, u258, u259, u260, u261, u262, u263, u264, u265, u266, u267, u268, u269, u270, u271, u272, u273, u274, u275, u276, u277, u278, u279, u280, u281, u282, u283, u284, u285, u286, u287, u288, u289, u290, u291, u292, u293, u294, u295, u296, u297, u298, u299, u300, u301, u302, u303, u304, u305, u306, u307, u308, u309, u310, u311, u312, u313, u314, u315, u316, u317, u318, u319, u320, u321, u322, u323, u324, u325, u326, u327], []⟩ W')
    :
    (restFrom Tryz.f4 13).wp Tryz.prog Q
      ⟨#[u0, u1, u2, .slice ba bn bc, .pointer (some ⟨w.heap.size, 0, none⟩), u5, u6, u7, u8, u9, .pointer (some ⟨pw, 0, none⟩), .pointer (some ⟨pa, 0, none⟩), u12, .int .i64 i, .int .u8 z, u15, u16, u17, u18, u19, u20, u21, u22, u23, u24, u25, u26, u27, u28, u29, u30, u31, u32, u33, u34, u35, u36, u37, u38, u39, u40, u41, u42, u43, u44, u45, u46, u47, u48, u49, u50, u51, u52, u53, u54, u55, u56, u57, u58, u59, u60, u61, u62, u63, u64, u65, u66, u67, u68, u69, u70, u71, u72, u73, u74, u75, u76, u77, u78, u79, u80, u81, u82, u83, u84, u85, u86, u87, u88, u89, u90, u91, u92, u93, u94, u95, u96, u97, u98, u99, u100, u101, u102, u103, u104, u105, u106, u107, u108, u109, u110, u111, u112, u113, u114, u115, u116, u117, u118, u119, u120, u121, u122, u123, u124, u125, u126, u127, u128, u129, u130, u131, u132, u133, u134, u135, u136, u137, u138, u139, u140, u141, u142, u143, u144, u145, u146, u147, u148, u149, u150, u151, u152, u153, u154, u155, u156, u157, u158, u159, u160, u161, u162, u163, u164, u165, u166, u167, u168, u169, u170, u171, u172, u173, u174, u175, u176, u177, u178, u179, u180, u181, u182, u183, u184, u185, u186, u187, u188, u189, u190, u191, u192, u193, u194, u195, u196, u197, u198, u199, u200, u201, u202, u203, u204, u205, u206, u207, u208, u209, u210, u211, u212, u213, u214, u215, u216, u217, u218, u219, u220, u221, u222, u223, u224, u225, u226, u227, u228, u229, u230, u231, u232, u233, u234, u235, u236, u237, u238, u239, u240, u241, u242, u243, u244, u245, u246, u247, u248, u249, u250, u251, u252, u253, u254, u255, u256, u257, u258, u259, u260, u261, u262, u263, u264, u265, u266, u267, u268, u269, u270, u271, u272, u273, u274, u275, u276, u277, u278, u279, u280, u281, u282, u283, u284, u285, u286, u287, u288, u289, u290, u291, u292, u293, u294, u295, u296, u297, u298, u299, u300, u301, u302, u303, u304, u305, u306, u307, u308, u309, u310, u311, u312, u313, u314, u315, u316, u317, u318, u319, u320, u321, u322, u323, u324, u325, u326, u327], []⟩ wr := by
  dsimp only at hnext hcont hbrk
  obtain ⟨R, hR⟩ : ∃ R : Nat, z.tmod wn = R := ⟨(z.tmod wn).toNat, by
    rw [Int.tmod_eq_emod_of_nonneg hz.1]
    have := Int.emod_nonneg z (show (wn : Int) ≠ 0 by omega)
    omega⟩
  have hRn : R < wn := by
    have := Int.emod_lt_of_pos z (show (0 : Int) < wn by omega)
    rw [Int.tmod_eq_emod_of_nonneg hz.1] at hR
    omega
  obtain ⟨wb, wo, o, rfl, hok, hwb, d0, d1, d2, d3, d4, d5, d6, d7, d8⟩ := hwl.get R hRn
  have hwo := List.all_eq_true.1 hwk o (List.mem_of_getElem? hok)
  obtain ⟨ox, oy, od, ⟨oy0, oy1⟩, orm, ⟨os0, os1⟩, oow⟩ := o
  have hoxy : (-10000000 ≤ ox ∧ ox ≤ 10000000) ∧ (-10000000 ≤ oy ∧ oy ≤ 10000000) := by
    simp only [wellOk, inB, Bool.and_eq_true, decide_eq_true_eq] at hwo
    omega
  simp only at d0 d1 d2 d3 d4 d5 d6 d7 d8
  have hnu := fun W (hW : Ext wr W) => numberOf_far ba bn bc bl (i : Int) W (hby.ext hW) hbm (by omega)
  have hnm := nm_ok hbr (i : Int)
  obtain ⟨NU, hNU⟩ : ∃ N, numI bl (i : Int) = N := ⟨_, rfl⟩
  rw [hNU] at hnu hnm
  have hnz : ((wn : Int) == 0) = false := by simp; omega
  have hnz' : (wn : Int) ≠ 0 := by omega
  have hltR : decide ((R : Int) < (wn : Int)) = true := by simp; omega
  have hltw : wr.heap.size ≤ wr.heap.size := Nat.le_refl _
  clear hwl hok hwo hwk hby hbr hNU
  have HS := Lib.hid hS
  have Hld := Lib.hid hld
  have Hw := Lib.hid hw
  have Hnu := Lib.hid hnu
  have Hnext := Lib.hid hnext
  have Hcont := Lib.hid hcont
  have Hbrk := Lib.hid hbrk
  have Hnm := Lib.hid hnm
  clear hS hld hw hnu hnext hcont hbrk hnm
  conv => arg 2; whnf
  dsimp only
  go_upto_region 13 with fail
  refine wp_region_tree (.take [0, 1, 2, 3, 4, 5, 6, 7, 8, 9] (.one 10 (.one 11 .done))) (Ext wr) _ (by kernel_rfl) (by kernel_rfl) rfl ((Ext.refl _).drew) ?_
  intro ι _ f hf hs
  have f0 := fun q => ((hf q).box Hld.out).1
  have g0 := fun q => (hf q).cell d0
  have g1 := fun q => (hf q).cell d1
  have g2 := fun q => (hf q).cell d2
  have g3 := fun q => (hf q).cell d3
  have g4 := fun q => (hf q).cell d4
  have g5 := fun q => (hf q).cell d5
  have g6 := fun q => (hf q).cell d6
  have g7 := fun q => (hf q).cell d7
  have g8 := fun q => (hf q).cell d8
  have HS := Lib.hid hs
  clear hf hs
  simp only [treeOf, oneOp, twoOp, opsOf, consOp, List.getElem?_toArray, List.getElem?_cons_succ, List.getElem?_cons_zero]
  refine wpOT_take ?_
  repeat (go_big_quiet_step (fail))
  refine wpQuiet_nil ?_
  clear f0 g0 g1 g2 g3 g4 g5 g6 g7 g8
  refine wpOT_one ?_
  go_wp2_with fail
  refine ⟨HS.out _ ((Ext.refl _).drew.alloc _), ?_⟩
  have hn6 := heap_alloc_new wr.drew (.cells #[.int .i64 0, .int .i64 0, .int .i64 0, .int .i64 0, .int .i64 0, .int .i64 0, .int .i64 0, .int .i64 0, .int .i64 0] 62)
  refine wpOT_one ?_
  go_wp2_with (refine wpList_store_row rfl 62 (.tmp 15) (.tmp 88) rfl wr.heap.size #[.int .i64 ox, .int .i64 oy, .int .i64 od, .int .i64 oy0, .int .i64 oy1, .int .i64 orm, .int .i64 os0, .int .i64 os1, .int .i64 oow] rfl rfl 62 _ hn6 (by kernel_rfl) (by kernel_rfl) (by kernel_rfl) ?_)
  have hx6 : Ext wr ((wr.alloc (.cells #[.int .i64 0, .int .i64 0, .int .i64 0, .int .i64 0, .int .i64 0, .int .i64 0, .int .i64 0, .int .i64 0, .int .i64 0] 62)).drew.setRow wr.heap.size #[.int .i64 ox, .int .i64 oy, .int .i64 od, .int .i64 oy0, .int .i64 oy1, .int .i64 orm, .int .i64 os0, .int .i64 os1, .int .i64 oow]) := below_setRow ((Ext.refl wr).alloc _).drew (Nat.le_refl _) _
  have hp15 := setRow_heap (wr.alloc (.cells #[.int .i64 0, .int .i64 0, .int .i64 0, .int .i64 0, .int .i64 0, .int .i64 0, .int .i64 0, .int .i64 0, .int .i64 0] 62)).drew wr.heap.size _ #[.int .i64 ox, .int .i64 oy, .int .i64 od, .int .i64 oy0, .int .i64 oy1, .int .i64 orm, .int .i64 os0, .int .i64 os1, .int .i64 oow] 62 (0, 0) (heap_alloc_new wr (.cells #[.int .i64 0, .int .i64 0, .int .i64 0, .int .i64 0, .int .i64 0, .int .i64 0, .int .i64 0, .int .i64 0, .int .i64 0] 62))
  generalize (wr.alloc (.cells #[.int .i64 0, .int .i64 0, .int .i64 0, .int .i64 0, .int .i64 0, .int .i64 0, .int .i64 0, .int .i64 0, .int .i64 0] 62)).drew.setRow wr.heap.size #[.int .i64 ox, .int .i64 oy, .int .i64 od, .int .i64 oy0, .int .i64 oy1, .int .i64 orm, .int .i64 os0, .int .i64 os1, .int .i64 oow] = W6 at *
  generalize wr.heap.size = p15 at *
  refine ⟨HS.out _ hx6, ?_⟩
  refine wpOT_done ?_
  clear HS hn6
  have hw6 := hx6.heap Hw.out
  have hdx : ∃ D, ox - x = D := ⟨_, rfl⟩
  obtain ⟨dx, hdx⟩ := hdx
  obtain ⟨dy, hdy⟩ : ∃ D, oy - y = D := ⟨_, rfl⟩
  have bdx : -20000000 ≤ dx ∧ dx ≤ 20000000 := by omega
  have bdy : -20000000 ≤ dy ∧ dy ≤ 20000000 := by omega
  obtain ⟨M, hM⟩ : ∃ M, max (max dx (-dx)) (max dy (-dy)) = M := ⟨_, rfl⟩
  have hmx := fun W => run_max4 dx (-dx) dy (-dy) W
  rw [hM] at hmx
  have Hx6 := Lib.hid hx6
  have Hp15 := Lib.hid hp15
  have Hw6 := Lib.hid hw6
  clear hx6 hp15 hw6
  clear d0 d1 d2 d3 d4 d5 d6 d7 d8 hltR hnz hnz' hR hRn hwn hwb hltw
  go_upto_region 14 with fail
  refine wp_region_ext (by kernel_rfl) (by kernel_rfl) (fun f hf hs => ?_)
  have f0 := fun q => ((hf q).box Hp15.out).1
  have f1 := fun q => ((hf q).box Hw6.out).1
  clear hf hs
  repeat (go_big_quiet_step (fail))
  refine wpQuiet_nil ?_
  intro W7 hW7
  clear f0 f1
  have hx7 := Hx6.out.trans hW7
  have hK7 := HS.out.more hx7
  have hw7 := hW7.heap Hw6.out
  have hp7 := hW7.heap Hp15.out
  have hnu7 := fun W (hW : Ext W7 W) => (Hnu.out W (hx7.trans hW)).mono (R' := fun e w' => e = .returned (.int .u32 NU) ∧ Ext W w') (fun e w' h => ⟨h.1, by rw [h.2]; exact Ext.refl _⟩)
  have hcon := fun W (hW : Ext W7 W) => hK7.more hW
  have hwn := fun W (hW : Ext W7 W) => hW.heap hw7
  have hpn := fun W (hW : Ext W7 W) => hW.heap hp7
  clear hx7 hW7 hK7 hw7 hp7 HS Hld Hw Hnu Hx6 Hp15 Hw6
  have Hnu7 := Lib.hid hnu7
  have Hcon := Lib.hid hcon
  have Hwn := Lib.hid hwn
  have Hpn := Lib.hid hpn
  have Hdx := Lib.hid hdx
  have Hdy := Lib.hid hdy
  have HM := Lib.hid hM
  have Bdx := Lib.hid bdx
  have Bdy := Lib.hid bdy
  have Hoxy := Lib.hid hoxy
  clear hnu7 hcon hwn hpn hdx hdy hM bdx bdy hoxy
  have bdx := Bdx.out
  have bdy := Bdy.out
  by_cases hx0 : dx = 0
  · have c1 : (dx == 0) = true := by rw [hx0]; rfl
    have c1' : decide (dx = 0) = true := decide_eq_true hx0
    clear hx0
    by_cases hy0 : dy = 0
    · have c2 : (dy == 0) = true := by rw [hy0]; rfl
      have c2' : decide (dy = 0) = true := decide_eq_true hy0
      clear hy0
      go_upto_region 15 with fail
      refine wp_region_seq (fun f hf hs => ?_)
      clear hf hs
      repeat (go_big_quiet_step (fail))
      refine wpQuiet_nil ?_
      intro W8 hW8
      have hC8 := Hcon.out _ hW8
      iterate 4 go_step
      first | exact Hcont.out _ hC8 | (go_step; exact Hcont.out _ hC8)
    · have c2 : (dy == 0) = false := by simpa using hy0
      have c2' : decide (dy = 0) = false := decide_eq_false hy0
      clear hy0
      by_cases hfar : 400 < M
      · have c3 : decide (400 < M) = true := decide_eq_true hfar
        clear hfar
        go_upto_region 15 with fail
        refine wp_region_seq (fun f hf hs => ?_)
        clear hf hs
        repeat (go_big_quiet_step (fail))
        refine wpQuiet_nil ?_
        intro W8 hW8
        have hC8 := Hcon.out _ hW8
        iterate 4 go_step
        first | exact Hcont.out _ hC8 | (go_step; exact Hcont.out _ hC8)
      · have c3 : decide (400 < M) = false := decide_eq_false hfar
        have hdd : (-400 ≤ dx ∧ dx ≤ 400) ∧ (-400 ≤ dy ∧ dy ≤ 400) := by
          have := HM.out
          omega
        clear hfar
        have Hdd := Lib.hid hdd
        clear hdd
        go_upto_region 15 with fail
        refine wp_region_seq (fun f hf hs => ?_)
        clear hf hs
        repeat (go_big_quiet_step (fail))
        refine wpQuiet_nil ?_
        intro W8 hW8
        have hnu8 := fun W (hW : Ext W8 W) => Hnu7.out W (hW8.trans hW)
        have h8 := hW8
        have Hnu8 := Lib.hid hnu8
        have H8 := Lib.hid h8
        clear hnu8 h8
        clear hW8 c3
        have hnb : 0 ≤ NU.tmod 2 ∧ NU.tmod 2 ≤ 1 := by
          rw [Int.tmod_eq_emod_of_nonneg Hnm.out.a]
          omega
        go_upto_region 16 with fail
        refine wp_region_seq (fun f hf hs => ?_)
        have Hf := Lib.hid hf
        have HS := Lib.hid hs
        clear hf hs
        repeat (go_big_quiet_step ((go_at_call 16; exact Calls.ext_of (Hf.out _) HS.out (Hnu8.out _ (Hf.out _)))))
        refine wpQuiet_nil ?_
        intro W9 hW9
        have h9 := H8.out.trans hW9
        have hC9 := Hcon.out _ h9
        have hw9 := Hwn.out _ h9
        have hp9 := Hpn.out _ h9
        have ht : 1 + NU.tmod 2 = 1 ∨ 1 + NU.tmod 2 = 2 := by omega
        generalize 1 + NU.tmod 2 = t at *
        iterate 2 go_step
        exact knownTurn hC9 hp hw9 hp9 Hoxy.out.1 Hoxy.out.2 Hdx.out Hdy.out Hdd.out.1 Hdd.out.2 ht hxb hyb (fun W' hW' => Hnext.out W' hW') (fun W' hW' => Hcont.out W' hW') (fun W' hW' => Hbrk.out W' hW')
  · have c1 : (dx == 0) = false := by simpa using hx0
    have c1' : decide (dx = 0) = false := decide_eq_false hx0
    clear hx0
    by_cases hfar : 400 < M
    · have c3 : decide (400 < M) = true := decide_eq_true hfar
      clear hfar
      go_upto_region 15 with fail
      refine wp_region_seq (fun f hf hs => ?_)
      clear hf hs
      repeat (go_big_quiet_step (fail))
      refine wpQuiet_nil ?_
      intro W8 hW8
      have hC8 := Hcon.out _ hW8
      iterate 4 go_step
      first | exact Hcont.out _ hC8 | (go_step; exact Hcont.out _ hC8)
    · have c3 : decide (400 < M) = false := decide_eq_false hfar
      have hdd : (-400 ≤ dx ∧ dx ≤ 400) ∧ (-400 ≤ dy ∧ dy ≤ 400) := by
        have := HM.out
        omega
      clear hfar
      have Hdd := Lib.hid hdd
      clear hdd
      go_upto_region 15 with fail
      refine wp_region_seq (fun f hf hs => ?_)
      clear hf hs
      repeat (go_big_quiet_step (fail))
      refine wpQuiet_nil ?_
      intro W8 hW8
      have hnu8 := fun W (hW : Ext W8 W) => Hnu7.out W (hW8.trans hW)
      have h8 := hW8
      have Hnu8 := Lib.hid hnu8
      have H8 := Lib.hid h8
      clear hnu8 h8
      clear hW8 c3
      have hnb : 0 ≤ NU.tmod 2 ∧ NU.tmod 2 ≤ 1 := by
        rw [Int.tmod_eq_emod_of_nonneg Hnm.out.a]
        omega
      go_upto_region 16 with fail
      refine wp_region_seq (fun f hf hs => ?_)
      have Hf := Lib.hid hf
      have HS := Lib.hid hs
      clear hf hs
      repeat (go_big_quiet_step ((go_at_call 16; exact Calls.ext_of (Hf.out _) HS.out (Hnu8.out _ (Hf.out _)))))
      refine wpQuiet_nil ?_
      intro W9 hW9
      have h9 := H8.out.trans hW9
      have hC9 := Hcon.out _ h9
      have hw9 := Hwn.out _ h9
      have hp9 := Hpn.out _ h9
      have ht : 1 + NU.tmod 2 = 1 ∨ 1 + NU.tmod 2 = 2 := by omega
      generalize 1 + NU.tmod 2 = t at *
      iterate 2 go_step
      exact knownTurn hC9 hp hw9 hp9 Hoxy.out.1 Hoxy.out.2 Hdx.out Hdy.out Hdd.out.1 Hdd.out.2 ht hxb hyb (fun W' hW' => Hnext.out W' hW') (fun W' hW' => Hcont.out W' hW') (fun W' hW' => Hbrk.out W' hW')
end Go.Proofs.YtcoelhpmkhimpaaGreat
