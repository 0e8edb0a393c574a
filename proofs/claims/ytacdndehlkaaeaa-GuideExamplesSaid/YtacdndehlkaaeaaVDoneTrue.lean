/- The law GuideTrue: plain facts, and what is so of the caravan in a round. -/
import Derived.Test.YtacdndehlkaaeaaVSteps
import Derived.Test.YtacdndehlkaaeaaVGr7
import Derived.Test.YtacdndehlkaaeaaVDoneParts
import Derived.Test.YtacdndehlkaaeaaVGr1
namespace Go.Proofs.Ytacdndehlkaaeaa
open Go.RowKit
set_option linter.unusedVariables false
theorem inB2_iff {l : List Half} {x y : Int} : inB2 l x y = true ↔ In l (pt x y) := by
  rw [pt_in]
  simp [inB2]
theorem allBut_pt {l : List Half} {S : List Sight} {x y : Int} (h : In l (pt x y)) (hs : ∀ s ∈ S, seenB s x y = true) : In (allBut l S fun _ => false) (pt x y) := by
  unfold allBut
  refine In.append.2 ⟨h, ?_⟩
  rw [pt_in]
  intro k hk
  obtain ⟨i, hi, hk⟩ := List.mem_flatMap.1 hk
  have hi := List.mem_range.1 hi
  simp only [Bool.false_eq_true, if_false] at hk
  have hm : S.getD i ⟨0, 0, 0, 0, 0, 0, 0, 0, 0, 0⟩ ∈ S := by
    simp only [List.getD, List.getElem?_eq_getElem hi, Option.getD_some]
    exact List.getElem_mem _
  exact pt_in.1 (seen_in (hs _ hm)) k hk
theorem clash_true {l : List Half} {S : List Sight} {x y : Int} (ha : AreaOk l) (h : In l (pt x y)) (hl : S.length ≤ 10) (hs : ∀ s ∈ S, sightOk s = true ∧ seenB s x y = true) : clashOf l S = ([], 6) := by
  unfold clashOf
  rw [if_neg (by rw [areaOk_iff.2 ha]; simp), if_neg (by omega), if_neg (by rw [List.all_eq_true.2 fun s h => (hs s h).1]; simp), if_pos]
  exact (someB_iff (ha.bounded _)).2 ⟨_, allBut_pt h fun s h => (hs s h).2⟩
theorem see_true {l : List Half} {s : Sight} {x y : Int} (ha : AreaOk l) (h : In l (pt x y)) (ho : sightOk s = true) (hs : seenB s x y = true) : (seeOf l s = (l ++ halvesOf s, 0) ∧ AreaOk (l ++ halvesOf s) ∧ In (l ++ halvesOf s) (pt x y)) ∨ seeOf l s = ([], 9) := by
  have hi : In (l ++ halvesOf s) (pt x y) := In.append.2 ⟨h, seen_in hs⟩
  by_cases hl : 40 < l.length + (halvesOf s).length
  · refine .inr ?_
    unfold seeOf
    rw [if_neg (by rw [areaOk_iff.2 ha]; simp), if_neg (by rw [ho]; simp), if_pos hl]
  · refine .inl ⟨?_, ha.more (halves_ok ho) (by omega), hi⟩
    unfold seeOf
    rw [if_neg (by rw [areaOk_iff.2 ha]; simp), if_neg (by rw [ho]; simp), if_neg hl, if_neg]
    rw [(someB_iff (ha.bounded _)).2 ⟨_, hi⟩]
    simp
theorem bounds_true {l : List Half} {x y : Int} (ha : AreaOk l) (h : In l (pt x y)) : ∃ e0 e1 n0 n1, boundsOf l = (⟨e0, e1⟩, ⟨n0, n1⟩, 0) ∧ e0 ≤ x ∧ x ≤ e1 ∧ n0 ≤ y ∧ y ≤ n1 := by
  rcases bounds_step ha with ⟨⟨e0, e1⟩, ⟨n0, n1⟩, hb, hB, _⟩ | ⟨_, hno⟩
  · have h1 := hB.xl _ h
    have h2 := hB.xh _ h
    have h3 := hB.yl _ h
    have h4 := hB.yh _ h
    simp only [pt, Int.mul_one] at h1 h2 h3 h4
    exact ⟨e0, e1, n0, n1, hb, h1, h2, h3, h4⟩
  · exact absurd h (hno _)
theorem around_pt {px py far x y : Int} : In (around px py far) (pt x y) ↔ max (max (px - x) (x - px)) (max (py - y) (y - py)) ≤ far := by
  rw [show around px py far = box ⟨px - far, px + far⟩ ⟨py - far, py + far⟩ from rfl, box_iff]
  simp only [pt, Int.mul_one]
  omega
theorem near_true {l : List Half} {x y px py far : Int} (ha : AreaOk l) (h : In l (pt x y)) (hp : (placeOk px && placeOk py && inB far 0 10000000) = true) :
    ∃ k, nearOf l px py far = (k, 0) ∧ (k = 0 ∧ far < max (max (px - x) (x - px)) (max (py - y) (y - py)) ∨ k = 1 ∨ k = 2 ∧ max (max (px - x) (x - px)) (max (py - y) (y - py)) ≤ far) := by
  have hs : someB l = true := (someB_iff ha.bnd).2 ⟨_, h⟩
  have hk := known_of ha.bounded px py far
  refine ⟨knownOf l px py far, ?_, ?_⟩
  · have ha' : askedOf l px py far = 0 := by
      unfold askedOf
      rw [if_neg (by rw [areaOk_iff.2 ha]; simp), if_neg (by rw [hp]; simp), if_neg (by rw [hs]; simp)]
    unfold nearOf
    rw [ha']
    simp
  · rcases hk.range with e | e | e
    · refine .inl ⟨e, ?_⟩
      have := hk.no.1 e _ h
      rw [around_pt] at this
      omega
    · exact .inr (.inl e)
    · refine .inr (.inr ⟨e, ?_⟩)
      exact around_pt.1 ((hk.yes.1 e).2 _ h)
theorem march_true {l : List Half} {t : Trek} {x y d e n : Int} (ha : AreaOk l) (h : In l (pt x y)) (ht : trekOk t = true) (d0 : t.d.lo ≤ d) (d1 : d ≤ t.d.hi) (e0 : t.e.lo ≤ e) (e1 : e ≤ t.e.hi) (n0 : t.n.lo ≤ n) (n1 : n ≤ t.n.hi) :
    (marchOf l t = (movedOf l t, 0) ∧ AreaOk (movedOf l t) ∧ In (movedOf l t) (pt (x + d * e) (y + d * n))) ∨ marchOf l t = ([], 9) := by
  rcases march_step ha ht with ⟨h1, h2, _⟩ | h1 | ⟨_, hno⟩
  · exact .inl ⟨h1, h2, march_in h d0 d1 e0 e1 n0 n1⟩
  · exact .inr h1
  · exact absurd h (hno _)
/-- what is so of the caravan -/
structure TSt (w : World) (pa i j : Nat) (L : List Half) (x y : Int) (S : List Sight) (ca : Option Addr) (cn cc : Nat) (v : Value) (wr : World) : Prop where
  ext : Ext w wr
  area : AreaOk L
  lies : In L (pt x y)
  xb : -10000000000 - 6000000 * (i : Int) ≤ x ∧ x ≤ 10000000000 + 6000000 * (i : Int)
  yb : -10000000000 - 6000000 * (i : Int) ≤ y ∧ y ≤ 10000000000 + 6000000 * (i : Int)
  see : ∀ s ∈ S, sightOk s = true ∧ seenB s x y = true
  len : S.length ≤ j ∧ S.length ≤ 10
  box : wr.heap[pa]? = some (.cells #[.slice ca cn cc] 24 (0, 0))
  cap : cn ≤ cc ∧ cc ≤ maxLen
  hal : HalvesAt wr ca cn L
  own : Owns wr (pa + 1) 30 10 v (sightRows S)
  ne : ∀ X, ca = some X → X.block ≠ pa ∧ v.ownBlock ≠ some X.block
  pw : w.heap.size ≤ pa
theorem TSt.ext' {w : World} {pa i j : Nat} {L : List Half} {x y : Int} {S : List Sight} {ca : Option Addr} {cn cc : Nat} {v : Value} {wr wr' : World} (h : TSt w pa i j L x y S ca cn cc v wr) (hx : Ext wr wr') : TSt w pa i j L x y S ca cn cc v wr' :=
  ⟨h.ext.trans hx, h.area, h.lies, h.xb, h.yb, h.see, h.len, hx.heap h.box, h.cap, h.hal.ext hx, h.own.ext hx, h.ne, h.pw⟩
theorem HalvesAt.pos {w : World} {a : Option Addr} {n : Nat} {l : List Half} (h : HalvesAt w a n l) (ha : AreaOk l) : 0 < n := by
  have := h.1
  have := ha.len.1
  omega
/-- a look more is noted -/
theorem TSt.push {w : World} {pa i j : Nat} {L : List Half} {x y : Int} {S : List Sight} {ca : Option Addr} {cn cc : Nat} {v v' : Value} {wr wr' : World} {s : Sight} (h : TSt w pa i j L x y S ca cn cc v wr) (hs : sightOk s = true ∧ seenB s x y = true) (hl : S.length + 1 ≤ 10)
    (ho : Owns wr' (pa + 1) 30 10 v' (sightRows (S ++ [s]))) (hg : wr.grownBy wr' v.ownBlock) (hv : v'.ownBlock = v.ownBlock ∨ v'.ownBlock = some wr.heap.size) : TSt w pa i (j + 1) L x y (S ++ [s]) ca cn cc v' wr' := by
  have hlt : ∀ X, ca = some X → X.block < wr.heap.size := h.hal.lt (h.hal.pos h.area)
  have hpa := heap_lt h.box
  have hown := h.own.lt
  refine ⟨?_, h.area, h.lies, by have := h.xb; omega, by have := h.yb; omega, ?_, by have := h.len; simp; omega, ?_, h.cap, ?_, ho, fun X hX => ⟨(h.ne X hX).1, ?_⟩, h.pw⟩
  · exact Below.grown h.ext hg h.ext.size (fun k hk => by have := (hown k hk).1; have := h.pw; omega)
  · intro t ht
    rcases List.mem_append.1 ht with ht | ht
    · exact h.see t ht
    · rw [List.mem_singleton.1 ht]; exact hs
  · exact (hg.block pa hpa (fun e => by have := (hown pa e.symm).1; omega)).trans h.box
  · exact h.hal.same fun X hX => hg.block X.block (hlt X hX) (fun e => (h.ne X hX).2 e.symm)
  · rcases hv with e | e
    · rw [e]; exact (h.ne X hX).2
    · rw [e]
      intro e'
      have := hlt X hX
      have e'' := Option.some.inj e'
      omega
/-- the next round -/
theorem TSt.next {w : World} {pa i j : Nat} {L : List Half} {x y : Int} {S : List Sight} {ca : Option Addr} {cn cc : Nat} {v : Value} {wr : World} (h : TSt w pa i j L x y S ca cn cc v wr) : TSt w pa (i + 1) j L x y S ca cn cc v wr :=
  ⟨h.ext, h.area, h.lies, by have := h.xb; omega, by have := h.yb; omega, h.see, by have := h.len; omega, h.box, h.cap, h.hal, h.own, h.ne, h.pw⟩
/-- another area -/
theorem TSt.put {w : World} {pa i j i' j' : Nat} {L M : List Half} {x y x' y' : Int} {S T : List Sight} {ca cb : Option Addr} {cn cc dn dc : Nat} {v u : Value} {wr : World} (h : TSt w pa i j L x y S ca cn cc v wr) (hM : AreaOk M) (hin : In M (pt x' y'))
    (hx : -10000000000 - 6000000 * (i' : Int) ≤ x' ∧ x' ≤ 10000000000 + 6000000 * (i' : Int)) (hy : -10000000000 - 6000000 * (i' : Int) ≤ y' ∧ y' ≤ 10000000000 + 6000000 * (i' : Int)) (hs : ∀ s ∈ T, sightOk s = true ∧ seenB s x' y' = true) (hl : T.length ≤ j' ∧ T.length ≤ 10)
    (hc : dn ≤ dc ∧ dc ≤ maxLen) (hh : HalvesAt wr cb dn M) (ho : Owns wr (pa + 1) 30 10 u (sightRows T)) (hn : ∀ X, cb = some X → X.block ≠ pa ∧ u.ownBlock ≠ some X.block) :
    TSt w pa i' j' M x' y' T cb dn dc u (wr.setCell ⟨pa, 0, none⟩ (.slice cb dn dc)) :=
  ⟨h.ext.setCell (p := ⟨pa, 0, none⟩) h.pw _, hM, hin, hx, hy, hs, hl, by simp only [heap_setCell_box, h.box, Option.map_some, setIn_cells, List.setIfInBounds_toArray, List.set_cons_zero], hc,
    hh.same fun X hX => Below.heap_setCell _ _ _ _ (hn X hX).1, owns_set ho (by omega), hn, h.pw⟩
theorem sight_kind {s : Sight} (h : sightOk s = true) : 0 ≤ s.kind ∧ s.kind ≤ 255 := by
  unfold sightOk at h
  by_cases e1 : s.kind = 1
  · omega
  · rw [if_neg e1] at h
    by_cases e2 : s.kind = 2
    · omega
    · rw [if_neg e2] at h
      by_cases e3 : s.kind = 3
      · omega
      · rw [if_neg e3] at h
        cases h
/-- it is clear of marks -/
theorem clashTrue_any {l : List Half} {S : List Sight} {n : Nat} {x y : Int} (ha : AreaOk l) (h : In l (pt x y)) (hl : S.length ≤ 10) (hs : ∀ s ∈ S, sightOk s = true ∧ seenB s x y = true) (a : Option Addr) (c : Nat) (b : Option Addr) (k d : Nat) (w : World) (hL : HalvesAt w a n l) (hc : n ≤ c) (hm : c ≤ maxLen) (hS : SightsAt w b k S) :
    Calls Try.prog 18 #[.agg #[.slice a n c], .slice b k d] w fun e w' => ∃ b' c', e = .returned (.tuple #[.slice b' 0 c', .int .i64 6]) ∧ Ext w w' :=
  (clash_any a n c l b k d S w hL hc hm hS (fun i hi => by
    have hi' : i < S.length := by rw [hS.1]; exact hi
    have hm : S.getD i zl ∈ S := by
      simp only [List.getD, List.getElem?_eq_getElem hi', Option.getD_some]
      exact List.getElem_mem _
    exact sight_kind (hs _ hm).1)).mono fun e w' h' => by
    obtain ⟨b', d', rfl, _, _, h3, _⟩ := h'
    rw [clash_true ha h hl hs]
    exact ⟨b', d', rfl, h3⟩
end Go.Proofs.Ytacdndehlkaaeaa

/- The law GuideTrue: a round's trek. -/
namespace Go.Proofs.Ytacdndehlkaaeaa
open Go.RowKit
set_option linter.unusedVariables false
set_option linter.unusedSimpArgs false
theorem pickK_any {s : Span} {k r : Int} (hr : pickOf s k = r) (w : World) (h0 : -100000000 ≤ s.lo) (h1 : s.lo ≤ s.hi) (h2 : s.hi ≤ 100000000) (k0 : 0 ≤ k ∧ k ≤ 4294967295) : Calls Try.prog 46 #[.agg #[.int .i64 s.lo, .int .i64 s.hi], .int .u32 k] w fun e w' => e = .returned (.int .i64 r) ∧ Ext w w' := by
  subst hr
  exact pick_any s k w h0 h1 h2 k0.1 k0.2
set_option maxRecDepth 100000 in
set_option maxHeartbeats 8000000 in
theorem trueTrek {Q : Exit → Act → World → Prop} {w wr : World} {pa i : Nat} {L : List Half} {x y far : Int} {S : List Sight} {ca la ta ya : Option Addr} {cn cc ln lc tn tc yn yc : Nat} {v : Value} {ts : List Trek} {by' : List Int}
    (st : TSt w pa i (i + 1) L x y S ca cn cc v wr) (hi : i < 60) (hts : TreksAt w ta tn ts) (htn : tn ≤ 60) (hy : IntsAt .u32 w ya yn by') (hyn : yn ≤ maxLen) (hdr : drawOk by') {u0 u8 u9 u10 u11 u12 u13 u14 u18 u19 u20 u21 u22 u23 u24 u25 u26 u27 u28 u29 u30 u31 u32 u33 u34 u35 u36 u37 u38 u39 u40 u41 u42 u43 u44 u45 u46 u47 u48 u49 u50 u51 u52 u53 u54 u55 u56 u57 u58 u59 u60 u61 u62 u63 u64 u65 u66 u67 u68 u69 u70 u71 u72 u73 u74 u75 u76 u77 u78 u79 u80 u81 u82 u83 u84 u85 u86 u87 u88 u89 u90 u91 u92 u93 u94 u95 u96 u97 u98 u99 u100 u101 u102 u103 u104 u105 u106 u107 u108 u109 u110 u111 u112 u113 u114 u115 u116 u117 u118 u119 u120 u121 u122 u123 u124 u125 u126 u127 u128 u129 u130 u131 u132 u133 u134 u135 u136 u137 u138 u139 u140 u141 u142 u143 u144 u145 u146 u147 u148 u149 u150 u151 u152 u153 u154 u155 u156 u157 u158 u159 u160 u161 u162 u163 u164 u165 u166 u167 u168 u169 u170 u171 u172 u173 u174 u175 u176 u177 u178 u179 u180 u181 u182 u183 u184 u185 u186 u187 u188 u189 u190 u191 u192 u193 u194 u195 u196 u197 u198 u199 u200 u201 u202 u203 u204 u205 u206 u207 u208 u209 u210 u211 u212 u213 u214 u215 u216 u217 u218 u219 u220 u221 u222 u223 u224 u225 u226 u227 u228 u229 u230 u231 u232 u233 u234 u235 u236 u237 u238 u239 u240 u241 u242 u243 u244 u245 u246 u247 u248 u249 u250 u251 u252 u253 u254 u255 u256 u257 u258 u259 u260 u261 u262 u263 u264 u265 u266 u267 u268 u269 u270 u271 u272 u273 u274 u275 u276 u277 u278 u279 u280 u281 u282 u283 : Value}
    (hround : ∀ (L' : List Half) (x' y' : Int) (S' : List Sight) (ca' : Option Addr) (cn' cc' : Nat) (v' : Value) (W' : World), TSt w pa (i + 1) (i + 1) L' x' y' S' ca' cn' cc' v' W' → ∀ {v17 v18 v19 v20 v21 v22 v23 v24 v25 v26 v27 v28 v29 v30 v31 v32 v77 v78 v79 v80 v81 v82 v83 v84 v85 v86 v87 v88 v89 v90 v91 v92 v93 v94 v95 v96 v97 v98 v99 v100 v101 v102 v103 v104 v105 v106 v107 v108 v109 v110 v111 v112 v113 v114 v115 v116 v117 v118 v119 v120 v121 v122 v123 v124 v125 v126 v127 v128 v129 v130 v131 v132 v133 v134 v135 v136 v137 v138 v139 v140 v141 v142 v143 v144 v145 v146 v147 v148 v149 v150 v151 v152 v153 v154 v155 v156 v157 v158 v159 v160 v161 v162 v163 v164 v165 v166 v167 v168 v169 v170 v171 v172 v173 v174 v175 v176 v177 v178 v179 v180 v181 v182 v183 v184 v185 v186 v187 v188 v189 v190 v191 v192 v193 v194 v195 v196 v197 v198 v199 v200 v201 v202 v203 v204 v205 v206 v207 v208 v209 v210 v211 v212 v213 v214 v215 v216 v217 v218 v219 v220 v221 v222 v223 v224 v225 v226 v227 v228 v229 v230 v231 v232 v233 v234 v235 v236 v237 v238 v239 v240 v241 v242 v243 v244 v245 v246 v247 v248 v249 v250 v251 v252 v253 v254 v255 v256 v257 v258 v259 v260 v261 v262 v263 v264 v265 v266 v267 v268 v269 v270 v271 v272 v273 v274 v275 v276 v277 v278 v279 v280 v281 v282 : Value},
      Q .normal ⟨#[u0, .int .i64 x', .int .i64 y', .slice la ln lc, .slice ta tn tc, .slice ya yn yc, .int .i64 far, .pointer (some ⟨pa, 0, none⟩), u8, u9, u10, u11, u12, u13, u14, .bool true, v', v17, v18, v19, v20, v21, v22, v23, v24, v25, v26, v27, v28, v29, v30, v31, v32, u33, u34, u35, u36, u37, u38, u39, u40, u41, u42, u43, u44, u45, u46, u47, u48, u49, u50, u51, u52, u53, u54, u55, u56, u57, u58, u59, u60, u61, u62, u63, u64, u65, u66, u67, u68, u69, u70, u71, u72, u73, u74, u75, u76, v77, v78, v79, v80, v81, v82, v83, v84, v85, v86, v87, v88, v89, v90, v91, v92, v93, v94, v95, v96, v97, v98, v99, v100, v101, v102, v103, v104, v105, v106, v107, v108, v109, v110, v111, v112, v113, v114, v115, v116, v117, v118, v119, v120, v121, v122, v123, v124, v125, v126, v127, v128, v129, v130, v131, v132, v133, v134, v135, v136, v137, v138, v139, v140, v141, v142, v143, v144, v145, v146, v147, v148, v149, v150, v151, v152, v153, v154, v155, v156, v157, v158, v159, v160, v161, v162, v163, v164, v165, v166, v167, v168, v169, v170, v171, v172, v173, v174, v175, v176, v177, v178, v179, v180, v181, v182, v183, v184, v185, v186, v187, v188, v189, v190, v191, v192, v193, v194, v195, v196, v197, v198, v199, v200, v201, v202, v203, v204, v205, v206, v207, v208, v209, v210, v211, v212, v213, v214, v215, v216, v217, v218, v219, v220, v221, v222, v223, v224, v225, v226, v227, v228, v229, v230, v231, v232, v233, v234, v235, v236, v237, v238, v239, v240, v241, v242, v243, v244, v245, v246, v247, v248, v249, v250, v251, v252, v253, v254, v255, v256, v257, v258, v259, v260, v261, v262, v263, v264, v265, v266, v267, v268, v269, v270, v271, v272, v273, v274, v275, v276, v277, v278, v279, v280, v281, v282, u283], []⟩ W')
    (hret : ∀ (a' : Act) (w' : World), a'.defers = [] → a'.tmps.getD 14 undef = .bool true → Ext w w' → Q .ret a' w') :
    (restFrom Try.f7 30).wp Try.prog Q
      ⟨#[u0, .int .i64 x, .int .i64 y, .slice la ln lc, .slice ta tn tc, .slice ya yn yc, .int .i64 far, .pointer (some ⟨pa, 0, none⟩), u8, u9, u10, u11, u12, u13, u14, .bool true, v, .int .i64 i, u18, u19, u20, u21, u22, u23, u24, u25, u26, u27, u28, u29, u30, u31, u32, u33, u34, u35, u36, u37, u38, u39, u40, u41, u42, u43, u44, u45, u46, u47, u48, u49, u50, u51, u52, u53, u54, u55, u56, u57, u58, u59, u60, u61, u62, u63, u64, u65, u66, u67, u68, u69, u70, u71, u72, u73, u74, u75, u76, u77, u78, u79, u80, u81, u82, u83, u84, u85, u86, u87, u88, u89, u90, u91, u92, u93, u94, u95, u96, u97, u98, u99, u100, u101, u102, u103, u104, u105, u106, u107, u108, u109, u110, u111, u112, u113, u114, u115, u116, u117, u118, u119, u120, u121, u122, u123, u124, u125, u126, u127, u128, u129, u130, u131, u132, u133, u134, u135, u136, u137, u138, u139, u140, u141, u142, u143, u144, u145, u146, u147, u148, u149, u150, u151, u152, u153, u154, u155, u156, u157, u158, u159, u160, u161, u162, u163, u164, u165, u166, u167, u168, u169, u170, u171, u172, u173, u174, u175, u176, u177, u178, u179, u180, u181, u182, u183, u184, u185, u186, u187, u188, u189, u190, u191, u192, u193, u194, u195, u196, u197, u198, u199, u200, u201, u202, u203, u204, u205, u206, u207, u208, u209, u210, u211, u212, u213, u214, u215, u216, u217, u218, u219, u220, u221, u222, u223, u224, u225, u226, u227, u228, u229, u230, u231, u232, u233, u234, u235, u236, u237, u238, u239, u240, u241, u242, u243, u244, u245, u246, u247, u248, u249, u250, u251, u252, u253, u254, u255, u256, u257, u258, u259, u260, u261, u262, u263, u264, u265, u266, u267, u268, u269, u270, u271, u272, u273, u274, u275, u276, u277, u278, u279, u280, u281, u282, u283], []⟩ wr := by
  have hx := st.ext
  have hbox := st.box
  dsimp only at hround
  have HR := Lib.hid hround
  have HRet := Lib.hid hret
  have St := Lib.hid st
  clear hround hret st
  have Hx := Lib.hid hx
  have Hbox := Lib.hid hbox
  clear hx hbox
  conv => arg 2; whnf
  by_cases hlt : i < tn
  · have hltB : decide ((i : Int) < (tn : Int)) = true := by simp; omega
    have hltN : decide (i < tn) = true := decide_eq_true hlt
    obtain ⟨tb, tof, t, rfl, hti, htb, c0, c1, c2, c3, c4, c5⟩ := (hts.ext Hx.out).get i hlt
    have htk := fun W => rtrek_any t W
    cases hto : trekOk t with
    | false =>
      rw [hto] at htk
      obtain ⟨⟨d0, d1⟩, ⟨e0, e1⟩, ⟨n0, n1⟩⟩ := t
      unfold Trek.val at htk
      simp only at htk c0 c1 c2 c3 c4 c5
      have Htk := Lib.hid htk
      clear htk
      clear hts hy hdr hti hto
      go_wp2_with (go_at_call 45; refine (Htk.out _).mono ?_; rintro e w1 ⟨rfl, hx1⟩)
      exact HR.out _ _ _ _ _ _ _ _ _ (St.out.ext' hx1).next
    | true =>
      rw [hto] at htk
      obtain ⟨t1, t2, t3⟩ := trek_of hto
      have hd0 := hdr (3 * i)
      have hd1 := hdr (3 * i + 1)
      have hd2 := hdr (3 * i + 2)
      have hat0 := fun W (hW : Ext wr W) => atLit_any ya yn yc by' (3 * (i : Int)) (3 * i) (by omega) W (hy.ext (Hx.out.trans hW)) hyn (by omega)
      have hat1 := fun W (hW : Ext wr W) => atLit_any ya yn yc by' (3 * (i : Int) + 1) (3 * i + 1) (by omega) W (hy.ext (Hx.out.trans hW)) hyn (by omega)
      have hat2 := fun W (hW : Ext wr W) => atLit_any ya yn yc by' (3 * (i : Int) + 2) (3 * i + 2) (by omega) W (hy.ext (Hx.out.trans hW)) hyn (by omega)
      generalize drawAt by' (3 * i) = k0 at *
      generalize drawAt by' (3 * i + 1) = k1 at *
      generalize drawAt by' (3 * i + 2) = k2 at *
      obtain ⟨D, hD⟩ : ∃ s, pickOf t.d k0 = s := ⟨_, rfl⟩
      obtain ⟨E, hE⟩ : ∃ s, pickOf t.e k1 = s := ⟨_, rfl⟩
      obtain ⟨N, hN⟩ : ∃ s, pickOf t.n k2 = s := ⟨_, rfl⟩
      have iD := pick_in t1.2.1 hd0.1
      have iE := pick_in t2.2.1 hd1.1
      have iN := pick_in t3.2.1 hd2.1
      rw [hD] at iD
      rw [hE] at iE
      rw [hN] at iN
      have hpD := fun W => pickK_any hD W (by omega) (by omega) (by omega) hd0
      have hpE := fun W => pickK_any hE W (by omega) (by omega) (by omega) hd1
      have hpN := fun W => pickK_any hN W (by omega) (by omega) (by omega) hd2
      have hma := fun (A : List Half) (d : Int) (n : Nat) (h : marchOf L t = (A, d)) (hn : A.length = n) W' (hW : Ext wr W') => marchEither_any h hn ca cc W' (St.out.hal.ext hW) St.out.cap.1 St.out.cap.2
      have hmt := march_true St.out.area St.out.lies hto iD.1 iD.2 iE.1 iE.2 iN.1 iN.2
      obtain ⟨A, d, hA, hcase⟩ : ∃ A d, marchOf L t = (A, d) ∧ (d = 9 ∨ d = 0 ∧ AreaOk A ∧ In A (pt (x + D * E) (y + D * N))) := by
        rcases hmt with ⟨h1, h2, h3⟩ | h
        · exact ⟨_, _, h1, .inr ⟨rfl, h2, h3⟩⟩
        · exact ⟨_, _, h, .inl rfl⟩
      obtain ⟨n, hn⟩ : ∃ n, A.length = n := ⟨_, rfl⟩
      have hm := hma A d n hA hn
      unfold EitherPost at hm
      obtain ⟨⟨d0, d1⟩, ⟨e0, e1⟩, ⟨n0, n1⟩⟩ := t
      unfold Trek.val at htk hm
      simp only at htk hm c0 c1 c2 c3 c4 c5 hpD hpE hpN t1 t2 t3 iD iE iN
      have m1 := mul_le (A := 60) (B := 100000) (show -60 ≤ D by omega) (show D ≤ 60 by omega) (show -100000 ≤ E by omega) (show E ≤ 100000 by omega)
      have m2 := mul_le (A := 60) (B := 100000) (show -60 ≤ D by omega) (show D ≤ 60 by omega) (show -100000 ≤ N by omega) (show N ≤ 100000 by omega)
      simp only [Int.reduceMul, Int.reduceNeg] at m1 m2
      obtain ⟨P1, p1⟩ : ∃ P, D * E = P := ⟨_, rfl⟩
      obtain ⟨P2, p2⟩ : ∃ P, D * N = P := ⟨_, rfl⟩
      rw [p1] at m1 hcase
      rw [p2] at m2 hcase
      obtain ⟨xb0, xb1⟩ := St.out.xb
      obtain ⟨yb0, yb1⟩ := St.out.yb
      have xq : -20000000000 ≤ x ∧ x ≤ 20000000000 := by omega
      have yq : -20000000000 ≤ y ∧ y ≤ 20000000000 := by omega
      have HC := Lib.hid hcase
      have HI := Lib.hid hi
      have Htk := Lib.hid htk
      have Hm := Lib.hid hm
      have Hat0 := Lib.hid hat0
      have Hat1 := Lib.hid hat1
      have Hat2 := Lib.hid hat2
      have HpD := Lib.hid hpD
      have HpE := Lib.hid hpE
      have HpN := Lib.hid hpN
      clear htk hm hat0 hat1 hat2 hpD hpE hpN
      clear hts hy hdr hti hto hyn htn hmt hma hcase hA hD hE hN hd0 hd1 hd2 t1 t2 t3 iD iE iN xb0 xb1 yb0 yb1 hi
      go_upto_region 32 with (go_at_call 45; refine (Htk.out _).mono ?_; rintro e w1 ⟨rfl, hx1⟩; obtain ⟨y0, y1⟩ := hx1.facts)
      have hx2 := hx1.alloc (.cells #[.int .i64 d0, .int .i64 d1, .int .i64 e0, .int .i64 e1, .int .i64 n0, .int .i64 n1] 63)
      have hb2 := heap_alloc_new w1 (.cells #[.int .i64 d0, .int .i64 d1, .int .i64 e0, .int .i64 e1, .int .i64 n0, .int .i64 n1] 63)
      generalize w1.alloc (.cells #[.int .i64 d0, .int .i64 d1, .int .i64 e0, .int .i64 e1, .int .i64 n0, .int .i64 n1] 63) = W2 at *
      generalize w1.heap.size = i29 at *
      obtain ⟨z2, _⟩ := (Ext.refl W2).box (hx2.heap Hbox.out)
      obtain ⟨k2', _⟩ := (Ext.refl W2).box hb2
      have Hx2 := Lib.hid hx2
      have Hb2 := Lib.hid hb2
      clear hx2 hb2
      clear y0 y1 hx1 c0 c1 c2 c3 c4 c5 htb hltB hltN hlt Htk
      rcases HC.out with rfl | ⟨rfl, hA, hin⟩
      · clear HC Hat0 Hat1 Hat2 HpD HpE HpN p1 p2 m1 m2
        go_wp2_with (go_at_call 30; refine (Hm.out _ Hx2.out).mono ?_; rintro e w3 ⟨b3, c3, rfl, s3, t3, hx3, hH3, _⟩)
        exact HRet.out _ _ rfl rfl (Hx.out.trans ((Hx2.out.trans hx3).alloc _))
      · have HF := Lib.hid (And.intro hA hin)
        clear HC hA hin
        go_upto_region 35 with (go_at_call 30; refine (Hm.out _ Hx2.out).mono ?_; rintro e w3 ⟨b3, c3, rfl, s3, t3, hx3, hH3, hf3⟩)
        have hx4 := (Hx2.out.trans hx3).alloc (.cells #[.slice b3 n c3] 24)
        have hb4 := heap_alloc_new w3 (.cells #[.slice b3 n c3] 24)
        have hH4 := hH3.ext ((Ext.refl w3).alloc (.cells #[.slice b3 n c3] 24))
        have hb5 := (hx3.alloc (.cells #[.slice b3 n c3] 24)).heap Hb2.out
        have hf4 := hf3.mono Hx2.out.size
        have ST := Lib.hid (And.intro s3 t3)
        generalize w3.alloc (.cells #[.slice b3 n c3] 24) = W4 at *
        generalize w3.heap.size = i30 at *
        have Hx4 := Lib.hid hx4
        have Hb4 := Lib.hid hb4
        have HH4 := Lib.hid hH4
        have Hb5 := Lib.hid hb5
        have Hf4 := Lib.hid hf4
        clear hx4 hb4 hH4 hb5 hf4
        clear hx3 hH3 hf3 s3 t3 z2 k2' Hm Hx2 Hb2
        refine wp_region_plan (.take [0, 1, 2, 3, 4] (.call 5 (.call 6 (.fin (.one 7 .done))))) [7] (Ext W4) _ (by kernel_rfl) (by kernel_rfl) rfl (EC.ext W4) ((Ext.refl _).drew) ?_
        simp only [planOf, treeOf, oneOp, twoOp, opsOf, consOp, callOC, oneOC, twoOC, List.getElem?_toArray, List.getElem?_cons_succ, List.getElem?_cons_zero]
        intro ι _ f hf
        have f0 := fun q => ((hf q).box Hb5.out).1
        have hi := HI.out
        clear hf
        repeat (go_big_quiet_step (fail))
        refine wpQuiet_nil ?_
        clear f0 hi
        refine wpOC_call (args := #[.slice ya yn yc, .int .i64 (3 * (i : Int))]) (v := .int .u32 k0) rfl rfl (enters_of Try.func44 (by kernel_rfl) rfl) (by kernel_rfl) (fun V hV => Hat0.out V (Hx4.out.trans hV)) ?_
        simp only [Act.put, List.setIfInBounds_toArray, List.set_cons_succ, List.set_cons_zero]
        refine wpOC_call (args := #[.agg #[.int .i64 d0, .int .i64 d1], .int .u32 k0]) (v := .int .i64 D) rfl rfl (enters_of Try.func46 (by kernel_rfl) rfl) (by kernel_rfl) (fun V hV => HpD.out V) ?_
        simp only [Act.put, List.setIfInBounds_toArray, List.set_cons_succ, List.set_cons_zero]
        intro W5 hx5
        refine wpOT_one ?_
        go_wp2_with fail
        refine wpOT_done ?_
        go_upto_region 36 with fail
        have hx5a := hx5
        clear hx5
        have hb5 := hx5a.heap Hb5.out
        refine wp_region_plan (.take [0, 1, 2, 3, 4, 5, 6, 7] (.call 8 (.call 9 (.free [10, 11] (.fin (.one 12 .done)))))) [12] (Ext W5) _ (by kernel_rfl) (by kernel_rfl) rfl (EC.ext W5) ((Ext.refl _).drew) ?_
        simp only [planOf, treeOf, oneOp, twoOp, opsOf, consOp, callOC, oneOC, twoOC, List.getElem?_toArray, List.getElem?_cons_succ, List.getElem?_cons_zero]
        intro ι _ f hf
        have f0 := fun q => ((hf q).box hb5).1
        have hi := HI.out
        clear hf
        repeat (go_big_quiet_step (fail))
        refine wpQuiet_nil ?_
        clear f0 hi hb5
        refine wpOC_call (args := #[.slice ya yn yc, .int .i64 (3 * (i : Int) + 1)]) (v := .int .u32 k1) rfl rfl (enters_of Try.func44 (by kernel_rfl) rfl) (by kernel_rfl) (fun V hV => Hat1.out V (Hx4.out.trans (hx5a.trans hV))) ?_
        simp only [Act.put, List.setIfInBounds_toArray, List.set_cons_succ, List.set_cons_zero]
        refine wpOC_call (args := #[.agg #[.int .i64 e0, .int .i64 e1], .int .u32 k1]) (v := .int .i64 E) rfl rfl (enters_of Try.func46 (by kernel_rfl) rfl) (by kernel_rfl) (fun V hV => HpE.out V) ?_
        simp only [Act.put, List.setIfInBounds_toArray, List.set_cons_succ, List.set_cons_zero]
        refine wpOC_free ?_
        repeat (go_big_quiet_step (fail))
        refine wpQuiet_nil ?_
        intro W6 hx6
        have hx6a := hx5a.trans hx6
        refine wpOT_one ?_
        go_wp2_with fail
        refine wpOT_done ?_
        clear hx6 hx5a
        go_upto_region 37 with fail
        have hb6 := hx6a.heap Hb5.out
        refine wp_region_plan (.take [0, 1, 2, 3, 4, 5, 6, 7] (.call 8 (.call 9 (.free [10, 11] (.fin (.one 12 .done)))))) [12] (Ext W6) _ (by kernel_rfl) (by kernel_rfl) rfl (EC.ext W6) ((Ext.refl _).drew) ?_
        simp only [planOf, treeOf, oneOp, twoOp, opsOf, consOp, callOC, oneOC, twoOC, List.getElem?_toArray, List.getElem?_cons_succ, List.getElem?_cons_zero]
        intro ι _ f hf
        have f0 := fun q => ((hf q).box hb6).1
        have hi := HI.out
        clear hf
        repeat (go_big_quiet_step (fail))
        refine wpQuiet_nil ?_
        clear f0 hi hb6
        refine wpOC_call (args := #[.slice ya yn yc, .int .i64 (3 * (i : Int) + 2)]) (v := .int .u32 k2) rfl rfl (enters_of Try.func44 (by kernel_rfl) rfl) (by kernel_rfl) (fun V hV => Hat2.out V (Hx4.out.trans (hx6a.trans hV))) ?_
        simp only [Act.put, List.setIfInBounds_toArray, List.set_cons_succ, List.set_cons_zero]
        refine wpOC_call (args := #[.agg #[.int .i64 n0, .int .i64 n1], .int .u32 k2]) (v := .int .i64 N) rfl rfl (enters_of Try.func46 (by kernel_rfl) rfl) (by kernel_rfl) (fun V hV => HpN.out V) ?_
        simp only [Act.put, List.setIfInBounds_toArray, List.set_cons_succ, List.set_cons_zero]
        refine wpOC_free ?_
        repeat (go_big_quiet_step (fail))
        refine wpQuiet_nil ?_
        intro W7 hx7
        have hx7a := hx6a.trans hx7
        refine wpOT_one ?_
        go_wp2_with fail
        refine wpOT_done ?_
        clear hx7 hx6a
        go_upto_region 38 with fail
        obtain ⟨hA, hin⟩ := HF.out
        have st7 := St.out.ext' (Hx4.out.trans hx7a)
        have hpa := heap_lt St.out.box
        have st8 := st7.put (i' := i + 1) (j' := i + 1) (T := []) (u := .slice none 0 0) hA hin (by have := St.out.xb; omega) (by have := St.out.yb; omega) (by simp) (by simp) ST.out (HH4.out.ext hx7a) (Owns.nil _ _ _ _) (fun X hX => ⟨by have := Hf4.out X hX; omega, by simp [Value.ownBlock]⟩)
        have hxy : (-20000000000 ≤ x + P1 ∧ x + P1 ≤ 20000000000) ∧ (-20000000000 ≤ y + P2 ∧ y + P2 ≤ 20000000000) := by
          have h1 := St.out.xb
          have h2 := St.out.yb
          have h3 := HI.out
          omega
        obtain ⟨z7, _⟩ := (Ext.refl W7).box (hx7a.heap Hb4.out)
        obtain ⟨y7, y7'⟩ := (Ext.refl W7).box st7.box
        have l7 := heap_lt st7.box
        have h41 := inPt_any b3 n c3 A (x + P1) (y + P2) (W7.setCell ⟨pa, 0, none⟩ (.slice b3 n c3)) st8.hal (by have := hA.len; omega) hA.each hxy.1.1 hxy.1.2 hxy.2.1 hxy.2.2
        rw [inB2_iff.2 hin] at h41
        have St8 := Lib.hid st8
        have H41 := Lib.hid h41
        clear st8 h41
        clear st7 hA hin HF hpa hxy hx7a Hat0 Hat1 Hat2 HpD HpE HpN hn
        go_upto_region 39 with fail
        generalize W7.setCell ⟨pa, 0, none⟩ (.slice b3 n c3) = W8 at *
        obtain ⟨z8, _⟩ := (Ext.refl W8).box St8.out.box
        clear z7 y7 y7' l7
        generalize x + P1 = x' at *
        generalize y + P2 = y' at *
        go_wp2_with (go_at_call 41; refine H41.out.mono ?_; rintro e w9 ⟨rfl, hx9⟩)
        exact HR.out _ _ _ _ _ _ _ _ _ (St8.out.ext' hx9)
  · have hltB : decide ((i : Int) < (tn : Int)) = false := by simp; omega
    have hltN : decide (i < tn) = false := decide_eq_false hlt
    clear hlt hts hy hdr
    go_wp2_with fail
    exact HR.out _ _ _ _ _ _ _ _ _ St.out.next
end Go.Proofs.Ytacdndehlkaaeaa

/- The law GuideTrue: what is told in a round. -/
namespace Go.Proofs.Ytacdndehlkaaeaa
open Go.RowKit
set_option linter.unusedVariables false
set_option linter.unusedSimpArgs false
set_option maxRecDepth 100000 in
set_option maxHeartbeats 8000000 in
theorem trueRest {Q : Exit → Act → World → Prop} {w wr : World} {pa i : Nat} {L : List Half} {x y far : Int} {S : List Sight} {ca la ta ya : Option Addr} {cn cc ln lc tn tc yn yc : Nat} {v : Value} {ts : List Trek} {by' : List Int}
    (st : TSt w pa i (i + 1) L x y S ca cn cc v wr) (hi : i < 60) (hfar : inB far 0 10000000 = true) (hts : TreksAt w ta tn ts) (htn : tn ≤ 60) (hy : IntsAt .u32 w ya yn by') (hyn : yn ≤ maxLen) (hdr : drawOk by') {u0 u8 u9 u10 u11 u12 u13 u14 u18 u19 u20 u21 u22 u23 u24 u25 u26 u27 u28 u29 u30 u31 u32 u33 u34 u35 u36 u37 u38 u39 u40 u41 u42 u43 u44 u45 u46 u47 u48 u49 u50 u51 u52 u53 u54 u55 u56 u57 u58 u59 u60 u61 u62 u63 u64 u65 u66 u67 u68 u69 u70 u71 u72 u73 u74 u75 u76 u77 u78 u79 u80 u81 u82 u83 u84 u85 u86 u87 u88 u89 u90 u91 u92 u93 u94 u95 u96 u97 u98 u99 u100 u101 u102 u103 u104 u105 u106 u107 u108 u109 u110 u111 u112 u113 u114 u115 u116 u117 u118 u119 u120 u121 u122 u123 u124 u125 u126 u127 u128 u129 u130 u131 u132 u133 u134 u135 u136 u137 u138 u139 u140 u141 u142 u143 u144 u145 u146 u147 u148 u149 u150 u151 u152 u153 u154 u155 u156 u157 u158 u159 u160 u161 u162 u163 u164 u165 u166 u167 u168 u169 u170 u171 u172 u173 u174 u175 u176 u177 u178 u179 u180 u181 u182 u183 u184 u185 u186 u187 u188 u189 u190 u191 u192 u193 u194 u195 u196 u197 u198 u199 u200 u201 u202 u203 u204 u205 u206 u207 u208 u209 u210 u211 u212 u213 u214 u215 u216 u217 u218 u219 u220 u221 u222 u223 u224 u225 u226 u227 u228 u229 u230 u231 u232 u233 u234 u235 u236 u237 u238 u239 u240 u241 u242 u243 u244 u245 u246 u247 u248 u249 u250 u251 u252 u253 u254 u255 u256 u257 u258 u259 u260 u261 u262 u263 u264 u265 u266 u267 u268 u269 u270 u271 u272 u273 u274 u275 u276 u277 u278 u279 u280 u281 u282 u283 : Value}
    (hround : ∀ (L' : List Half) (x' y' : Int) (S' : List Sight) (ca' : Option Addr) (cn' cc' : Nat) (v' : Value) (W' : World), TSt w pa (i + 1) (i + 1) L' x' y' S' ca' cn' cc' v' W' → ∀ {v17 v18 v19 v20 v21 v22 v23 v24 v25 v26 v27 v28 v29 v30 v31 v32 v77 v78 v79 v80 v81 v82 v83 v84 v85 v86 v87 v88 v89 v90 v91 v92 v93 v94 v95 v96 v97 v98 v99 v100 v101 v102 v103 v104 v105 v106 v107 v108 v109 v110 v111 v112 v113 v114 v115 v116 v117 v118 v119 v120 v121 v122 v123 v124 v125 v126 v127 v128 v129 v130 v131 v132 v133 v134 v135 v136 v137 v138 v139 v140 v141 v142 v143 v144 v145 v146 v147 v148 v149 v150 v151 v152 v153 v154 v155 v156 v157 v158 v159 v160 v161 v162 v163 v164 v165 v166 v167 v168 v169 v170 v171 v172 v173 v174 v175 v176 v177 v178 v179 v180 v181 v182 v183 v184 v185 v186 v187 v188 v189 v190 v191 v192 v193 v194 v195 v196 v197 v198 v199 v200 v201 v202 v203 v204 v205 v206 v207 v208 v209 v210 v211 v212 v213 v214 v215 v216 v217 v218 v219 v220 v221 v222 v223 v224 v225 v226 v227 v228 v229 v230 v231 v232 v233 v234 v235 v236 v237 v238 v239 v240 v241 v242 v243 v244 v245 v246 v247 v248 v249 v250 v251 v252 v253 v254 v255 v256 v257 v258 v259 v260 v261 v262 v263 v264 v265 v266 v267 v268 v269 v270 v271 v272 v273 v274 v275 v276 v277 v278 v279 v280 v281 v282 : Value},
      Q .normal ⟨#[u0, .int .i64 x', .int .i64 y', .slice la ln lc, .slice ta tn tc, .slice ya yn yc, .int .i64 far, .pointer (some ⟨pa, 0, none⟩), u8, u9, u10, u11, u12, u13, u14, .bool true, v', v17, v18, v19, v20, v21, v22, v23, v24, v25, v26, v27, v28, v29, v30, v31, v32, u33, u34, u35, u36, u37, u38, u39, u40, u41, u42, u43, u44, u45, u46, u47, u48, u49, u50, u51, u52, u53, u54, u55, u56, u57, u58, u59, u60, u61, u62, u63, u64, u65, u66, u67, u68, u69, u70, u71, u72, u73, u74, u75, u76, v77, v78, v79, v80, v81, v82, v83, v84, v85, v86, v87, v88, v89, v90, v91, v92, v93, v94, v95, v96, v97, v98, v99, v100, v101, v102, v103, v104, v105, v106, v107, v108, v109, v110, v111, v112, v113, v114, v115, v116, v117, v118, v119, v120, v121, v122, v123, v124, v125, v126, v127, v128, v129, v130, v131, v132, v133, v134, v135, v136, v137, v138, v139, v140, v141, v142, v143, v144, v145, v146, v147, v148, v149, v150, v151, v152, v153, v154, v155, v156, v157, v158, v159, v160, v161, v162, v163, v164, v165, v166, v167, v168, v169, v170, v171, v172, v173, v174, v175, v176, v177, v178, v179, v180, v181, v182, v183, v184, v185, v186, v187, v188, v189, v190, v191, v192, v193, v194, v195, v196, v197, v198, v199, v200, v201, v202, v203, v204, v205, v206, v207, v208, v209, v210, v211, v212, v213, v214, v215, v216, v217, v218, v219, v220, v221, v222, v223, v224, v225, v226, v227, v228, v229, v230, v231, v232, v233, v234, v235, v236, v237, v238, v239, v240, v241, v242, v243, v244, v245, v246, v247, v248, v249, v250, v251, v252, v253, v254, v255, v256, v257, v258, v259, v260, v261, v262, v263, v264, v265, v266, v267, v268, v269, v270, v271, v272, v273, v274, v275, v276, v277, v278, v279, v280, v281, v282, u283], []⟩ W')
    (hret : ∀ (a' : Act) (w' : World), a'.defers = [] → a'.tmps.getD 14 undef = .bool true → Ext w w' → Q .ret a' w') :
    (restFrom Try.f7 17).wp Try.prog Q
      ⟨#[u0, .int .i64 x, .int .i64 y, .slice la ln lc, .slice ta tn tc, .slice ya yn yc, .int .i64 far, .pointer (some ⟨pa, 0, none⟩), u8, u9, u10, u11, u12, u13, u14, .bool true, v, .int .i64 i, u18, u19, u20, u21, u22, u23, u24, u25, u26, u27, u28, u29, u30, u31, u32, u33, u34, u35, u36, u37, u38, u39, u40, u41, u42, u43, u44, u45, u46, u47, u48, u49, u50, u51, u52, u53, u54, u55, u56, u57, u58, u59, u60, u61, u62, u63, u64, u65, u66, u67, u68, u69, u70, u71, u72, u73, u74, u75, u76, u77, u78, u79, u80, u81, u82, u83, u84, u85, u86, u87, u88, u89, u90, u91, u92, u93, u94, u95, u96, u97, u98, u99, u100, u101, u102, u103, u104, u105, u106, u107, u108, u109, u110, u111, u112, u113, u114, u115, u116, u117, u118, u119, u120, u121, u122, u123, u124, u125, u126, u127, u128, u129, u130, u131, u132, u133, u134, u135, u136, u137, u138, u139, u140, u141, u142, u143, u144, u145, u146, u147, u148, u149, u150, u151, u152, u153, u154, u155, u156, u157, u158, u159, u160, u161, u162, u163, u164, u165, u166, u167, u168, u169, u170, u171, u172, u173, u174, u175, u176, u177, u178, u179, u180, u181, u182, u183, u184, u185, u186, u187, u188, u189, u190, u191, u192, u193, u194, u195, u196, u197, u198, u199, u200, u201, u202, u203, u204, u205, u206, u207, u208, u209, u210, u211, u212, u213, u214, u215, u216, u217, u218, u219, u220, u221, u222, u223, u224, u225, u226, u227, u228, u229, u230, u231, u232, u233, u234, u235, u236, u237, u238, u239, u240, u241, u242, u243, u244, u245, u246, u247, u248, u249, u250, u251, u252, u253, u254, u255, u256, u257, u258, u259, u260, u261, u262, u263, u264, u265, u266, u267, u268, u269, u270, u271, u272, u273, u274, u275, u276, u277, u278, u279, u280, u281, u282, u283], []⟩ wr := by
  have hxy : (-20000000000 ≤ x ∧ x ≤ 20000000000) ∧ (-20000000000 ≤ y ∧ y ≤ 20000000000) := by
    have h1 := st.xb
    have h2 := st.yb
    omega
  have h41 := fun W (hW : Ext wr W) => inPt_any ca cn cc L x y W (st.hal.ext hW) (by have := st.area.len; have := st.hal.1; omega) st.area.each hxy.1.1 hxy.1.2 hxy.2.1 hxy.2.2
  rw [inB2_iff.2 st.lies] at h41
  obtain ⟨e0, e1, n0, n1, hbo, b0, b1, b2, b3⟩ := bounds_true st.area st.lies
  have hbd := fun W (hW : Ext wr W) => boundsK_any hbo ca cc W (st.hal.ext hW) st.cap.1 st.cap.2
  have hat := fun W (hW : Ext wr W) => atLit_any ya yn yc by' (i : Int) i rfl W (hy.ext (st.ext.trans hW)) hyn (by omega)
  have hd := hdr i
  generalize drawAt by' i = k0 at *
  obtain ⟨r, hr⟩ : ∃ r, k0.tmod 100 = r := ⟨_, rfl⟩
  have hr0 : 0 ≤ r ∧ r < 100 := by
    rw [← hr, Int.tmod_eq_emod_of_nonneg hd.1]
    omega
  obtain ⟨m1, hm1⟩ : ∃ m, (if 10000000 < x + r then 10000000 else x + r) = m := ⟨_, rfl⟩
  obtain ⟨px, hpx⟩ : ∃ m, (if m1 < -10000000 then -10000000 else m1) = m := ⟨_, rfl⟩
  obtain ⟨m2, hm2⟩ : ∃ m, (if 10000000 < y then 10000000 else y) = m := ⟨_, rfl⟩
  obtain ⟨py, hpy⟩ : ∃ m, (if m2 < -10000000 then -10000000 else m2) = m := ⟨_, rfl⟩
  have hpp : (-10000000 ≤ px ∧ px ≤ 10000000) ∧ (-10000000 ≤ py ∧ py ≤ 10000000) := by
    rw [← hpx, ← hpy, ← hm1, ← hm2]
    constructor
    · split <;> split <;> omega
    · split <;> split <;> omega
  have hok : (placeOk px && placeOk py && inB far 0 10000000) = true := by
    rw [hfar]
    simp only [placeOk, inB, Bool.and_true, Bool.and_eq_true, decide_eq_true_eq]
    omega
  obtain ⟨k, hk, hcase⟩ := near_true (px := px) (py := py) (far := far) st.area st.lies hok
  have hnr := fun W (hW : Ext wr W) => exNear_any hk ca cc W (st.hal.ext hW) st.cap.1 st.cap.2
  have hmx := fun W => run_max4 (px - x) (x - px) (py - y) (y - py) W
  obtain ⟨MX, hMX⟩ : ∃ M, max (max (px - x) (x - px)) (max (py - y) (y - py)) = M := ⟨_, rfl⟩
  rw [hMX] at hmx hcase
  obtain ⟨sa, sc, hv, _, _, _, hS⟩ := sights_of_owns st.own
  subst hv
  have hcl := fun W (hW : Ext wr W) => clashTrue_any st.area st.lies st.len.2 st.see ca cc sa S.length sc W (st.hal.ext hW) st.cap.1 st.cap.2 (hS.ext hW)
  have htail := fun W' (hW : Ext wr W') => @trueTrek Q w W' pa i L x y far S ca la ta ya cn cc ln lc tn tc yn yc (.slice sa S.length sc) ts by' (st.ext' hW) hi hts htn hy hyn hdr
  dsimp only at hround htail
  have HT := Lib.hid htail
  have HR := Lib.hid hround
  have HRet := Lib.hid hret
  have St := Lib.hid st
  have HC := Lib.hid hcase
  have t0 : decide (x < e0) = false := decide_eq_false (by omega)
  have t1 : decide (e1 < x) = false := decide_eq_false (by omega)
  have t2 : decide (y < n0) = false := decide_eq_false (by omega)
  have t3 : decide (n1 < y) = false := decide_eq_false (by omega)
  obtain ⟨z0, _⟩ := (Ext.refl wr).box st.box
  have H41 := Lib.hid h41
  have Hbd := Lib.hid hbd
  have Hat := Lib.hid hat
  have Hnr := Lib.hid hnr
  have Hcl := Lib.hid hcl
  clear h41 hbd hat hnr hcl
  clear hround hret st htail hbo hk hcase hS hts hy hdr hyn htn b0 b1 b2 b3 hMX hok
  conv => arg 2; whnf
  go_upto_region 20 with (first
    | (go_at_call 41; refine (H41.out _ (Ext.refl _)).mono ?_; rintro e w1 ⟨rfl, hx1⟩; obtain ⟨z1, _⟩ := (Ext.refl w1).box (hx1.heap St.out.box); clear z0)
    | (go_at_call 24; refine (Hbd.out _ hx1).mono ?_; rintro e w2 ⟨rfl, hx2⟩))
  have g4 := ((Ext.refl _).alloc (.cells #[.int .i64 n0, .int .i64 n1] 28)).heap (heap_alloc_new w2 (.cells #[.int .i64 e0, .int .i64 e1] 28))
  have g5 := alloc_at (w2.alloc (.cells #[.int .i64 e0, .int .i64 e1] 28)) (.cells #[.int .i64 n0, .int .i64 n1] 28) (w2.heap.size + 1) (by simp)
  have hx4 := ((hx1.trans hx2).alloc (.cells #[.int .i64 e0, .int .i64 e1] 28)).alloc (.cells #[.int .i64 n0, .int .i64 n1] 28)
  generalize (w2.alloc (.cells #[.int .i64 e0, .int .i64 e1] 28)).alloc (.cells #[.int .i64 n0, .int .i64 n1] 28) = W4 at *
  generalize w2.heap.size + 1 = i5 at *
  generalize w2.heap.size = i4 at *
  obtain ⟨z4, _⟩ := (Ext.refl W4).box g4
  obtain ⟨z5, _⟩ := (Ext.refl W4).box g5
  obtain ⟨z6, _⟩ := (Ext.refl W4).box (hx4.heap St.out.box)
  clear hx1 hx2 z1 g4 g5
  go_upto_region 22 with fail
  clear z4 z5
  go_upto_region 23 with (go_at_call 44; refine (Hat.out _ hx4).mono ?_; rintro e w5 ⟨rfl, hx5⟩; have hx45 := hx4.trans hx5; obtain ⟨z7, _⟩ := (Ext.refl w5).box (hx45.heap St.out.box); clear z6)
  clear hm1 hpx hm2 hpy hr hr0 t0 t1 t2 t3 hx4 hx5 hd
  obtain ⟨⟨q0, q1⟩, q2, q3⟩ := hpp
  obtain ⟨⟨q4, q5⟩, q6, q7⟩ := hxy
  rcases HC.out with ⟨rfl, hc⟩ | rfl | ⟨rfl, hc⟩
  · have hcB : decide (MX ≤ far) = false := decide_eq_false (by omega)
    clear HC hc
    go_upto_if 216 with (first
      | (go_at_call 26; refine (Hnr.out _ hx45).mono ?_; rintro e w6 ⟨rfl, hx6⟩; have hx46 := hx45.trans hx6; obtain ⟨z8, _⟩ := (Ext.refl w6).box (hx46.heap St.out.box); clear z7)
      | (go_at_call 18; refine (Hcl.out _ hx46).mono ?_; rintro e w7 ⟨b7, c7, rfl, hx7⟩; have hx47 := hx46.trans hx7))
    go_step
    go_step
    go_step
    go_step
    exact HT.out _ hx47 HR.out HRet.out
  · cases hcB : decide (MX ≤ far) with
    | true =>
      clear HC
      go_upto_if 216 with (first
        | (go_at_call 26; refine (Hnr.out _ hx45).mono ?_; rintro e w6 ⟨rfl, hx6⟩; have hx46 := hx45.trans hx6; obtain ⟨z8, _⟩ := (Ext.refl w6).box (hx46.heap St.out.box); clear z7)
        | (go_at_call 18; refine (Hcl.out _ hx46).mono ?_; rintro e w7 ⟨b7, c7, rfl, hx7⟩; have hx47 := hx46.trans hx7))
      go_step
      go_step
      go_step
      go_step
      exact HT.out _ hx47 HR.out HRet.out
    | false =>
      clear HC
      go_upto_if 216 with (first
        | (go_at_call 26; refine (Hnr.out _ hx45).mono ?_; rintro e w6 ⟨rfl, hx6⟩; have hx46 := hx45.trans hx6; obtain ⟨z8, _⟩ := (Ext.refl w6).box (hx46.heap St.out.box); clear z7)
        | (go_at_call 18; refine (Hcl.out _ hx46).mono ?_; rintro e w7 ⟨b7, c7, rfl, hx7⟩; have hx47 := hx46.trans hx7))
      go_step
      go_step
      go_step
      go_step
      exact HT.out _ hx47 HR.out HRet.out
  · have hcB : decide (MX ≤ far) = true := decide_eq_true hc
    clear HC hc
    go_upto_if 216 with (first
      | (go_at_call 26; refine (Hnr.out _ hx45).mono ?_; rintro e w6 ⟨rfl, hx6⟩; have hx46 := hx45.trans hx6; obtain ⟨z8, _⟩ := (Ext.refl w6).box (hx46.heap St.out.box); clear z7)
      | (go_at_call 18; refine (Hcl.out _ hx46).mono ?_; rintro e w7 ⟨b7, c7, rfl, hx7⟩; have hx47 := hx46.trans hx7))
    go_step
    go_step
    go_step
    go_step
    exact HT.out _ hx47 HR.out HRet.out
end Go.Proofs.Ytacdndehlkaaeaa

/- The law GuideTrue: a round's look. -/
namespace Go.Proofs.Ytacdndehlkaaeaa
open Go.RowKit
set_option linter.unusedVariables false
set_option linter.unusedSimpArgs false
theorem TSt.more {w : World} {pa i j : Nat} {L : List Half} {x y : Int} {S : List Sight} {ca : Option Addr} {cn cc : Nat} {v : Value} {wr : World} (h : TSt w pa i j L x y S ca cn cc v wr) : TSt w pa i (j + 1) L x y S ca cn cc v wr :=
  ⟨h.ext, h.area, h.lies, h.xb, h.yb, h.see, by have := h.len; omega, h.box, h.cap, h.hal, h.own, h.ne, h.pw⟩
theorem join_ordersK {F M : Option Addr → Nat → Nat → World → Prop} {S : World → Prop} {X Y : World → Prop} (h1 : (∀ a c p W, F a c p W → M a c p W) → ∀ W, S W → X W) (h2 : (∀ a c p W, F a c p W → M a c p W) → ∀ W, S W → Y W) (h : ∀ a c p W, F a c p W → M a c p W) : ∀ W, S W → X W ∧ Y W := fun W hW => ⟨h1 h W hW, h2 h W hW⟩
set_option maxRecDepth 100000 in
set_option maxHeartbeats 8000000 in
theorem trueLook {Q : Exit → Act → World → Prop} {w wr : World} {pa i : Nat} {L : List Half} {x y far : Int} {S : List Sight} {ca la ta ya : Option Addr} {cn cc ln lc tn tc yn yc : Nat} {v : Value} {ls : List Sight} {ts : List Trek} {by' : List Int}
    (st : TSt w pa i i L x y S ca cn cc v wr) (hi : i < 60) (hfar : inB far 0 10000000 = true) (hls : SightsAt w la ln ls) (hln : ln ≤ 10) (hts : TreksAt w ta tn ts) (htn : tn ≤ 60) (hy : IntsAt .u32 w ya yn by') (hyn : yn ≤ maxLen) (hdr : drawOk by') {u0 u8 u9 u10 u11 u12 u13 u14 u18 u19 u20 u21 u22 u23 u24 u25 u26 u27 u28 u29 u30 u31 u32 u33 u34 u35 u36 u37 u38 u39 u40 u41 u42 u43 u44 u45 u46 u47 u48 u49 u50 u51 u52 u53 u54 u55 u56 u57 u58 u59 u60 u61 u62 u63 u64 u65 u66 u67 u68 u69 u70 u71 u72 u73 u74 u75 u76 u77 u78 u79 u80 u81 u82 u83 u84 u85 u86 u87 u88 u89 u90 u91 u92 u93 u94 u95 u96 u97 u98 u99 u100 u101 u102 u103 u104 u105 u106 u107 u108 u109 u110 u111 u112 u113 u114 u115 u116 u117 u118 u119 u120 u121 u122 u123 u124 u125 u126 u127 u128 u129 u130 u131 u132 u133 u134 u135 u136 u137 u138 u139 u140 u141 u142 u143 u144 u145 u146 u147 u148 u149 u150 u151 u152 u153 u154 u155 u156 u157 u158 u159 u160 u161 u162 u163 u164 u165 u166 u167 u168 u169 u170 u171 u172 u173 u174 u175 u176 u177 u178 u179 u180 u181 u182 u183 u184 u185 u186 u187 u188 u189 u190 u191 u192 u193 u194 u195 u196 u197 u198 u199 u200 u201 u202 u203 u204 u205 u206 u207 u208 u209 u210 u211 u212 u213 u214 u215 u216 u217 u218 u219 u220 u221 u222 u223 u224 u225 u226 u227 u228 u229 u230 u231 u232 u233 u234 u235 u236 u237 u238 u239 u240 u241 u242 u243 u244 u245 u246 u247 u248 u249 u250 u251 u252 u253 u254 u255 u256 u257 u258 u259 u260 u261 u262 u263 u264 u265 u266 u267 u268 u269 u270 u271 u272 u273 u274 u275 u276 u277 u278 u279 u280 u281 u282 u283 : Value}
    (hround : ∀ (L' : List Half) (x' y' : Int) (S' : List Sight) (ca' : Option Addr) (cn' cc' : Nat) (v' : Value) (W' : World), TSt w pa (i + 1) (i + 1) L' x' y' S' ca' cn' cc' v' W' → ∀ {v17 v18 v19 v20 v21 v22 v23 v24 v25 v26 v27 v28 v29 v30 v31 v32 v77 v78 v79 v80 v81 v82 v83 v84 v85 v86 v87 v88 v89 v90 v91 v92 v93 v94 v95 v96 v97 v98 v99 v100 v101 v102 v103 v104 v105 v106 v107 v108 v109 v110 v111 v112 v113 v114 v115 v116 v117 v118 v119 v120 v121 v122 v123 v124 v125 v126 v127 v128 v129 v130 v131 v132 v133 v134 v135 v136 v137 v138 v139 v140 v141 v142 v143 v144 v145 v146 v147 v148 v149 v150 v151 v152 v153 v154 v155 v156 v157 v158 v159 v160 v161 v162 v163 v164 v165 v166 v167 v168 v169 v170 v171 v172 v173 v174 v175 v176 v177 v178 v179 v180 v181 v182 v183 v184 v185 v186 v187 v188 v189 v190 v191 v192 v193 v194 v195 v196 v197 v198 v199 v200 v201 v202 v203 v204 v205 v206 v207 v208 v209 v210 v211 v212 v213 v214 v215 v216 v217 v218 v219 v220 v221 v222 v223 v224 v225 v226 v227 v228 v229 v230 v231 v232 v233 v234 v235 v236 v237 v238 v239 v240 v241 v242 v243 v244 v245 v246 v247 v248 v249 v250 v251 v252 v253 v254 v255 v256 v257 v258 v259 v260 v261 v262 v263 v264 v265 v266 v267 v268 v269 v270 v271 v272 v273 v274 v275 v276 v277 v278 v279 v280 v281 v282 : Value},
      Q .normal ⟨#[u0, .int .i64 x', .int .i64 y', .slice la ln lc, .slice ta tn tc, .slice ya yn yc, .int .i64 far, .pointer (some ⟨pa, 0, none⟩), u8, u9, u10, u11, u12, u13, u14, .bool true, v', v17, v18, v19, v20, v21, v22, v23, v24, v25, v26, v27, v28, v29, v30, v31, v32, u33, u34, u35, u36, u37, u38, u39, u40, u41, u42, u43, u44, u45, u46, u47, u48, u49, u50, u51, u52, u53, u54, u55, u56, u57, u58, u59, u60, u61, u62, u63, u64, u65, u66, u67, u68, u69, u70, u71, u72, u73, u74, u75, u76, v77, v78, v79, v80, v81, v82, v83, v84, v85, v86, v87, v88, v89, v90, v91, v92, v93, v94, v95, v96, v97, v98, v99, v100, v101, v102, v103, v104, v105, v106, v107, v108, v109, v110, v111, v112, v113, v114, v115, v116, v117, v118, v119, v120, v121, v122, v123, v124, v125, v126, v127, v128, v129, v130, v131, v132, v133, v134, v135, v136, v137, v138, v139, v140, v141, v142, v143, v144, v145, v146, v147, v148, v149, v150, v151, v152, v153, v154, v155, v156, v157, v158, v159, v160, v161, v162, v163, v164, v165, v166, v167, v168, v169, v170, v171, v172, v173, v174, v175, v176, v177, v178, v179, v180, v181, v182, v183, v184, v185, v186, v187, v188, v189, v190, v191, v192, v193, v194, v195, v196, v197, v198, v199, v200, v201, v202, v203, v204, v205, v206, v207, v208, v209, v210, v211, v212, v213, v214, v215, v216, v217, v218, v219, v220, v221, v222, v223, v224, v225, v226, v227, v228, v229, v230, v231, v232, v233, v234, v235, v236, v237, v238, v239, v240, v241, v242, v243, v244, v245, v246, v247, v248, v249, v250, v251, v252, v253, v254, v255, v256, v257, v258, v259, v260, v261, v262, v263, v264, v265, v266, v267, v268, v269, v270, v271, v272, v273, v274, v275, v276, v277, v278, v279, v280, v281, v282, u283], []⟩ W')
    (hret : ∀ (a' : Act) (w' : World), a'.defers = [] → a'.tmps.getD 14 undef = .bool true → Ext w w' → Q .ret a' w') :
    (restFrom Try.f7 10).wp Try.prog Q
      ⟨#[u0, .int .i64 x, .int .i64 y, .slice la ln lc, .slice ta tn tc, .slice ya yn yc, .int .i64 far, .pointer (some ⟨pa, 0, none⟩), u8, u9, u10, u11, u12, u13, u14, .bool true, v, .int .i64 i, u18, u19, u20, u21, u22, u23, u24, u25, u26, u27, u28, u29, u30, u31, u32, u33, u34, u35, u36, u37, u38, u39, u40, u41, u42, u43, u44, u45, u46, u47, u48, u49, u50, u51, u52, u53, u54, u55, u56, u57, u58, u59, u60, u61, u62, u63, u64, u65, u66, u67, u68, u69, u70, u71, u72, u73, u74, u75, u76, u77, u78, u79, u80, u81, u82, u83, u84, u85, u86, u87, u88, u89, u90, u91, u92, u93, u94, u95, u96, u97, u98, u99, u100, u101, u102, u103, u104, u105, u106, u107, u108, u109, u110, u111, u112, u113, u114, u115, u116, u117, u118, u119, u120, u121, u122, u123, u124, u125, u126, u127, u128, u129, u130, u131, u132, u133, u134, u135, u136, u137, u138, u139, u140, u141, u142, u143, u144, u145, u146, u147, u148, u149, u150, u151, u152, u153, u154, u155, u156, u157, u158, u159, u160, u161, u162, u163, u164, u165, u166, u167, u168, u169, u170, u171, u172, u173, u174, u175, u176, u177, u178, u179, u180, u181, u182, u183, u184, u185, u186, u187, u188, u189, u190, u191, u192, u193, u194, u195, u196, u197, u198, u199, u200, u201, u202, u203, u204, u205, u206, u207, u208, u209, u210, u211, u212, u213, u214, u215, u216, u217, u218, u219, u220, u221, u222, u223, u224, u225, u226, u227, u228, u229, u230, u231, u232, u233, u234, u235, u236, u237, u238, u239, u240, u241, u242, u243, u244, u245, u246, u247, u248, u249, u250, u251, u252, u253, u254, u255, u256, u257, u258, u259, u260, u261, u262, u263, u264, u265, u266, u267, u268, u269, u270, u271, u272, u273, u274, u275, u276, u277, u278, u279, u280, u281, u282, u283], []⟩ wr := by
  have hxy : (-20000000000 ≤ x ∧ x ≤ 20000000000) ∧ (-20000000000 ≤ y ∧ y ≤ 20000000000) := by
    have h1 := st.xb
    have h2 := st.yb
    omega
  have htail := fun L S ca cn cc v W' st' => @trueRest Q w W' pa i L x y far S ca la ta ya cn cc ln lc tn tc yn yc v ts by' st' hi hfar hts htn hy hyn hdr
  dsimp only at hround htail
  have HT := Lib.hid htail
  have HR := Lib.hid hround
  have HRet := Lib.hid hret
  have St := Lib.hid st
  have Hls := Lib.hid hls
  clear hround hret st htail hls hts hy hdr hyn htn
  conv => arg 2; whnf
  by_cases hlt : i < ln
  · have hltB : decide ((i : Int) < (ln : Int)) = true := by simp; omega
    have hltN : decide (i < ln) = true := decide_eq_true hlt
    obtain ⟨lb, lof, s, rfl, hsi, hlb, c0, c1, c2, c3, c4, c5, c6, c7, c8, c9⟩ := (Hls.out.ext St.out.ext).get i hlt
    have hok := fun W => looks_any s W
    cases hso : sightOk s with
    | false =>
      rw [hso] at hok
      obtain ⟨k1, x1, y1, fx1, fy1, tx1, ty1, nl1, nh1, far1⟩ := s
      unfold Sight.val at hok
      simp only at hok c0 c1 c2 c3 c4 c5 c6 c7 c8 c9
      have Hok := Lib.hid hok
      clear hok
      clear hsi hso hxy
      go_upto_if 98 with (go_at_call 42; refine (Hok.out _).mono ?_; rintro e w1 ⟨rfl, hx1⟩)
      go_step
      go_step
      go_step
      go_step
      exact HT.out _ _ _ _ _ _ _ (St.out.ext' hx1).more HR.out HRet.out
    | true =>
      have hse := fun W => seen_any s x y W hso hxy.1.1 hxy.1.2 hxy.2.1 hxy.2.2
      rw [hso] at hok
      cases hsb : seenB s x y with
      | false =>
        rw [hsb] at hse
        obtain ⟨k1, x1, y1, fx1, fy1, tx1, ty1, nl1, nh1, far1⟩ := s
        unfold Sight.val at hok hse
        simp only at hok hse c0 c1 c2 c3 c4 c5 c6 c7 c8 c9
        have Hok := Lib.hid hok
        have Hse := Lib.hid hse
        clear hok hse
        clear hsi hso hxy hsb
        go_upto_if 98 with (first | (go_at_call 42; refine (Hok.out _).mono ?_; rintro e w1 ⟨rfl, hx1⟩; obtain ⟨y0, y1'⟩ := hx1.facts) | (go_at_call 43; refine (Hse.out _).mono ?_; rintro e w2 ⟨rfl, hx2⟩))
        go_step
        go_step
        go_step
        go_step
        exact HT.out _ _ _ _ _ _ _ (St.out.ext' (hx1.trans hx2)).more HR.out HRet.out
      | true =>
        rw [hsb] at hse
        have hsee := see_true St.out.area St.out.lies hso hsb
        obtain ⟨M, d, hM, hcase⟩ : ∃ M d, seeOf L s = (M, d) ∧ (d = 9 ∨ d = 0 ∧ AreaOk M ∧ In M (pt x y)) := by
          rcases hsee with ⟨h1, h2, h3⟩ | h
          · exact ⟨_, _, h1, .inr ⟨rfl, h2, h3⟩⟩
          · exact ⟨_, _, h, .inl rfl⟩
        obtain ⟨K, hK⟩ : ∃ K, M.length = K := ⟨_, rfl⟩
        have hkd := sight_kind hso
        have hsa := fun W (hW : Ext wr W) (hL : HalvesAt W ca cn L) => seeEither_any hM hK ca cc W hL St.out.cap.1 St.out.cap.2 hkd.1 hkd.2
        obtain ⟨sa, sc, hv, _, _, _, hS⟩ := sights_of_owns St.out.own
        have hpush := fun W W' v' (hW : Ext wr W) => @TSt.push w pa i i L x y S ca cn cc v v' W W' s (St.out.ext' hW) ⟨hso, hsb⟩ (by have := St.out.len; omega)
        have Hpush := Lib.hid hpush
        have Hsi := Lib.hid hsi
        have HC := Lib.hid hcase
        have HKM := Lib.hid hK
        have HM := Lib.hid hM
        have Hkd := Lib.hid hkd
        have hap : ∀ T, sightRows (T ++ [s]) = sightRows T ++ sightRows [s] := fun T => by simp [sightRows]
        have Hap := Lib.hid hap
        unfold EitherPost at hsa
        obtain ⟨k1, x1, y1, fx1, fy1, tx1, ty1, nl1, nh1, far1⟩ := s
        unfold Sight.val at hok hse hsa
        simp only at hok hse hsa c0 c1 c2 c3 c4 c5 c6 c7 c8 c9
        have Hok := Lib.hid hok
        have Hse := Lib.hid hse
        have Hsa := Lib.hid hsa
        clear hok hse hsa
        subst hv
        clear hsi hso hxy hsb hsee hcase hpush hM hK hkd hap hS
        go_upto_region 12 with (first
          | (go_at_call 42; refine (Hok.out _).mono ?_; rintro e w1 ⟨rfl, hx1⟩; obtain ⟨y0, y1'⟩ := hx1.facts)
          | (go_at_call 43; refine (Hse.out _).mono ?_; rintro e w2 ⟨rfl, hx2⟩; have hx12 := hx1.trans hx2; obtain ⟨y2, y2', _⟩ := hx12.facts; clear y0 y1')
          | (at_builtin; refine wpList_app elem31 _ rfl (.tmp 99) (.tmp 104) rfl (pa + 1) _ (sightRows S) rfl ((St.out.own.ext hx12).alloc _) (some ⟨w2.heap.size, 0, none⟩) 1 1 (sightRows [⟨k1, x1, y1, fx1, fy1, tx1, ty1, nl1, nh1, far1⟩]) rfl rfl (slAt_block (rows := sightRows [⟨k1, x1, y1, fx1, fy1, tx1, ty1, nl1, nh1, far1⟩]) (alloc_at _ _ _ rfl) (fun r hr => (sightRows_row _ r hr).1)) (sightRows_row _) ?_ ?_ ?_))
        · have := St.out.len
          simp [sightRows]
          omega
        · have := heap_lt St.out.box
          have := hx12.size
          simp
          omega
        · intro v4 w4 ho4 hg4 hv4
          rw [← Hap.out] at ho4
          have st4 := Hpush.out _ _ _ (hx12.alloc _) ho4 hg4 (by simpa using hv4)
          have hw4 := fun (b' : Nat) => (Hls.out.ext st4.ext).get i hlt
          clear c0 c1 c2 c3 c4 c5 c6 c7 c8 c9 y2 y2' hx1 hx2 hx12 ho4 hg4 hv4
          obtain ⟨lb', lof', s', el, hsi', hlb', c0, c1, c2, c3, c4, c5, c6, c7, c8, c9⟩ := hw4 0
          cases el
          rw [Hsi.out] at hsi'
          cases hsi'
          simp only at c0 c1 c2 c3 c4 c5 c6 c7 c8 c9
          clear hw4 Hpush
          go_upto_region 12 with fail
          have St4 := Lib.hid st4
          have hxc := fun W (hW : Ext w4 W) => hW.facts
          have hse4 := fun W (hW : Ext w4 W) (hL : HalvesAt W ca cn L) => seeEither_any (n := cn) HM.out HKM.out ca cc W hL st4.cap.1 st4.cap.2 Hkd.out.1 Hkd.out.2
          unfold EitherPost Sight.val at hse4
          simp only at hse4
          have Hse4 := Lib.hid hse4
          have Hbx := Lib.hid st4.box
          clear st4 hxc hse4
          refine wp_region_plan (.take [0, 1, 2, 3, 4] (.two 5 (.free [6, 7, 8] (.one 9 (.fin (.one 10 (.one 11 .done))))) 9 (.one 5 (.free [6, 7, 8] (.fin (.one 10 (.one 11 .done))))))) [10, 11] (Ext w4) _ (by kernel_rfl) (by kernel_rfl) rfl (EC.ext w4) ((Ext.refl _).drew) ?_
          simp only [planOf, treeOf, oneOp, twoOp, opsOf, consOp, callOC, oneOC, twoOC, List.getElem?_toArray, List.getElem?_cons_succ, List.getElem?_cons_zero]
          intro ι _ f hf
          have f0 := fun q => ((hf q).box Hbx.out).1
          have f1 := fun q => (hf q).facts.1
          clear hf
          repeat (go_big_quiet_step (fail))
          refine wpQuiet_nil ?_
          clear f0 f1 c0 c1 c2 c3 c4 c5 c6 c7 c8 c9
          refine wpOC_two ?_
          apply join_ordersK (F := fun a c p W => Ext w4 W ∧ W.heap[p]? = some (.cells #[.slice a K c] 24 (0, 0)) ∧ (0 < K → HalvesAt W a K M) ∧ K ≤ c ∧ c ≤ maxLen ∧ From w4.heap.size a ∧ w4.heap.size ≤ p)
          · intro G Wa hxa
            have hI := St4.out.hal.ext hxa
            go_wp2_with (go_at_call 16; refine (Hse4.out _ (by first | exact hxa | exact hxd.trans hxe) hI).mono ?_; rintro e Wb ⟨ba, bc, rfl, q1, q2, hxb, hHb, hfb⟩)
            have hxab := hxa.trans hxb
            have hfb := hfb.mono hxa.size
            have hlt := fun (h0 : 0 < K) => hHb.lt h0
            refine ⟨Ext Wb, EC.ext Wb, fun _ h => hxab.trans h, Ext.refl Wb, ?_⟩
            refine wpOC_free ?_
            repeat (go_big_quiet_step (fail))
            refine wpQuiet_nil ?_
            intro Wc hxc
            go_wp2_with fail
            have hpa := heap_alloc_new Wc (.cells #[.slice none 0 0] 24)
            have hxd := hxc.alloc (.cells #[.slice none 0 0] 24)
            have hp8 := (hxab.trans hxc).size
            have hne : 0 < K → ∀ X, ba = some X → X.block ≠ Wc.heap.size := fun h0 X hX => by
              have h1 := hlt h0 X hX
              have h2 := hxc.size
              omega
            generalize Wc.alloc (.cells #[.slice none 0 0] 24) = Wd at *
            generalize Wc.heap.size = p at *
            refine ⟨Ext Wd, EC.ext Wd, fun _ h => hxd.trans h, Ext.refl Wd, ?_⟩
            intro We hxe
            have hHe := hHb.ext (hxd.trans hxe)
            have hx8 := hxab.trans (hxd.trans hxe)
            have hpe := hxe.heap hpa
            clear hxa hI hxb hHb hxab hlt hxc hpa hxd hxe
            obtain ⟨k0, k1⟩ := (Ext.refl We).box hpe
            have hpl := heap_lt hpe
            refine wpOT_one ?_
            go_wp2_with fail
            refine wpOT_one ?_
            go_wp2_with fail
            refine wpOT_done ?_
            exact G ba bc p _ ⟨hx8.setCell (p := ⟨p, 0, none⟩) hp8 _, by rw [heap_setCell_box, hpe]; rfl, fun h0 => hHe.same fun X hX => Below.heap_setCell _ _ _ _ (hne h0 X hX), q1, q2, hfb, hp8⟩
          · intro G Wa hxa
            go_wp2_with fail
            have hpa := heap_alloc_new Wa (.cells #[.slice none 0 0] 24)
            have hxd := hxa.alloc (.cells #[.slice none 0 0] 24)
            have hp8 := hxa.size
            have hps := heap_lt hpa
            generalize Wa.alloc (.cells #[.slice none 0 0] 24) = Wd at *
            generalize Wa.heap.size = p at *
            refine ⟨Ext Wd, EC.ext Wd, fun _ h => hxd.trans h, Ext.refl Wd, ?_⟩
            clear hxa
            intro We hxe
            have hI := St4.out.hal.ext (hxd.trans hxe)
            go_wp2_with (go_at_call 16; refine (Hse4.out _ (by first | exact hxa | exact hxd.trans hxe) hI).mono ?_; rintro e Wb ⟨ba, bc, rfl, q1, q2, hxb, hHb, hfb⟩)
            have hne : ∀ X, ba = some X → X.block ≠ p := fun X hX => by
              have h1 := hfb X hX
              have h2 := hxe.size
              omega
            have hfb := hfb.mono (hxd.trans hxe).size
            have hxeb := hxe.trans hxb
            refine ⟨Ext Wb, EC.ext Wb, fun _ h => hxeb.trans h, Ext.refl Wb, ?_⟩
            refine wpOC_free ?_
            repeat (go_big_quiet_step (fail))
            refine wpQuiet_nil ?_
            intro Wc hxc
            have hHe := hHb.ext hxc
            have hx8 := hxd.trans (hxeb.trans hxc)
            have hpe := (hxeb.trans hxc).heap hpa
            clear hI hxb hHb hxc hpa hxd hxe hxeb hps
            obtain ⟨k0, k1⟩ := (Ext.refl Wc).box hpe
            have hpl := heap_lt hpe
            refine wpOT_one ?_
            go_wp2_with fail
            refine wpOT_one ?_
            go_wp2_with fail
            refine wpOT_done ?_
            exact G ba bc p _ ⟨hx8.setCell (p := ⟨p, 0, none⟩) hp8 _, by rw [heap_setCell_box, hpe]; rfl, fun _ => hHe.same fun X hX => Below.heap_setCell _ _ _ _ (hne X hX), q1, q2, hfb, hp8⟩
          rintro a5 c5 p5 W5 ⟨hx5, hb5, hH5, s5, t5, hf5, hp5⟩
          have st5 := St4.out.ext' hx5
          have hpa := heap_lt st5.box
          have hpa4 := heap_lt Hbx.out
          rcases HC.out with rfl | ⟨rfl, hA, hin⟩
          · have St5 := Lib.hid st5
            clear st5 HC hb5 hH5 hx5 hf5 hp5 hpa hpa4 s5 t5
            go_upto_if 119 with fail
            go_step
            go_step
            go_step
            go_step
            exact HT.out _ _ _ _ _ _ _ St5.out HR.out HRet.out
          · have hKp : 0 < K := by have := HKM.out; have := hA.len.1; omega
            have st6 := st5.put (i' := i) (j' := i + 1) (T := S ++ [⟨k1, x1, y1, fx1, fy1, tx1, ty1, nl1, nh1, far1⟩]) (u := v4) hA hin st5.xb st5.yb st5.see st5.len ⟨s5, t5⟩ (hH5 hKp) st5.own (fun X hX => ⟨by have := hf5 X hX; omega, fun e => by have h1 := (St4.out.own.lt _ e).2; have h2 := hf5 X hX; omega⟩)
            obtain ⟨z5, _⟩ := (Ext.refl W5).box hb5
            obtain ⟨y5, y5'⟩ := (Ext.refl W5).box st5.box
            have St6 := Lib.hid st6
            clear st6 st5 HC hb5 hH5 hx5 hf5 hp5 hpa4 s5 t5 hA hin hKp
            go_upto_region 14 with fail
            go_step
            go_step
            go_step
            go_step
            go_step
            go_step
            go_step
            go_step
            go_step
            go_step
            exact HT.out _ _ _ _ _ _ _ St6.out HR.out HRet.out
  · have hltB : decide ((i : Int) < (ln : Int)) = false := by simp; omega
    have hltN : decide (i < ln) = false := decide_eq_false hlt
    clear hlt hxy
    go_upto_if 98 with fail
    go_step
    go_step
    go_step
    go_step
    exact HT.out _ _ _ _ _ _ _ St.out.more HR.out HRet.out
end Go.Proofs.Ytacdndehlkaaeaa
