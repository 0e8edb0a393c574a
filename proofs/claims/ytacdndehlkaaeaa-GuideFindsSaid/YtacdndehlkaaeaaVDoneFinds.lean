/- The law GuideFinds: plain facts, and what is so of the caravan in a round. -/
import Derived.Test.YtacdndehlkaaeaaVRFinds
import Derived.Test.YtacdndehlkaaeaaVDoneTrue
import Derived.Test.YtacdndehlkaaeaaVDoneParts
import Derived.Test.YtacdndehlkaaeaaVTake
import Derived.OpenShut
import Derived.ShutString
import Derived.ChangeOld
import Derived.Below
namespace Go.Proofs.Ytacdndehlkaaeaa
open Go.RowKit
set_option linter.unusedVariables false
/-- what is known after i treks -/
def kAt (l : List Half) (ts : List Trek) (x y far : Int) (i : Nat) : Int := knownOf (wayTo l ts i) x y far
/-- the first ones, as far as they are found -/
structure FirstIs (l : List Half) (ts : List Trek) (x y far : Int) (n : Nat) (m s : Int) : Prop where
  mr : -1 ≤ m ∧ m ≤ n
  sr : -1 ≤ s ∧ s ≤ n
  may : ∀ i : Nat, i ≤ n → 0 < kAt l ts x y far i → 0 ≤ m ∧ m ≤ i
  sure : ∀ i : Nat, i ≤ n → s = i → kAt l ts x y far i = 2
theorem first_is {l : List Half} {ts : List Trek} {x y far : Int} : ∀ (n : Nat) (m s : Int), findTo l ts x y far n = some (m, s) → FirstIs l ts x y far n m s
  | 0, m, s, h => by
    simp only [findTo, Option.some.injEq, Prod.mk.injEq] at h
    obtain ⟨h1, h2⟩ := h
    unfold noteMay at h1
    unfold noteSure at h2
    have e : kAt l ts x y far 0 = knownOf l x y far := rfl
    refine ⟨by split at h1 <;> omega, by split at h2 <;> omega, fun i hi hk => ?_, fun i hi hs => ?_⟩
    · obtain rfl : i = 0 := by omega
      rw [e] at hk
      rw [if_pos ⟨hk, by omega⟩] at h1
      omega
    · obtain rfl : i = 0 := by omega
      rw [e]
      split at h2
      · rename_i hh; exact hh.1
      · omega
  | n + 1, m, s, h => by
    simp only [findTo] at h
    cases hp : findTo l ts x y far n with
    | none => rw [hp] at h; cases h
    | some a =>
      obtain ⟨m0, s0⟩ := a
      rw [hp] at h
      simp only at h
      split at h
      · simp only [Option.some.injEq, Prod.mk.injEq] at h
        obtain ⟨h1, h2⟩ := h
        have ih := first_is n m0 s0 hp
        have e : kAt l ts x y far (n + 1) = knownOf (wayTo l ts (n + 1)) x y far := rfl
        rw [← e] at h1 h2
        unfold noteMay at h1
        unfold noteSure at h2
        have i1 := ih.mr
        have i2 := ih.sr
        refine ⟨by split at h1 <;> omega, by split at h2 <;> omega, fun i hi hk => ?_, fun i hi hs => ?_⟩
        · rcases Nat.lt_or_ge n i with hlt | hge
          · obtain rfl : i = n + 1 := by omega
            by_cases hm : m0 < 0
            · rw [if_pos ⟨hk, hm⟩] at h1
              omega
            · rw [if_neg (by omega)] at h1
              omega
          · have := ih.may i hge hk
            rw [if_neg (by omega)] at h1
            omega
        · rcases Nat.lt_or_ge n i with hlt | hge
          · obtain rfl : i = n + 1 := by omega
            split at h2
            · rename_i hh; exact hh.1
            · omega
          · split at h2
            · omega
            · exact ih.sure i hge (by omega)
      · cases h
inductive FindsIs (l : List Half) (ts : List Trek) (x y far : Int) : Prop where
  | lost (h : someB l = false) (hf : findsOf l ts x y far = (0, 0, 43))
  | bad (h : someB l = true) (hb : ts.all trekOk = false) (hf : findsOf l ts x y far = (0, 0, 42))
  | full (h : someB l = true) (hg : ts.all trekOk = true) (hn : findTo l ts x y far ts.length = none) (hf : findsOf l ts x y far = (0, 0, 9))
  | found (m s : Int) (h : someB l = true) (hg : ts.all trekOk = true) (hn : findTo l ts x y far ts.length = some (m, s)) (hf : findsOf l ts x y far = (m, s, 0))
theorem finds_is {l : List Half} {ts : List Trek} {x y far : Int} (ha : AreaOk l) (hp : (placeOk x && placeOk y && inB far 0 10000000) = true) (hn : ts.length ≤ 60) : FindsIs l ts x y far := by
  have hask : askedOf l x y far = if someB l = false then 43 else 0 := by
    unfold askedOf
    rw [areaOk_iff.2 ha, hp]
    simp
  cases hs : someB l with
  | false =>
    rw [hs] at hask
    simp only [if_true] at hask
    refine .lost hs ?_
    unfold findsOf
    rw [hask]
    simp
  | true =>
    rw [hs] at hask
    simp only [Bool.true_eq_false, if_false] at hask
    cases hg : ts.all trekOk with
    | false =>
      refine .bad hs hg ?_
      unfold findsOf
      rw [if_neg (by rw [hask]; simp), if_neg (by omega), if_pos hg]
    | true =>
      cases hf : findTo l ts x y far ts.length with
      | none =>
        refine .full hs hg hf ?_
        unfold findsOf
        rw [if_neg (by rw [hask]; simp), if_neg (by omega), if_neg (by rw [hg]; simp), hf]
      | some a =>
        refine .found a.1 a.2 hs hg hf ?_
        unfold findsOf
        rw [if_neg (by rw [hask]; simp), if_neg (by omega), if_neg (by rw [hg]; simp), hf]
/-- what is so in a round: the area, and the caravan, if it is in it -/
structure GSt (w : World) (pa i : Nat) (L : List Half) (isB : Bool) (cx cy : Int) (ca : Option Addr) (cn cc : Nat) (wr : World) : Prop where
  ext : Ext w wr
  area : AreaOk L
  som : ∃ p, In L p
  lies : isB = true → In L (pt cx cy) ∧ (-10000000000 - 6000000 * (i : Int) ≤ cx ∧ cx ≤ 10000000000 + 6000000 * (i : Int)) ∧ (-10000000000 - 6000000 * (i : Int) ≤ cy ∧ cy ≤ 10000000000 + 6000000 * (i : Int))
  box : wr.heap[pa]? = some (.cells #[.slice ca cn cc] 24 (0, 0))
  cap : cn ≤ cc ∧ cc ≤ maxLen
  hal : HalvesAt wr ca cn L
  ne : ∀ X, ca = some X → X.block ≠ pa
  pw : w.heap.size ≤ pa
theorem GSt.ext' {w : World} {pa i : Nat} {L : List Half} {isB : Bool} {cx cy : Int} {ca : Option Addr} {cn cc : Nat} {wr wr' : World} (h : GSt w pa i L isB cx cy ca cn cc wr) (hx : Ext wr wr') : GSt w pa i L isB cx cy ca cn cc wr' :=
  ⟨h.ext.trans hx, h.area, h.som, h.lies, hx.heap h.box, h.cap, h.hal.ext hx, h.ne, h.pw⟩
theorem GSt.put {w : World} {pa i i' : Nat} {L M : List Half} {isB : Bool} {cx cy cx' cy' : Int} {ca cb : Option Addr} {cn cc dn dc : Nat} {wr : World} (h : GSt w pa i L isB cx cy ca cn cc wr) (hM : AreaOk M) (hs : ∃ p, In M p)
    (hl : isB = true → In M (pt cx' cy') ∧ (-10000000000 - 6000000 * (i' : Int) ≤ cx' ∧ cx' ≤ 10000000000 + 6000000 * (i' : Int)) ∧ (-10000000000 - 6000000 * (i' : Int) ≤ cy' ∧ cy' ≤ 10000000000 + 6000000 * (i' : Int)))
    (hc : dn ≤ dc ∧ dc ≤ maxLen) (hh : HalvesAt wr cb dn M) (hn : ∀ X, cb = some X → X.block ≠ pa) : GSt w pa i' M isB cx' cy' cb dn dc (wr.setCell ⟨pa, 0, none⟩ (.slice cb dn dc)) :=
  ⟨h.ext.setCell (p := ⟨pa, 0, none⟩) h.pw _, hM, hs, hl, by simp only [heap_setCell_box, h.box, Option.map_some, setIn_cells, List.setIfInBounds_toArray, List.set_cons_zero], hc,
    hh.same fun X hX => Below.heap_setCell _ _ _ _ (hn X hX), hn, h.pw⟩
/-- what Near tells of it -/
theorem near_code {l : List Half} {x y far : Int} (ha : AreaOk l) (hs : ∃ p, In l p) (hp : (placeOk x && placeOk y && inB far 0 10000000) = true) : nearOf l x y far = (knownOf l x y far, 0) := by
  have ha' : askedOf l x y far = 0 := by
    unfold askedOf
    rw [if_neg (by rw [areaOk_iff.2 ha]; simp), if_neg (by rw [hp]; simp), if_neg (by rw [(someB_iff ha.bnd).2 hs]; simp)]
  unfold nearOf
  rw [ha']
  simp
theorem near_lost {l : List Half} {x y far : Int} (ha : AreaOk l) (hs : someB l = false) (hp : (placeOk x && placeOk y && inB far 0 10000000) = true) : nearOf l x y far = (0, 43) := by
  have ha' : askedOf l x y far = 43 := by
    unfold askedOf
    rw [if_neg (by rw [areaOk_iff.2 ha]; simp), if_neg (by rw [hp]; simp), if_pos hs]
  unfold nearOf
  rw [ha']
  simp
/-- it is not near before it may be, and is when it is sure -/
theorem finds_sem {l : List Half} {ts : List Trek} {x y far cx cy m s : Int} {n i : Nat} (hf : FirstIs l ts x y far n m s) (hi : i ≤ n) (ha : AreaOk (wayTo l ts i)) (h : In (wayTo l ts i) (pt cx cy)) :
    (max (max (cx - x) (x - cx)) (max (cy - y) (y - cy)) ≤ far → 0 ≤ m ∧ m ≤ i) ∧ (s = i → max (max (cx - x) (x - cx)) (max (cy - y) (y - cy)) ≤ far) := by
  have hk := known_of ha.bounded x y far
  have hm : max (max (cx - x) (x - cx)) (max (cy - y) (y - cy)) = max (max (x - cx) (cx - x)) (max (y - cy) (cy - y)) := by omega
  rw [hm, ← around_pt]
  constructor
  · intro hn
    refine hf.may i hi ?_
    rcases hk.range with e | e | e
    · exact absurd hn (hk.no.1 e _ h)
    · unfold kAt; omega
    · unfold kAt; omega
  · intro hs
    have e := hf.sure i hi hs
    exact (hk.yes.1 e).2 _ h
end Go.Proofs.Ytacdndehlkaaeaa

/- The law GuideFinds: a round's end. -/
namespace Go.Proofs.Ytacdndehlkaaeaa
open Go.RowKit
set_option linter.unusedVariables false
set_option linter.unusedSimpArgs false
set_option maxRecDepth 100000 in
set_option maxHeartbeats 8000000 in
theorem findsEnd {Q : Exit → Act → World → Prop} {wr : World} {i : Nat} {x y far cx cy m s e : Int} {isB : Bool} (hi : i ≤ 60) (hx : (-10000000 ≤ x ∧ x ≤ 10000000) ∧ (-10000000 ≤ y ∧ y ≤ 10000000))
    (hb : isB = true → ((-20000000000 ≤ cx ∧ cx ≤ 20000000000) ∧ (-20000000000 ≤ cy ∧ cy ≤ 20000000000)) ∧ (e = 9 ∧ m = 0 ∧ s = 0 ∨ e = 0 ∧ (max (max (cx - x) (x - cx)) (max (cy - y) (y - cy)) ≤ far → 0 ≤ m ∧ m ≤ i) ∧ (s = i → max (max (cx - x) (x - cx)) (max (cy - y) (y - cy)) ≤ far)))
    {u0 u1 u7 u8 u9 u10 u11 u12 u13 u14 u15 u16 u21 u22 u23 u24 u25 u26 u29 u30 u31 u32 u33 u34 u35 u36 u37 u38 u39 u40 u41 u42 u43 u44 u45 u46 u47 u48 u49 u50 u51 u52 u53 u54 u55 u56 u57 u58 u59 u60 u61 u62 u63 u64 u65 u66 u67 u68 u69 u70 u71 u72 u73 u74 u75 u76 u77 u78 u79 u80 u81 u82 u83 u84 u85 u86 u87 u88 u89 u90 u91 u92 u93 u94 u95 u96 u97 u98 u99 u100 u101 u102 u103 u104 u105 u106 u107 u108 u109 u110 u111 u112 u113 u114 u115 u116 u117 u118 u119 u120 u121 u122 u123 u124 u125 u126 u127 u128 u129 u130 u131 u132 u133 u134 u135 u136 u137 u138 u139 u140 u141 u142 u143 u144 u145 u146 u147 u148 u149 u150 u151 u152 u153 u154 u155 u156 u157 u158 u159 u160 u161 u162 u163 u164 u165 u166 u167 u168 u169 u170 u171 u172 u173 u174 u175 u176 u177 u178 u179 u180 u181 u182 u183 u184 u185 u186 u187 u188 u189 u190 u191 u192 u193 u194 u195 u196 u197 u198 u199 u200 u201 u202 u203 u204 u205 u206 u207 u208 u209 u210 u211 u212 u213 u214 u215 u216 u217 u218 u219 u220 u221 u222 u223 u224 u225 u226 u227 u228 u229 u230 u231 u232 u233 u234 u235 u236 u237 u238 u239 u240 u241 u242 u243 u244 u245 u246 u247 u248 u249 u250 u251 u252 u253 u254 u255 u256 u257 u258 u259 u260 u261 u262 u263 u264 u265 u266 u267 u268 u269 u270 u271 u272 u273 u274 u275 u276 u277 : Value}
    (hround : True → ∀ {v34 v221 v222 v223 v224 v225 v226 v227 v228 v229 v230 v231 v232 v233 v234 v235 v236 v237 v238 v239 v240 v241 v242 v243 v244 v245 v246 v247 v248 v249 v250 v251 v252 v253 v254 v255 v256 v257 v258 v259 v260 v261 : Value},
      Q .normal ⟨#[u0, u1, .int .i64 x, .int .i64 y, .int .i64 far, .int .i64 cx, .int .i64 cy, u7, u8, u9, u10, u11, u12, u13, u14, u15, u16, .bool true, .int .i64 m, .int .i64 s, .int .i64 e, u21, u22, u23, u24, u25, u26, .bool isB, .int .i64 i, u29, u30, u31, u32, u33, v34, u35, u36, u37, u38, u39, u40, u41, u42, u43, u44, u45, u46, u47, u48, u49, u50, u51, u52, u53, u54, u55, u56, u57, u58, u59, u60, u61, u62, u63, u64, u65, u66, u67, u68, u69, u70, u71, u72, u73, u74, u75, u76, u77, u78, u79, u80, u81, u82, u83, u84, u85, u86, u87, u88, u89, u90, u91, u92, u93, u94, u95, u96, u97, u98, u99, u100, u101, u102, u103, u104, u105, u106, u107, u108, u109, u110, u111, u112, u113, u114, u115, u116, u117, u118, u119, u120, u121, u122, u123, u124, u125, u126, u127, u128, u129, u130, u131, u132, u133, u134, u135, u136, u137, u138, u139, u140, u141, u142, u143, u144, u145, u146, u147, u148, u149, u150, u151, u152, u153, u154, u155, u156, u157, u158, u159, u160, u161, u162, u163, u164, u165, u166, u167, u168, u169, u170, u171, u172, u173, u174, u175, u176, u177, u178, u179, u180, u181, u182, u183, u184, u185, u186, u187, u188, u189, u190, u191, u192, u193, u194, u195, u196, u197, u198, u199, u200, u201, u202, u203, u204, u205, u206, u207, u208, u209, u210, u211, u212, u213, u214, u215, u216, u217, u218, u219, u220, v221, v222, v223, v224, v225, v226, v227, v228, v229, v230, v231, v232, v233, v234, v235, v236, v237, v238, v239, v240, v241, v242, v243, v244, v245, v246, v247, v248, v249, v250, v251, v252, v253, v254, v255, v256, v257, v258, v259, v260, v261, u262, u263, u264, u265, u266, u267, u268, u269, u270, u271, u272, u273, u274, u275, u276, u277], []⟩ wr) :
    (restFrom Try.f13 36).wp Try.prog Q
      ⟨#[u0, u1, .int .i64 x, .int .i64 y, .int .i64 far, .int .i64 cx, .int .i64 cy, u7, u8, u9, u10, u11, u12, u13, u14, u15, u16, .bool true, .int .i64 m, .int .i64 s, .int .i64 e, u21, u22, u23, u24, u25, u26, .bool isB, .int .i64 i, u29, u30, u31, u32, u33, u34, u35, u36, u37, u38, u39, u40, u41, u42, u43, u44, u45, u46, u47, u48, u49, u50, u51, u52, u53, u54, u55, u56, u57, u58, u59, u60, u61, u62, u63, u64, u65, u66, u67, u68, u69, u70, u71, u72, u73, u74, u75, u76, u77, u78, u79, u80, u81, u82, u83, u84, u85, u86, u87, u88, u89, u90, u91, u92, u93, u94, u95, u96, u97, u98, u99, u100, u101, u102, u103, u104, u105, u106, u107, u108, u109, u110, u111, u112, u113, u114, u115, u116, u117, u118, u119, u120, u121, u122, u123, u124, u125, u126, u127, u128, u129, u130, u131, u132, u133, u134, u135, u136, u137, u138, u139, u140, u141, u142, u143, u144, u145, u146, u147, u148, u149, u150, u151, u152, u153, u154, u155, u156, u157, u158, u159, u160, u161, u162, u163, u164, u165, u166, u167, u168, u169, u170, u171, u172, u173, u174, u175, u176, u177, u178, u179, u180, u181, u182, u183, u184, u185, u186, u187, u188, u189, u190, u191, u192, u193, u194, u195, u196, u197, u198, u199, u200, u201, u202, u203, u204, u205, u206, u207, u208, u209, u210, u211, u212, u213, u214, u215, u216, u217, u218, u219, u220, u221, u222, u223, u224, u225, u226, u227, u228, u229, u230, u231, u232, u233, u234, u235, u236, u237, u238, u239, u240, u241, u242, u243, u244, u245, u246, u247, u248, u249, u250, u251, u252, u253, u254, u255, u256, u257, u258, u259, u260, u261, u262, u263, u264, u265, u266, u267, u268, u269, u270, u271, u272, u273, u274, u275, u276, u277], []⟩ wr := by
  dsimp only at hround
  have HR := Lib.hid hround
  clear hround
  conv => arg 2; whnf
  cases isB with
  | false =>
    clear hb
    obtain ⟨⟨x0, x1⟩, y0, y1⟩ := hx
    have hmx := fun W => run_max4 (wrap64 (cx - x)) (wrap64 (x - cx)) (wrap64 (cy - y)) (wrap64 (y - cy)) W
    obtain ⟨MX, hMX⟩ : ∃ M, max (max (wrap64 (cx - x)) (wrap64 (x - cx))) (max (wrap64 (cy - y)) (wrap64 (y - cy))) = M := ⟨_, rfl⟩
    rw [hMX] at hmx
    clear hMX
    cases hn : decide (MX ≤ far) with
    | true =>
      go_wp2_with fail
      exact HR.out trivial
    | false =>
      go_wp2_with fail
      exact HR.out trivial
  | true =>
    obtain ⟨hc, hcase⟩ := hb rfl
    have hmx := fun W => run_max4 (cx - x) (x - cx) (cy - y) (y - cy) W
    obtain ⟨MX, hMX⟩ : ∃ M, max (max (cx - x) (x - cx)) (max (cy - y) (y - cy)) = M := ⟨_, rfl⟩
    rw [hMX] at hmx hcase
    obtain ⟨⟨x0, x1⟩, y0, y1⟩ := hx
    obtain ⟨⟨c0, c1⟩, d0, d1⟩ := hc
    clear hb hMX
    cases hn : decide (MX ≤ far) with
    | true =>
      have hn' := of_decide_eq_true hn
      cases hs : ((i : Int) == s) with
      | true =>
        rcases hcase with ⟨rfl, rfl, rfl⟩ | ⟨rfl, h1, h2⟩
        · have t1 : decide ((i : Int) < 0) = false := decide_eq_false (by omega)
          clear hn'
          go_wp2_with fail
          exact HR.out trivial
        · have t0 : decide (m < 0) = false := decide_eq_false (by omega)
          have t1 : decide ((i : Int) < m) = false := decide_eq_false (by omega)
          clear hn' h1 h2
          go_wp2_with fail
          exact HR.out trivial
      | false =>
        rcases hcase with ⟨rfl, rfl, rfl⟩ | ⟨rfl, h1, h2⟩
        · have t1 : decide ((i : Int) < 0) = false := decide_eq_false (by omega)
          clear hn'
          go_wp2_with fail
          exact HR.out trivial
        · have t0 : decide (m < 0) = false := decide_eq_false (by omega)
          have t1 : decide ((i : Int) < m) = false := decide_eq_false (by omega)
          clear hn' h1 h2
          go_wp2_with fail
          exact HR.out trivial
    | false =>
      have hn' := of_decide_eq_false hn
      cases hs : ((i : Int) == s) with
      | true =>
        have hs' : (i : Int) = s := by simpa using hs
        rcases hcase with ⟨rfl, rfl, rfl⟩ | ⟨rfl, h1, h2⟩
        · clear hn' hs'
          go_wp2_with fail
          exact HR.out trivial
        · exact absurd (h2 hs'.symm) hn'
      | false =>
        clear hn' hcase
        go_wp2_with fail
        exact HR.out trivial
end Go.Proofs.Ytacdndehlkaaeaa

/- The law GuideFinds: what is told in a round. -/
namespace Go.Proofs.Ytacdndehlkaaeaa
open Go.RowKit
set_option linter.unusedVariables false
set_option linter.unusedSimpArgs false
set_option maxRecDepth 100000 in
set_option maxHeartbeats 8000000 in
theorem findsRest {Q : Exit → Act → World → Prop} {w wr : World} {pa i tn : Nat} {L l0 : List Half} {ts : List Trek} {isB : Bool} {ca : Option Addr} {cn cc : Nat} {x y far cx cy m s e f g : Int}
    (st : GSt w pa i L isB cx cy ca cn cc wr) (hL : L = wayTo l0 ts i) (hi : i ≤ tn) (htn : tn ≤ 60) (hp : (placeOk x && placeOk y && inB far 0 10000000) = true)
    (hfr : findR l0 ts x y far i = some (f, g)) (hfit : i = 0 ∨ fitB (wayTo l0 ts i) = true) (he : e = 9 ∧ m = 0 ∧ s = 0 ∨ e = 0 ∧ FirstIs l0 ts x y far tn m s)
    {u0 u1 u7 u9 u10 u11 u12 u13 u14 u15 u16 u21 u22 u23 u24 u29 u30 u31 u32 u33 u34 u35 u36 u37 u38 u39 u40 u41 u42 u43 u44 u45 u46 u47 u48 u49 u50 u51 u52 u53 u54 u55 u56 u57 u58 u59 u60 u61 u62 u63 u64 u65 u66 u67 u68 u69 u70 u71 u72 u73 u74 u75 u76 u77 u78 u79 u80 u81 u82 u83 u84 u85 u86 u87 u88 u89 u90 u91 u92 u93 u94 u95 u96 u97 u98 u99 u100 u101 u102 u103 u104 u105 u106 u107 u108 u109 u110 u111 u112 u113 u114 u115 u116 u117 u118 u119 u120 u121 u122 u123 u124 u125 u126 u127 u128 u129 u130 u131 u132 u133 u134 u135 u136 u137 u138 u139 u140 u141 u142 u143 u144 u145 u146 u147 u148 u149 u150 u151 u152 u153 u154 u155 u156 u157 u158 u159 u160 u161 u162 u163 u164 u165 u166 u167 u168 u169 u170 u171 u172 u173 u174 u175 u176 u177 u178 u179 u180 u181 u182 u183 u184 u185 u186 u187 u188 u189 u190 u191 u192 u193 u194 u195 u196 u197 u198 u199 u200 u201 u202 u203 u204 u205 u206 u207 u208 u209 u210 u211 u212 u213 u214 u215 u216 u217 u218 u219 u220 u221 u222 u223 u224 u225 u226 u227 u228 u229 u230 u231 u232 u233 u234 u235 u236 u237 u238 u239 u240 u241 u242 u243 u244 u245 u246 u247 u248 u249 u250 u251 u252 u253 u254 u255 u256 u257 u258 u259 u260 u261 u262 u263 u264 u265 u266 u267 u268 u269 u270 u271 u272 u273 u274 u275 u276 u277 : Value}
    (hround : ∀ (f' g' : Int) (W' : World), Ext wr W' → findR l0 ts x y far (i + 1) = some (f', g') → ∀ {v32 v33 v34 v197 v198 v199 v200 v201 v202 v203 v204 v205 v206 v207 v208 v209 v210 v211 v212 v213 v214 v215 v216 v217 v218 v219 v220 v221 v222 v223 v224 v225 v226 v227 v228 v229 v230 v231 v232 v233 v234 v235 v236 v237 v238 v239 v240 v241 v242 v243 v244 v245 v246 v247 v248 v249 v250 v251 v252 v253 v254 v255 v256 v257 v258 v259 v260 v261 : Value},
      Q .normal ⟨#[u0, u1, .int .i64 x, .int .i64 y, .int .i64 far, .int .i64 cx, .int .i64 cy, u7, .pointer (some ⟨pa, 0, none⟩), u9, u10, u11, u12, u13, u14, u15, u16, .bool true, .int .i64 m, .int .i64 s, .int .i64 e, u21, u22, u23, u24, .int .i64 f', .int .i64 g', .bool isB, .int .i64 i, u29, u30, u31, v32, v33, v34, u35, u36, u37, u38, u39, u40, u41, u42, u43, u44, u45, u46, u47, u48, u49, u50, u51, u52, u53, u54, u55, u56, u57, u58, u59, u60, u61, u62, u63, u64, u65, u66, u67, u68, u69, u70, u71, u72, u73, u74, u75, u76, u77, u78, u79, u80, u81, u82, u83, u84, u85, u86, u87, u88, u89, u90, u91, u92, u93, u94, u95, u96, u97, u98, u99, u100, u101, u102, u103, u104, u105, u106, u107, u108, u109, u110, u111, u112, u113, u114, u115, u116, u117, u118, u119, u120, u121, u122, u123, u124, u125, u126, u127, u128, u129, u130, u131, u132, u133, u134, u135, u136, u137, u138, u139, u140, u141, u142, u143, u144, u145, u146, u147, u148, u149, u150, u151, u152, u153, u154, u155, u156, u157, u158, u159, u160, u161, u162, u163, u164, u165, u166, u167, u168, u169, u170, u171, u172, u173, u174, u175, u176, u177, u178, u179, u180, u181, u182, u183, u184, u185, u186, u187, u188, u189, u190, u191, u192, u193, u194, u195, u196, v197, v198, v199, v200, v201, v202, v203, v204, v205, v206, v207, v208, v209, v210, v211, v212, v213, v214, v215, v216, v217, v218, v219, v220, v221, v222, v223, v224, v225, v226, v227, v228, v229, v230, v231, v232, v233, v234, v235, v236, v237, v238, v239, v240, v241, v242, v243, v244, v245, v246, v247, v248, v249, v250, v251, v252, v253, v254, v255, v256, v257, v258, v259, v260, v261, u262, u263, u264, u265, u266, u267, u268, u269, u270, u271, u272, u273, u274, u275, u276, u277], []⟩ W') :
    (restFrom Try.f13 29).wp Try.prog Q
      ⟨#[u0, u1, .int .i64 x, .int .i64 y, .int .i64 far, .int .i64 cx, .int .i64 cy, u7, .pointer (some ⟨pa, 0, none⟩), u9, u10, u11, u12, u13, u14, u15, u16, .bool true, .int .i64 m, .int .i64 s, .int .i64 e, u21, u22, u23, u24, .int .i64 f, .int .i64 g, .bool isB, .int .i64 i, u29, u30, u31, u32, u33, u34, u35, u36, u37, u38, u39, u40, u41, u42, u43, u44, u45, u46, u47, u48, u49, u50, u51, u52, u53, u54, u55, u56, u57, u58, u59, u60, u61, u62, u63, u64, u65, u66, u67, u68, u69, u70, u71, u72, u73, u74, u75, u76, u77, u78, u79, u80, u81, u82, u83, u84, u85, u86, u87, u88, u89, u90, u91, u92, u93, u94, u95, u96, u97, u98, u99, u100, u101, u102, u103, u104, u105, u106, u107, u108, u109, u110, u111, u112, u113, u114, u115, u116, u117, u118, u119, u120, u121, u122, u123, u124, u125, u126, u127, u128, u129, u130, u131, u132, u133, u134, u135, u136, u137, u138, u139, u140, u141, u142, u143, u144, u145, u146, u147, u148, u149, u150, u151, u152, u153, u154, u155, u156, u157, u158, u159, u160, u161, u162, u163, u164, u165, u166, u167, u168, u169, u170, u171, u172, u173, u174, u175, u176, u177, u178, u179, u180, u181, u182, u183, u184, u185, u186, u187, u188, u189, u190, u191, u192, u193, u194, u195, u196, u197, u198, u199, u200, u201, u202, u203, u204, u205, u206, u207, u208, u209, u210, u211, u212, u213, u214, u215, u216, u217, u218, u219, u220, u221, u222, u223, u224, u225, u226, u227, u228, u229, u230, u231, u232, u233, u234, u235, u236, u237, u238, u239, u240, u241, u242, u243, u244, u245, u246, u247, u248, u249, u250, u251, u252, u253, u254, u255, u256, u257, u258, u259, u260, u261, u262, u263, u264, u265, u266, u267, u268, u269, u270, u271, u272, u273, u274, u275, u276, u277], []⟩ wr := by
  have hnr := fun W (hW : Ext wr W) => exNear_any (near_code st.area st.som hp) ca cc W (st.hal.ext hW) st.cap.1 st.cap.2
  have hk := known_012 L x y far
  have hstep := findR_step hfr hfit
  rw [← hL] at hstep
  have hxy : (-10000000 ≤ x ∧ x ≤ 10000000) ∧ (-10000000 ≤ y ∧ y ≤ 10000000) := by
    simp only [placeOk, inB, Bool.and_eq_true, decide_eq_true_eq] at hp
    omega
  have hsem : isB = true → ((-20000000000 ≤ cx ∧ cx ≤ 20000000000) ∧ (-20000000000 ≤ cy ∧ cy ≤ 20000000000)) ∧ (e = 9 ∧ m = 0 ∧ s = 0 ∨ e = 0 ∧ (max (max (cx - x) (x - cx)) (max (cy - y) (y - cy)) ≤ far → 0 ≤ m ∧ m ≤ i) ∧ (s = i → max (max (cx - x) (x - cx)) (max (cy - y) (y - cy)) ≤ far)) := fun hb => by
    obtain ⟨h1, h2, h3⟩ := st.lies hb
    refine ⟨by omega, ?_⟩
    rcases he with h | ⟨h, hf⟩
    · exact .inl h
    · have ha := st.area
      rw [hL] at ha h1
      exact .inr ⟨h, finds_sem hf hi ha h1⟩
  obtain ⟨z0, _⟩ := (Ext.refl wr).box st.box
  generalize knownOf L x y far = k at *
  have hi60 : i ≤ 60 := by omega
  have htail := fun (W : World) => @findsEnd Q W i x y far cx cy m s e isB hi60 hxy hsem
  dsimp only at hround htail
  have HT := Lib.hid htail
  have HR := Lib.hid hround
  have HS := Lib.hid hstep
  have HK := Lib.hid hk
  have Hnr := Lib.hid hnr
  clear hnr
  clear hround htail hstep hk st hL hfr hfit he hsem hxy hp hi60 hi htn
  conv => arg 2; whnf
  by_cases hf0 : f < 0
  · have hf0B : decide (f < 0) = true := decide_eq_true hf0
    by_cases hg0 : g < 0
    · have hg0B : decide (g < 0) = true := decide_eq_true hg0
      rcases HK.out with rfl | rfl | rfl
      · clear HK
        go_upto_if 219 with
          (go_at_call 26; refine (Hnr.out _ (Ext.refl _)).mono ?_; rintro e w1 ⟨rfl, hx1⟩)
        go_step
        go_step
        go_step
        go_step
        exact HT.out _ fun _ => HR.out _ _ _ hx1 (by rw [HS.out]; simp [noteMay, noteSure, hf0, hg0] <;> (try constructor) <;> intros <;> omega)
      · clear HK
        go_upto_if 219 with
          (go_at_call 26; refine (Hnr.out _ (Ext.refl _)).mono ?_; rintro e w1 ⟨rfl, hx1⟩)
        go_step
        go_step
        go_step
        go_step
        exact HT.out _ fun _ => HR.out _ _ _ hx1 (by rw [HS.out]; simp [noteMay, noteSure, hf0, hg0] <;> (try constructor) <;> intros <;> omega)
      · clear HK
        go_upto_region 35 with
          (go_at_call 26; refine (Hnr.out _ (Ext.refl _)).mono ?_; rintro e w1 ⟨rfl, hx1⟩)
        go_step
        go_step
        go_step
        go_step
        go_step
        go_step
        go_step
        go_step
        go_step
        go_step
        exact HT.out _ fun _ => HR.out _ _ _ hx1 (by rw [HS.out]; simp [noteMay, noteSure, hf0, hg0] <;> (try constructor) <;> intros <;> omega)
    · have hg0B : decide (g < 0) = false := decide_eq_false hg0
      rcases HK.out with rfl | rfl | rfl
      · clear HK
        go_upto_if 219 with
          (go_at_call 26; refine (Hnr.out _ (Ext.refl _)).mono ?_; rintro e w1 ⟨rfl, hx1⟩)
        go_step
        go_step
        go_step
        go_step
        exact HT.out _ fun _ => HR.out _ _ _ hx1 (by rw [HS.out]; simp [noteMay, noteSure, hf0, hg0] <;> (try constructor) <;> intros <;> omega)
      · clear HK
        go_upto_if 219 with
          (go_at_call 26; refine (Hnr.out _ (Ext.refl _)).mono ?_; rintro e w1 ⟨rfl, hx1⟩)
        go_step
        go_step
        go_step
        go_step
        exact HT.out _ fun _ => HR.out _ _ _ hx1 (by rw [HS.out]; simp [noteMay, noteSure, hf0, hg0] <;> (try constructor) <;> intros <;> omega)
      · clear HK
        go_upto_if 219 with
          (go_at_call 26; refine (Hnr.out _ (Ext.refl _)).mono ?_; rintro e w1 ⟨rfl, hx1⟩)
        go_step
        go_step
        go_step
        go_step
        exact HT.out _ fun _ => HR.out _ _ _ hx1 (by rw [HS.out]; simp [noteMay, noteSure, hf0, hg0] <;> (try constructor) <;> intros <;> omega)
  · have hf0B : decide (f < 0) = false := decide_eq_false hf0
    by_cases hg0 : g < 0
    · have hg0B : decide (g < 0) = true := decide_eq_true hg0
      rcases HK.out with rfl | rfl | rfl
      · clear HK
        go_upto_if 219 with
          (go_at_call 26; refine (Hnr.out _ (Ext.refl _)).mono ?_; rintro e w1 ⟨rfl, hx1⟩)
        go_step
        go_step
        go_step
        go_step
        exact HT.out _ fun _ => HR.out _ _ _ hx1 (by rw [HS.out]; simp [noteMay, noteSure, hf0, hg0] <;> (try constructor) <;> intros <;> omega)
      · clear HK
        go_upto_if 219 with
          (go_at_call 26; refine (Hnr.out _ (Ext.refl _)).mono ?_; rintro e w1 ⟨rfl, hx1⟩)
        go_step
        go_step
        go_step
        go_step
        exact HT.out _ fun _ => HR.out _ _ _ hx1 (by rw [HS.out]; simp [noteMay, noteSure, hf0, hg0] <;> (try constructor) <;> intros <;> omega)
      · clear HK
        go_upto_region 35 with
          (go_at_call 26; refine (Hnr.out _ (Ext.refl _)).mono ?_; rintro e w1 ⟨rfl, hx1⟩)
        go_step
        go_step
        go_step
        go_step
        go_step
        go_step
        go_step
        go_step
        go_step
        go_step
        exact HT.out _ fun _ => HR.out _ _ _ hx1 (by rw [HS.out]; simp [noteMay, noteSure, hf0, hg0] <;> (try constructor) <;> intros <;> omega)
    · have hg0B : decide (g < 0) = false := decide_eq_false hg0
      rcases HK.out with rfl | rfl | rfl
      · clear HK
        go_upto_if 219 with
          (go_at_call 26; refine (Hnr.out _ (Ext.refl _)).mono ?_; rintro e w1 ⟨rfl, hx1⟩)
        go_step
        go_step
        go_step
        go_step
        exact HT.out _ fun _ => HR.out _ _ _ hx1 (by rw [HS.out]; simp [noteMay, noteSure, hf0, hg0] <;> (try constructor) <;> intros <;> omega)
      · clear HK
        go_upto_if 219 with
          (go_at_call 26; refine (Hnr.out _ (Ext.refl _)).mono ?_; rintro e w1 ⟨rfl, hx1⟩)
        go_step
        go_step
        go_step
        go_step
        exact HT.out _ fun _ => HR.out _ _ _ hx1 (by rw [HS.out]; simp [noteMay, noteSure, hf0, hg0] <;> (try constructor) <;> intros <;> omega)
      · clear HK
        go_upto_if 219 with
          (go_at_call 26; refine (Hnr.out _ (Ext.refl _)).mono ?_; rintro e w1 ⟨rfl, hx1⟩)
        go_step
        go_step
        go_step
        go_step
        exact HT.out _ fun _ => HR.out _ _ _ hx1 (by rw [HS.out]; simp [noteMay, noteSure, hf0, hg0] <;> (try constructor) <;> intros <;> omega)
end Go.Proofs.Ytacdndehlkaaeaa

/- The law GuideFinds: a round's trek. -/
namespace Go.Proofs.Ytacdndehlkaaeaa
open Go.RowKit
set_option linter.unusedVariables false
set_option linter.unusedSimpArgs false
/-- a trek's cells -/
def TrekCells (W : World) (b o : Nat) (t : Trek) : Prop := b < W.heap.size ∧ W.cell? ⟨b, o, none⟩ = some (.int .i64 t.d.lo) ∧ W.cell? ⟨b, o + 1, none⟩ = some (.int .i64 t.d.hi) ∧ W.cell? ⟨b, o + 2, none⟩ = some (.int .i64 t.e.lo) ∧ W.cell? ⟨b, o + 3, none⟩ = some (.int .i64 t.e.hi) ∧ W.cell? ⟨b, o + 4, none⟩ = some (.int .i64 t.n.lo) ∧ W.cell? ⟨b, o + 5, none⟩ = some (.int .i64 t.n.hi)
set_option maxRecDepth 100000 in
set_option maxHeartbeats 8000000 in
theorem findsTrek {Q : Exit → Act → World → Prop} {w wr : World} {pa i j tn : Nat} {L l0 : List Half} {ts : List Trek} {t : Trek} {by' : List Int} {isB : Bool} {ca ya ta : Option Addr} {cn cc yn yc tc : Nat} {x y far cx cy m s e f g : Int}
    (st : GSt w pa j L isB cx cy ca cn cc wr) (hL : L = wayTo l0 ts j) (hij : (i : Int) - 1 = (j : Int)) (hi : i ≤ tn) (htn : tn ≤ 60)
    (hbad : fitB (wayTo l0 ts i) = false → e = 9)
    (hts : TreksAt w ta tn ts) (htj : ts[j]? = some t) (hto : trekOk t = true) (hy : IntsAt .u32 w ya yn by') (hyn : yn ≤ maxLen) (hdr : drawOk by')
    {u0 u9 u10 u11 u12 u13 u14 u15 u16 u21 u22 u23 u24 u29 u30 u31 u32 u33 u34 u35 u36 u37 u38 u39 u40 u41 u42 u43 u44 u45 u46 u47 u48 u49 u50 u51 u52 u53 u54 u55 u56 u57 u58 u59 u60 u61 u62 u63 u64 u65 u66 u67 u68 u69 u70 u71 u72 u73 u74 u75 u76 u77 u78 u79 u80 u81 u82 u83 u84 u85 u86 u87 u88 u89 u90 u91 u92 u93 u94 u95 u96 u97 u98 u99 u100 u101 u102 u103 u104 u105 u106 u107 u108 u109 u110 u111 u112 u113 u114 u115 u116 u117 u118 u119 u120 u121 u122 u123 u124 u125 u126 u127 u128 u129 u130 u131 u132 u133 u134 u135 u136 u137 u138 u139 u140 u141 u142 u143 u144 u145 u146 u147 u148 u149 u150 u151 u152 u153 u154 u155 u156 u157 u158 u159 u160 u161 u162 u163 u164 u165 u166 u167 u168 u169 u170 u171 u172 u173 u174 u175 u176 u177 u178 u179 u180 u181 u182 u183 u184 u185 u186 u187 u188 u189 u190 u191 u192 u193 u194 u195 u196 u197 u198 u199 u200 u201 u202 u203 u204 u205 u206 u207 u208 u209 u210 u211 u212 u213 u214 u215 u216 u217 u218 u219 u220 u221 u222 u223 u224 u225 u226 u227 u228 u229 u230 u231 u232 u233 u234 u235 u236 u237 u238 u239 u240 u241 u242 u243 u244 u245 u246 u247 u248 u249 u250 u251 u252 u253 u254 u255 u256 u257 u258 u259 u260 u261 u262 u263 u264 u265 u266 u267 u268 u269 u270 u271 u272 u273 u274 u275 u276 u277 : Value}
    (hround : ∀ (L' : List Half) (cx' cy' : Int) (ca' : Option Addr) (cn' cc' : Nat) (W' : World), GSt w pa i L' isB cx' cy' ca' cn' cc' W' → L' = wayTo l0 ts i → fitB (wayTo l0 ts i) = true → ∀ {v29 v30 v31 v132 v133 v134 v135 v136 v137 v138 v139 v140 v141 v142 v143 v144 v145 v146 v147 v148 v149 v150 v151 v152 v153 v154 v155 v156 v157 v158 v159 v160 v161 v162 v163 v164 v165 v166 v167 v168 v169 v170 v171 v172 v173 v174 v175 v176 v177 v178 v179 v180 v181 v182 v183 v184 v185 v186 v187 v188 v189 v190 v191 v192 v193 v194 v195 v196 : Value},
      Q .normal ⟨#[u0, .slice ta tn tc, .int .i64 x, .int .i64 y, .int .i64 far, .int .i64 cx', .int .i64 cy', .slice ya yn yc, .pointer (some ⟨pa, 0, none⟩), u9, u10, u11, u12, u13, u14, u15, u16, .bool true, .int .i64 m, .int .i64 s, .int .i64 e, u21, u22, u23, u24, .int .i64 f, .int .i64 g, .bool isB, .int .i64 i, v29, v30, v31, u32, u33, u34, u35, u36, u37, u38, u39, u40, u41, u42, u43, u44, u45, u46, u47, u48, u49, u50, u51, u52, u53, u54, u55, u56, u57, u58, u59, u60, u61, u62, u63, u64, u65, u66, u67, u68, u69, u70, u71, u72, u73, u74, u75, u76, u77, u78, u79, u80, u81, u82, u83, u84, u85, u86, u87, u88, u89, u90, u91, u92, u93, u94, u95, u96, u97, u98, u99, u100, u101, u102, u103, u104, u105, u106, u107, u108, u109, u110, u111, u112, u113, u114, u115, u116, u117, u118, u119, u120, u121, u122, u123, u124, u125, u126, u127, u128, u129, u130, u131, v132, v133, v134, v135, v136, v137, v138, v139, v140, v141, v142, v143, v144, v145, v146, v147, v148, v149, v150, v151, v152, v153, v154, v155, v156, v157, v158, v159, v160, v161, v162, v163, v164, v165, v166, v167, v168, v169, v170, v171, v172, v173, v174, v175, v176, v177, v178, v179, v180, v181, v182, v183, v184, v185, v186, v187, v188, v189, v190, v191, v192, v193, v194, v195, v196, u197, u198, u199, u200, u201, u202, u203, u204, u205, u206, u207, u208, u209, u210, u211, u212, u213, u214, u215, u216, u217, u218, u219, u220, u221, u222, u223, u224, u225, u226, u227, u228, u229, u230, u231, u232, u233, u234, u235, u236, u237, u238, u239, u240, u241, u242, u243, u244, u245, u246, u247, u248, u249, u250, u251, u252, u253, u254, u255, u256, u257, u258, u259, u260, u261, u262, u263, u264, u265, u266, u267, u268, u269, u270, u271, u272, u273, u274, u275, u276, u277], []⟩ W')
    (hret : ∀ (a' : Act) (w' : World), a'.defers = [] → a'.tmps.getD 16 undef = .bool true → Ext w w' → Q .ret a' w') :
    (restFrom Try.f13 22).wp Try.prog Q
      ⟨#[u0, .slice ta tn tc, .int .i64 x, .int .i64 y, .int .i64 far, .int .i64 cx, .int .i64 cy, .slice ya yn yc, .pointer (some ⟨pa, 0, none⟩), u9, u10, u11, u12, u13, u14, u15, u16, .bool true, .int .i64 m, .int .i64 s, .int .i64 e, u21, u22, u23, u24, .int .i64 f, .int .i64 g, .bool isB, .int .i64 i, u29, u30, u31, u32, u33, u34, u35, u36, u37, u38, u39, u40, u41, u42, u43, u44, u45, u46, u47, u48, u49, u50, u51, u52, u53, u54, u55, u56, u57, u58, u59, u60, u61, u62, u63, u64, u65, u66, u67, u68, u69, u70, u71, u72, u73, u74, u75, u76, u77, u78, u79, u80, u81, u82, u83, u84, u85, u86, u87, u88, u89, u90, u91, u92, u93, u94, u95, u96, u97, u98, u99, u100, u101, u102, u103, u104, u105, u106, u107, u108, u109, u110, u111, u112, u113, u114, u115, u116, u117, u118, u119, u120, u121, u122, u123, u124, u125, u126, u127, u128, u129, u130, u131, u132, u133, u134, u135, u136, u137, u138, u139, u140, u141, u142, u143, u144, u145, u146, u147, u148, u149, u150, u151, u152, u153, u154, u155, u156, u157, u158, u159, u160, u161, u162, u163, u164, u165, u166, u167, u168, u169, u170, u171, u172, u173, u174, u175, u176, u177, u178, u179, u180, u181, u182, u183, u184, u185, u186, u187, u188, u189, u190, u191, u192, u193, u194, u195, u196, u197, u198, u199, u200, u201, u202, u203, u204, u205, u206, u207, u208, u209, u210, u211, u212, u213, u214, u215, u216, u217, u218, u219, u220, u221, u222, u223, u224, u225, u226, u227, u228, u229, u230, u231, u232, u233, u234, u235, u236, u237, u238, u239, u240, u241, u242, u243, u244, u245, u246, u247, u248, u249, u250, u251, u252, u253, u254, u255, u256, u257, u258, u259, u260, u261, u262, u263, u264, u265, u266, u267, u268, u269, u270, u271, u272, u273, u274, u275, u276, u277], []⟩ wr := by
  have hjl : j < tn := by omega
  obtain ⟨tb, tof, t', hta, htj', htb, c0, c1, c2, c3, c4, c5⟩ := (hts.ext st.ext).get j hjl
  rw [htj] at htj'
  cases htj'
  subst hta
  have hcells := fun W (hW : Ext wr W) => hW.facts.1
  obtain ⟨t1, t2, t3⟩ := trek_of hto
  have hd0 := hdr (3 * i)
  have hd1 := hdr (3 * i + 1)
  have hd2 := hdr (3 * i + 2)
  have hat0 := fun W (hW : Ext w W) => atLit_any ya yn yc by' (3 * (i : Int)) (3 * i) (by omega) W (hy.ext hW) hyn (by omega)
  have hat1 := fun W (hW : Ext w W) => atLit_any ya yn yc by' (3 * (i : Int) + 1) (3 * i + 1) (by omega) W (hy.ext hW) hyn (by omega)
  have hat2 := fun W (hW : Ext w W) => atLit_any ya yn yc by' (3 * (i : Int) + 2) (3 * i + 2) (by omega) W (hy.ext hW) hyn (by omega)
  generalize drawAt by' (3 * i) = k0 at *
  generalize drawAt by' (3 * i + 1) = k1 at *
  generalize drawAt by' (3 * i + 2) = k2 at *
  obtain ⟨D, hD⟩ : ∃ s, pickOf t.d k0 = s := ⟨_, rfl⟩
  obtain ⟨E, hE⟩ : ∃ s, pickOf t.e k1 = s := ⟨_, rfl⟩
  obtain ⟨N, hN⟩ : ∃ s, pickOf t.n k2 = s := ⟨_, rfl⟩
  have iD := pick_in t1.2.1 hd0.1
  have iE := pick_in t2.2.1 hd1.1
  have iN := pick_in t3.2.1 hd2.1
  rw [hD] at iD
  rw [hE] at iE
  rw [hN] at iN
  have hpD := fun W => pickK_any hD W (by omega) (by omega) (by omega) hd0
  have hpE := fun W => pickK_any hE W (by omega) (by omega) (by omega) hd1
  have hpN := fun W => pickK_any hN W (by omega) (by omega) (by omega) hd2
  have hway : wayTo l0 ts i = movedOf L t := by
    rw [hL, show i = j + 1 by omega]
    exact wayTo_succ htj
  rw [hway] at hbad
  obtain ⟨A, d, hA, hcase⟩ : ∃ A d, marchOf L t = (A, d) ∧ (d = 9 ∧ e = 9 ∨ d = 0 ∧ A = movedOf L t ∧ AreaOk A ∧ (∃ p, In A p) ∧ fitB (wayTo l0 ts i) = true ∧ (isB = true → In A (pt (cx + D * E) (cy + D * N)))) := by
    rcases march_step st.area hto with ⟨h1, h2, p, hp'⟩ | h1 | ⟨_, hno⟩
    · refine ⟨_, _, h1, .inr ⟨rfl, rfl, h2, moved_some hto hp', ?_, fun hb => march_in (st.lies hb).1 iD.1 iD.2 iE.1 iE.2 iN.1 iN.2⟩⟩
      have h4 := (march_ok st.area hto).2.1
      rw [h1] at h4
      simp only at h4
      rw [hway]
      cases hb : fitB (movedOf L t) with
      | true => rfl
      | false => exact absurd (h4.2 hb) (by simp)
    · refine ⟨_, _, h1, .inl ⟨rfl, hbad ?_⟩⟩
      have h4 := (march_ok st.area hto).2.1
      rw [h1] at h4
      exact h4.1 rfl
    · obtain ⟨p, hp'⟩ := st.som
      exact absurd hp' (hno p)
  obtain ⟨K, hK⟩ : ∃ n, A.length = n := ⟨_, rfl⟩
  have hm := fun W (hW : Ext wr W) (hH : HalvesAt W ca cn L) => marchEither_any hA hK ca cc W hH st.cap.1 st.cap.2
  have m1 := mul_le (A := 60) (B := 100000) (show -60 ≤ D by omega) (show D ≤ 60 by omega) (show -100000 ≤ E by omega) (show E ≤ 100000 by omega)
  have m2 := mul_le (A := 60) (B := 100000) (show -60 ≤ D by omega) (show D ≤ 60 by omega) (show -100000 ≤ N by omega) (show N ≤ 100000 by omega)
  simp only [Int.reduceMul, Int.reduceNeg] at m1 m2
  have hcl : ∀ W, Ext w W → TrekCells W tb (tof + j * 6) t := fun W hW => by
    obtain ⟨b', o', t', e1, e2, b0, b1, b2, b3, b4, b5, b6⟩ := (hts.ext hW).get j hjl
    cases e1
    rw [htj] at e2
    cases e2
    exact ⟨b0, b1, b2, b3, b4, b5, b6⟩
  unfold TrekCells at hcl
  unfold EitherPost at hm
  obtain ⟨⟨d0, d1⟩, ⟨e0, e1⟩, ⟨n0, n1⟩⟩ := t
  unfold Trek.val at hm
  simp only at hm hcl c0 c1 c2 c3 c4 c5 hpD hpE hpN t1 t2 t3 iD iE iN
  obtain ⟨P1, p1⟩ : ∃ P, D * E = P := ⟨_, rfl⟩
  obtain ⟨P2, p2⟩ : ∃ P, D * N = P := ⟨_, rfl⟩
  rw [p1] at m1 hcase
  rw [p2] at m2 hcase
  have hi60 : 1 ≤ i ∧ i ≤ 60 := by omega
  dsimp only at hround
  have HR := Lib.hid hround
  have HRet := Lib.hid hret
  have St := Lib.hid st
  have HC := Lib.hid hcase
  have HI := Lib.hid hi60
  have Hc := Lib.hid hcl
  have Hway := Lib.hid hway
  have HL := Lib.hid hL
  have HA := Lib.hid hA
  have HK := Lib.hid hK
  have Hjl := Lib.hid hjl
  have Hm := Lib.hid hm
  have Hat0 := Lib.hid hat0
  have Hat1 := Lib.hid hat1
  have Hat2 := Lib.hid hat2
  have HpD := Lib.hid hpD
  have HpE := Lib.hid hpE
  have HpN := Lib.hid hpN
  clear hm hat0 hat1 hat2 hpD hpE hpN
  clear hround hret st hcase hi60 hcl hway hL hA hK hts htj hto hy hyn hdr hd0 hd1 hd2 hD hE hN iD iE iN t1 t2 t3 hbad hcells hi htn
  conv => arg 2; whnf
  go_upto_region 22 with fail
  have hj2 := Hjl.out
  have hi2 := HI.out
  refine wp_region_plan (.take [0, 1, 2, 3, 4, 5] (.two 6 (.free [7, 8, 9] (.one 10 (.fin (.one 11 (.one 12 .done))))) 10 (.one 6 (.free [7, 8, 9] (.fin (.one 11 (.one 12 .done))))))) [11, 12] (Ext wr) _ (by kernel_rfl) (by kernel_rfl) rfl (EC.ext wr) ((Ext.refl _).drew) ?_
  simp only [planOf, treeOf, oneOp, twoOp, opsOf, consOp, callOC, oneOC, twoOC, List.getElem?_toArray, List.getElem?_cons_succ, List.getElem?_cons_zero]
  intro ι _ f hf
  have f0 := fun q => ((hf q).box St.out.box).1
  have f1 := fun q => (hf q).facts.1
  clear hf
  repeat (go_big_quiet_step (fail))
  refine wpQuiet_nil ?_
  clear f0 f1 c0 c1 c2 c3 c4 c5 hj2 hi2 hjl
  refine wpOC_two ?_
  apply join_ordersK (F := fun a c p W => Ext wr W ∧ W.heap[p]? = some (.cells #[.slice a K c] 24 (0, 0)) ∧ (0 < K → HalvesAt W a K A) ∧ K ≤ c ∧ c ≤ maxLen ∧ From wr.heap.size a ∧ wr.heap.size ≤ p)
  · intro G Wa hxa
    have hI := St.out.hal.ext hxa
    go_wp2_with (go_at_call 30; refine (Hm.out _ (by first | exact hxa | exact hxd.trans hxe) hI).mono ?_; rintro e Wb ⟨ba, bc, rfl, q1, q2, hxb, hHb, hfb⟩)
    have hxab := hxa.trans hxb
    have hfb := hfb.mono hxa.size
    have hlt := fun (h0 : 0 < K) => hHb.lt h0
    refine ⟨Ext Wb, EC.ext Wb, fun _ h => hxab.trans h, Ext.refl Wb, ?_⟩
    refine wpOC_free ?_
    repeat (go_big_quiet_step (fail))
    refine wpQuiet_nil ?_
    intro Wc hxc
    go_wp2_with fail
    have hpa := heap_alloc_new Wc (.cells #[.slice none 0 0] 24)
    have hxd := hxc.alloc (.cells #[.slice none 0 0] 24)
    have hp8 := (hxab.trans hxc).size
    have hne : 0 < K → ∀ X, ba = some X → X.block ≠ Wc.heap.size := fun h0 X hX => by
      have h1 := hlt h0 X hX
      have h2 := hxc.size
      omega
    generalize Wc.alloc (.cells #[.slice none 0 0] 24) = Wd at *
    generalize Wc.heap.size = p at *
    refine ⟨Ext Wd, EC.ext Wd, fun _ h => hxd.trans h, Ext.refl Wd, ?_⟩
    intro We hxe
    have hHe := hHb.ext (hxd.trans hxe)
    have hx8 := hxab.trans (hxd.trans hxe)
    have hpe := hxe.heap hpa
    clear hxa hI hxb hHb hxab hlt hxc hpa hxd hxe
    obtain ⟨k0, k1⟩ := (Ext.refl We).box hpe
    have hpl := heap_lt hpe
    refine wpOT_one ?_
    go_wp2_with fail
    refine wpOT_one ?_
    go_wp2_with fail
    refine wpOT_done ?_
    exact G ba bc p _ ⟨hx8.setCell (p := ⟨p, 0, none⟩) hp8 _, by rw [heap_setCell_box, hpe]; rfl, fun h0 => hHe.same fun X hX => Below.heap_setCell _ _ _ _ (hne h0 X hX), q1, q2, hfb, hp8⟩
  · intro G Wa hxa
    go_wp2_with fail
    have hpa := heap_alloc_new Wa (.cells #[.slice none 0 0] 24)
    have hxd := hxa.alloc (.cells #[.slice none 0 0] 24)
    have hp8 := hxa.size
    have hps := heap_lt hpa
    generalize Wa.alloc (.cells #[.slice none 0 0] 24) = Wd at *
    generalize Wa.heap.size = p at *
    refine ⟨Ext Wd, EC.ext Wd, fun _ h => hxd.trans h, Ext.refl Wd, ?_⟩
    clear hxa
    intro We hxe
    have hI := St.out.hal.ext (hxd.trans hxe)
    go_wp2_with (go_at_call 30; refine (Hm.out _ (by first | exact hxa | exact hxd.trans hxe) hI).mono ?_; rintro e Wb ⟨ba, bc, rfl, q1, q2, hxb, hHb, hfb⟩)
    have hne : ∀ X, ba = some X → X.block ≠ p := fun X hX => by
      have h1 := hfb X hX
      have h2 := hxe.size
      omega
    have hfb := hfb.mono (hxd.trans hxe).size
    have hxeb := hxe.trans hxb
    refine ⟨Ext Wb, EC.ext Wb, fun _ h => hxeb.trans h, Ext.refl Wb, ?_⟩
    refine wpOC_free ?_
    repeat (go_big_quiet_step (fail))
    refine wpQuiet_nil ?_
    intro Wc hxc
    have hHe := hHb.ext hxc
    have hx8 := hxd.trans (hxeb.trans hxc)
    have hpe := (hxeb.trans hxc).heap hpa
    clear hI hxb hHb hxc hpa hxd hxe hxeb hps
    obtain ⟨k0, k1⟩ := (Ext.refl Wc).box hpe
    have hpl := heap_lt hpe
    refine wpOT_one ?_
    go_wp2_with fail
    refine wpOT_one ?_
    go_wp2_with fail
    refine wpOT_done ?_
    exact G ba bc p _ ⟨hx8.setCell (p := ⟨p, 0, none⟩) hp8 _, by rw [heap_setCell_box, hpe]; rfl, fun _ => hHe.same fun X hX => Below.heap_setCell _ _ _ _ (hne X hX), q1, q2, hfb, hp8⟩
  rintro a5 c5 p5 W5 ⟨hx5, hb5, hH5, s5, t5, hf5, hp5⟩
  have st5' := St.out.ext' hx5
  have hpa := heap_lt St.out.box
  rcases HC.out with ⟨rfl, rfl⟩ | ⟨rfl, hAe, hA2, hsm, hfitt, hli⟩
  · have Hx5 := Lib.hid st5'.ext
    clear HC hb5 hH5 hf5 hp5 s5 t5 hx5 st5' hpa
    go_wp2_with fail
    exact HRet.out _ _ rfl rfl Hx5.out
  · have hKp : 0 < K := by have := HK.out; have := hA2.len.1; omega
    have hbd : isB = true → ((-20000000000 ≤ cx ∧ cx ≤ 20000000000) ∧ (-20000000000 ≤ cy ∧ cy ≤ 20000000000)) := fun hb => by
      have h1 := (St.out.lies hb).2
      have h2 := HI.out
      omega
    have hne : ∀ X, a5 = some X → X.block ≠ pa := fun X hX => by have := hf5 X hX; omega
    have HF := Lib.hid hfitt
    have HE := Lib.hid (hAe.trans Hway.out.symm)
    obtain ⟨z5, _⟩ := (Ext.refl W5).box hb5
    obtain ⟨y5, y5'⟩ := (Ext.refl W5).box st5'.box
    have l5 := heap_lt st5'.box
    cases isB with
    | true =>
      obtain ⟨⟨c0, c1⟩, c2, c3⟩ := hbd rfl
      have st6 := st5'.put (i' := i) (cx' := cx + P1) (cy' := cy + P2) hA2 hsm (fun hb => ⟨hli hb, by have := (St.out.lies hb).2; omega⟩) ⟨s5, t5⟩ (hH5 hKp) hne
      have St6 := Lib.hid st6
      clear st6 st5' hpa HC hb5 hH5 hf5 hp5 hx5 s5 t5 hAe hA2 hsm hfitt hli hbd hne hKp
      go_upto_region 26 with fail
      generalize W5.setCell ⟨pa, 0, none⟩ (.slice a5 K c5) = W6 at *
      have Hx6 := Lib.hid St6.out.ext
      have hj2 := Hjl.out
      clear z5 y5 y5' l5
      refine wp_region_plan (.take [0, 1, 2, 3, 4, 5, 6, 7, 8] (.call 9 (.call 10 (.fin (.one 11 .done))))) [11] (Ext W6) _ (by kernel_rfl) (by kernel_rfl) rfl (EC.ext W6) ((Ext.refl _).drew) ?_
      simp only [planOf, treeOf, oneOp, twoOp, opsOf, consOp, callOC, oneOC, twoOC, List.getElem?_toArray, List.getElem?_cons_succ, List.getElem?_cons_zero]
      intro ι _ f hf
      have f0 := fun q => Hc.out (f q) (Hx6.out.trans (hf q))
      have hi := HI.out
      clear hf
      repeat (go_big_quiet_step (fail))
      refine wpQuiet_nil ?_
      clear f0 hi
      refine wpOC_call (args := #[.slice ya yn yc, .int .i64 (3 * (i : Int))]) (v := .int .u32 k0) rfl rfl (enters_of Try.func44 (by kernel_rfl) rfl) (by kernel_rfl) (fun V hV => Hat0.out V (Hx6.out.trans hV)) ?_
      simp only [Act.put, List.setIfInBounds_toArray, List.set_cons_succ, List.set_cons_zero]
      refine wpOC_call (args := #[.agg #[.int .i64 d0, .int .i64 d1], .int .u32 k0]) (v := .int .i64 D) rfl rfl (enters_of Try.func46 (by kernel_rfl) rfl) (by kernel_rfl) (fun V hV => HpD.out V) ?_
      simp only [Act.put, List.setIfInBounds_toArray, List.set_cons_succ, List.set_cons_zero]
      intro W7 hx7
      refine wpOT_one ?_
      go_wp2_with fail
      refine wpOT_done ?_
      go_upto_region 27 with fail
      have hx7a := hx7
      clear hx7
      refine wp_region_plan (.take [0, 1, 2, 3, 4, 5, 6, 7, 8, 9, 10, 11] (.call 12 (.call 13 (.free [14, 15] (.fin (.one 16 .done)))))) [16] (Ext W7) _ (by kernel_rfl) (by kernel_rfl) rfl (EC.ext W7) ((Ext.refl _).drew) ?_
      simp only [planOf, treeOf, oneOp, twoOp, opsOf, consOp, callOC, oneOC, twoOC, List.getElem?_toArray, List.getElem?_cons_succ, List.getElem?_cons_zero]
      intro ι _ f hf
      have f0 := fun q => Hc.out (f q) ((Hx6.out.trans hx7a).trans (hf q))
      have hi := HI.out
      clear hf
      repeat (go_big_quiet_step (fail))
      refine wpQuiet_nil ?_
      clear f0 hi
      refine wpOC_call (args := #[.slice ya yn yc, .int .i64 (3 * (i : Int) + 1)]) (v := .int .u32 k1) rfl rfl (enters_of Try.func44 (by kernel_rfl) rfl) (by kernel_rfl) (fun V hV => Hat1.out V ((Hx6.out.trans hx7a).trans hV)) ?_
      simp only [Act.put, List.setIfInBounds_toArray, List.set_cons_succ, List.set_cons_zero]
      refine wpOC_call (args := #[.agg #[.int .i64 e0, .int .i64 e1], .int .u32 k1]) (v := .int .i64 E) rfl rfl (enters_of Try.func46 (by kernel_rfl) rfl) (by kernel_rfl) (fun V hV => HpE.out V) ?_
      simp only [Act.put, List.setIfInBounds_toArray, List.set_cons_succ, List.set_cons_zero]
      refine wpOC_free ?_
      repeat (go_big_quiet_step (fail))
      refine wpQuiet_nil ?_
      intro W8 hx8
      have hx8a := hx7a.trans hx8
      refine wpOT_one ?_
      go_wp2_with fail
      refine wpOT_done ?_
      go_upto_region 28 with fail
      clear hx8 hx7a
      refine wp_region_plan (.take [0, 1, 2, 3, 4, 5, 6, 7, 8, 9, 10, 11] (.call 12 (.call 13 (.free [14, 15] (.fin (.one 16 .done)))))) [16] (Ext W8) _ (by kernel_rfl) (by kernel_rfl) rfl (EC.ext W8) ((Ext.refl _).drew) ?_
      simp only [planOf, treeOf, oneOp, twoOp, opsOf, consOp, callOC, oneOC, twoOC, List.getElem?_toArray, List.getElem?_cons_succ, List.getElem?_cons_zero]
      intro ι _ f hf
      have f0 := fun q => Hc.out (f q) ((Hx6.out.trans hx8a).trans (hf q))
      have hi := HI.out
      clear hf
      repeat (go_big_quiet_step (fail))
      refine wpQuiet_nil ?_
      clear f0 hi
      refine wpOC_call (args := #[.slice ya yn yc, .int .i64 (3 * (i : Int) + 2)]) (v := .int .u32 k2) rfl rfl (enters_of Try.func44 (by kernel_rfl) rfl) (by kernel_rfl) (fun V hV => Hat2.out V ((Hx6.out.trans hx8a).trans hV)) ?_
      simp only [Act.put, List.setIfInBounds_toArray, List.set_cons_succ, List.set_cons_zero]
      refine wpOC_call (args := #[.agg #[.int .i64 n0, .int .i64 n1], .int .u32 k2]) (v := .int .i64 N) rfl rfl (enters_of Try.func46 (by kernel_rfl) rfl) (by kernel_rfl) (fun V hV => HpN.out V) ?_
      simp only [Act.put, List.setIfInBounds_toArray, List.set_cons_succ, List.set_cons_zero]
      refine wpOC_free ?_
      repeat (go_big_quiet_step (fail))
      refine wpQuiet_nil ?_
      intro W9 hx9
      have hx9a := hx8a.trans hx9
      refine wpOT_one ?_
      go_wp2_with fail
      refine wpOT_done ?_
      clear hx9 hx8a hj2
      exact HR.out _ _ _ _ _ _ _ (St6.out.ext' hx9a) HE.out HF.out
    | false =>
      have st6 := st5'.put (i' := i) (cx' := wrap64 (cx + P1)) (cy' := wrap64 (cy + P2)) hA2 hsm (fun hb => by cases hb) ⟨s5, t5⟩ (hH5 hKp) hne
      have St6 := Lib.hid st6
      clear st6 st5' hpa HC hb5 hH5 hf5 hp5 hx5 s5 t5 hAe hA2 hsm hfitt hli hbd hne hKp
      go_upto_region 26 with fail
      generalize W5.setCell ⟨pa, 0, none⟩ (.slice a5 K c5) = W6 at *
      have Hx6 := Lib.hid St6.out.ext
      have hj2 := Hjl.out
      clear z5 y5 y5' l5
      refine wp_region_plan (.take [0, 1, 2, 3, 4, 5, 6, 7, 8] (.call 9 (.call 10 (.fin (.one 11 .done))))) [11] (Ext W6) _ (by kernel_rfl) (by kernel_rfl) rfl (EC.ext W6) ((Ext.refl _).drew) ?_
      simp only [planOf, treeOf, oneOp, twoOp, opsOf, consOp, callOC, oneOC, twoOC, List.getElem?_toArray, List.getElem?_cons_succ, List.getElem?_cons_zero]
      intro ι _ f hf
      have f0 := fun q => Hc.out (f q) (Hx6.out.trans (hf q))
      have hi := HI.out
      clear hf
      repeat (go_big_quiet_step (fail))
      refine wpQuiet_nil ?_
      clear f0 hi
      refine wpOC_call (args := #[.slice ya yn yc, .int .i64 (3 * (i : Int))]) (v := .int .u32 k0) rfl rfl (enters_of Try.func44 (by kernel_rfl) rfl) (by kernel_rfl) (fun V hV => Hat0.out V (Hx6.out.trans hV)) ?_
      simp only [Act.put, List.setIfInBounds_toArray, List.set_cons_succ, List.set_cons_zero]
      refine wpOC_call (args := #[.agg #[.int .i64 d0, .int .i64 d1], .int .u32 k0]) (v := .int .i64 D) rfl rfl (enters_of Try.func46 (by kernel_rfl) rfl) (by kernel_rfl) (fun V hV => HpD.out V) ?_
      simp only [Act.put, List.setIfInBounds_toArray, List.set_cons_succ, List.set_cons_zero]
      intro W7 hx7
      refine wpOT_one ?_
      go_wp2_with fail
      refine wpOT_done ?_
      go_upto_region 27 with fail
      have hx7a := hx7
      clear hx7
      refine wp_region_plan (.take [0, 1, 2, 3, 4, 5, 6, 7, 8, 9, 10, 11] (.call 12 (.call 13 (.free [14, 15] (.fin (.one 16 .done)))))) [16] (Ext W7) _ (by kernel_rfl) (by kernel_rfl) rfl (EC.ext W7) ((Ext.refl _).drew) ?_
      simp only [planOf, treeOf, oneOp, twoOp, opsOf, consOp, callOC, oneOC, twoOC, List.getElem?_toArray, List.getElem?_cons_succ, List.getElem?_cons_zero]
      intro ι _ f hf
      have f0 := fun q => Hc.out (f q) ((Hx6.out.trans hx7a).trans (hf q))
      have hi := HI.out
      clear hf
      repeat (go_big_quiet_step (fail))
      refine wpQuiet_nil ?_
      clear f0 hi
      refine wpOC_call (args := #[.slice ya yn yc, .int .i64 (3 * (i : Int) + 1)]) (v := .int .u32 k1) rfl rfl (enters_of Try.func44 (by kernel_rfl) rfl) (by kernel_rfl) (fun V hV => Hat1.out V ((Hx6.out.trans hx7a).trans hV)) ?_
      simp only [Act.put, List.setIfInBounds_toArray, List.set_cons_succ, List.set_cons_zero]
      refine wpOC_call (args := #[.agg #[.int .i64 e0, .int .i64 e1], .int .u32 k1]) (v := .int .i64 E) rfl rfl (enters_of Try.func46 (by kernel_rfl) rfl) (by kernel_rfl) (fun V hV => HpE.out V) ?_
      simp only [Act.put, List.setIfInBounds_toArray, List.set_cons_succ, List.set_cons_zero]
      refine wpOC_free ?_
      repeat (go_big_quiet_step (fail))
      refine wpQuiet_nil ?_
      intro W8 hx8
      have hx8a := hx7a.trans hx8
      refine wpOT_one ?_
      go_wp2_with fail
      refine wpOT_done ?_
      go_upto_region 28 with fail
      clear hx8 hx7a
      refine wp_region_plan (.take [0, 1, 2, 3, 4, 5, 6, 7, 8, 9, 10, 11] (.call 12 (.call 13 (.free [14, 15] (.fin (.one 16 .done)))))) [16] (Ext W8) _ (by kernel_rfl) (by kernel_rfl) rfl (EC.ext W8) ((Ext.refl _).drew) ?_
      simp only [planOf, treeOf, oneOp, twoOp, opsOf, consOp, callOC, oneOC, twoOC, List.getElem?_toArray, List.getElem?_cons_succ, List.getElem?_cons_zero]
      intro ι _ f hf
      have f0 := fun q => Hc.out (f q) ((Hx6.out.trans hx8a).trans (hf q))
      have hi := HI.out
      clear hf
      repeat (go_big_quiet_step (fail))
      refine wpQuiet_nil ?_
      clear f0 hi
      refine wpOC_call (args := #[.slice ya yn yc, .int .i64 (3 * (i : Int) + 2)]) (v := .int .u32 k2) rfl rfl (enters_of Try.func44 (by kernel_rfl) rfl) (by kernel_rfl) (fun V hV => Hat2.out V ((Hx6.out.trans hx8a).trans hV)) ?_
      simp only [Act.put, List.setIfInBounds_toArray, List.set_cons_succ, List.set_cons_zero]
      refine wpOC_call (args := #[.agg #[.int .i64 n0, .int .i64 n1], .int .u32 k2]) (v := .int .i64 N) rfl rfl (enters_of Try.func46 (by kernel_rfl) rfl) (by kernel_rfl) (fun V hV => HpN.out V) ?_
      simp only [Act.put, List.setIfInBounds_toArray, List.set_cons_succ, List.set_cons_zero]
      refine wpOC_free ?_
      repeat (go_big_quiet_step (fail))
      refine wpQuiet_nil ?_
      intro W9 hx9
      have hx9a := hx8a.trans hx9
      refine wpOT_one ?_
      go_wp2_with fail
      refine wpOT_done ?_
      clear hx9 hx8a hj2
      exact HR.out _ _ _ _ _ _ _ (St6.out.ext' hx9a) HE.out HF.out
end Go.Proofs.Ytacdndehlkaaeaa

/- The law GuideFinds: its second loop. -/
namespace Go.Proofs.Ytacdndehlkaaeaa
open Go.RowKit
set_option linter.unusedVariables false
set_option linter.unusedSimpArgs false
set_option maxRecDepth 100000 in
set_option maxHeartbeats 8000000 in
theorem findsLoop {w W : World} {pa tn len cap yn yc tc : Nat} {l : List Half} {ts : List Trek} {by' : List Int} {a ya ta : Option Addr} {x y far cx cy m s e : Int}
    (hx : Ext w W) (ha0 : W.heap[pa]? = some (.cells #[.slice a len cap] 24 (0, 0))) (hpw : w.heap.size ≤ pa) (hne : ∀ X, a = some X → X.block ≠ pa) (hA : AreaOk l) (hs : ∃ p, In l p) (hl : HalvesAt w a len l) (hc : len ≤ cap) (hm : cap ≤ maxLen)
    (htn : tn ≤ 60) (hp : (placeOk x && placeOk y && inB far 0 10000000) = true) (hts : TreksAt w ta tn ts) (hall : ts.all trekOk = true) (hy : IntsAt .u32 w ya yn by') (hyn : yn ≤ maxLen) (hdr : drawOk by')
    (he : e = 9 ∧ m = 0 ∧ s = 0 ∧ findTo l ts x y far tn = none ∨ e = 0 ∧ findTo l ts x y far tn = some (m, s))
    {u0 u9 u10 u11 u12 u13 u14 u15 u16 u21 u22 u23 u24 u25 u26 u27 u28 u29 u30 u31 u32 u33 u34 u35 u36 u37 u38 u39 u40 u41 u42 u43 u44 u45 u46 u47 u48 u49 u50 u51 u52 u53 u54 u55 u56 u57 u58 u59 u60 u61 u62 u63 u64 u65 u66 u67 u68 u69 u70 u71 u72 u73 u74 u75 u76 u77 u78 u79 u80 u81 u82 u83 u84 u85 u86 u87 u88 u89 u90 u91 u92 u93 u94 u95 u96 u97 u98 u99 u100 u101 u102 u103 u104 u105 u106 u107 u108 u109 u110 u111 u112 u113 u114 u115 u116 u117 u118 u119 u120 u121 u122 u123 u124 u125 u126 u127 u128 u129 u130 u131 u132 u133 u134 u135 u136 u137 u138 u139 u140 u141 u142 u143 u144 u145 u146 u147 u148 u149 u150 u151 u152 u153 u154 u155 u156 u157 u158 u159 u160 u161 u162 u163 u164 u165 u166 u167 u168 u169 u170 u171 u172 u173 u174 u175 u176 u177 u178 u179 u180 u181 u182 u183 u184 u185 u186 u187 u188 u189 u190 u191 u192 u193 u194 u195 u196 u197 u198 u199 u200 u201 u202 u203 u204 u205 u206 u207 u208 u209 u210 u211 u212 u213 u214 u215 u216 u217 u218 u219 u220 u221 u222 u223 u224 u225 u226 u227 u228 u229 u230 u231 u232 u233 u234 u235 u236 u237 u238 u239 u240 u241 u242 u243 u244 u245 u246 u247 u248 u249 u250 u251 u252 u253 u254 u255 u256 u257 u258 u259 u260 u261 u262 u263 u264 u265 u266 u267 u268 u269 u270 u271 u272 u273 u274 u275 u276 u277 : Value} :
    (restFrom Try.f13 16).wp Try.prog (bodyPost Try.prog Try.f13 fun e w' => e = .returned (.bool true) ∧ Ext w w')
      ⟨#[u0, .slice ta tn tc, .int .i64 x, .int .i64 y, .int .i64 far, .int .i64 cx, .int .i64 cy, .slice ya yn yc, .pointer (some ⟨pa, 0, none⟩), u9, u10, u11, u12, u13, u14, u15, u16, .bool true, .int .i64 m, .int .i64 s, .int .i64 e, u21, u22, u23, u24, u25, u26, u27, u28, u29, u30, u31, u32, u33, u34, u35, u36, u37, u38, u39, u40, u41, u42, u43, u44, u45, u46, u47, u48, u49, u50, u51, u52, u53, u54, u55, u56, u57, u58, u59, u60, u61, u62, u63, u64, u65, u66, u67, u68, u69, u70, u71, u72, u73, u74, u75, u76, u77, u78, u79, u80, u81, u82, u83, u84, u85, u86, u87, u88, u89, u90, u91, u92, u93, u94, u95, u96, u97, u98, u99, u100, u101, u102, u103, u104, u105, u106, u107, u108, u109, u110, u111, u112, u113, u114, u115, u116, u117, u118, u119, u120, u121, u122, u123, u124, u125, u126, u127, u128, u129, u130, u131, u132, u133, u134, u135, u136, u137, u138, u139, u140, u141, u142, u143, u144, u145, u146, u147, u148, u149, u150, u151, u152, u153, u154, u155, u156, u157, u158, u159, u160, u161, u162, u163, u164, u165, u166, u167, u168, u169, u170, u171, u172, u173, u174, u175, u176, u177, u178, u179, u180, u181, u182, u183, u184, u185, u186, u187, u188, u189, u190, u191, u192, u193, u194, u195, u196, u197, u198, u199, u200, u201, u202, u203, u204, u205, u206, u207, u208, u209, u210, u211, u212, u213, u214, u215, u216, u217, u218, u219, u220, u221, u222, u223, u224, u225, u226, u227, u228, u229, u230, u231, u232, u233, u234, u235, u236, u237, u238, u239, u240, u241, u242, u243, u244, u245, u246, u247, u248, u249, u250, u251, u252, u253, u254, u255, u256, u257, u258, u259, u260, u261, u262, u263, u264, u265, u266, u267, u268, u269, u270, u271, u272, u273, u274, u275, u276, u277], []⟩ W := by
  have htl := hts.1
  have hev : e = 9 ∧ m = 0 ∧ s = 0 ∨ e = 0 ∧ FirstIs l ts x y far tn m s := by
    rcases he with ⟨h1, h2, h3, _⟩ | ⟨h1, h2⟩
    · exact .inl ⟨h1, h2, h3⟩
    · exact .inr ⟨h1, first_is tn m s h2⟩
  have hbad : ∀ i, 1 ≤ i → i ≤ tn → fitB (wayTo l ts i) = false → e = 9 := fun i h1 h2 h3 => by
    have h4 := findTo_bad (x := x) (y := y) (far := far) (k := i - 1) (n := tn) (by rw [show i - 1 + 1 = i by omega]; exact h3) (by omega)
    rcases he with ⟨h, _⟩ | ⟨_, h5⟩
    · exact h
    · rw [h4] at h5; cases h5
  have hend : ∀ f g, findR l ts x y far (tn + 1) = some (f, g) → e = 0 ∧ f = m ∧ g = s := fun f g h => by
    have h : findTo l ts x y far tn = some (f, g) := h
    rcases he with ⟨_, _, _, h5⟩ | ⟨h0, h5⟩
    · rw [h5] at h; cases h
    · rw [h5] at h; cases h; exact ⟨h0, rfl, rfl⟩
  have hfi := fun W => farIn_any cx cy W
  have hget : ∀ j, j < tn → ∃ t, ts[j]? = some t ∧ trekOk t = true := fun j hj => by
    have hj' : j < ts.length := by omega
    exact ⟨_, List.getElem?_eq_getElem hj', List.all_eq_true.1 hall _ (List.getElem_mem hj')⟩
  -- whether the caravan is in the area
  obtain ⟨isB, hisB⟩ : ∃ b, (farIn cx cy && inB2 l cx cy) = b := ⟨_, rfl⟩
  have hxl := hl.ext hx
  have hst : ∀ W', Ext W W' → GSt w pa 0 l isB cx cy a len cap W' := fun W' hW => by
    refine ⟨hx.trans hW, hA, hs, fun hb => ?_, hW.heap ha0, ⟨hc, hm⟩, hxl.ext hW, hne, hpw⟩
    rw [hb] at hisB
    simp only [Bool.and_eq_true] at hisB
    have h1 := of_decide_eq_true hisB.1
    exact ⟨inB2_iff.1 hisB.2, by omega, by omega⟩
  have HST := Lib.hid hst
  have HEv := Lib.hid hev
  have HBad := Lib.hid hbad
  have HEnd := Lib.hid hend
  have Hget := Lib.hid hget
  have HP := Lib.hid hp
  have HTS := Lib.hid hts
  have HY := Lib.hid (And.intro hy (And.intro hyn hdr))
  have HTN := Lib.hid htn
  obtain ⟨z0, _⟩ := (Ext.refl W).box ha0
  have hin := fun (hb : farIn cx cy = true) W' (hW : Ext w W') => by
    have h1 := of_decide_eq_true hb
    exact inPt_any a len cap l cx cy W' (hl.ext hW) (by have := hA.len; have := hl.1; omega) hA.each (by omega) (by omega) (by omega) (by omega)
  have Hx := Lib.hid hx
  clear hx
  clear he hst hev hbad hend hget hp hts hy hyn hdr htl hs hc hm hl hxl hne hpw ha0 hall
  conv => arg 2; whnf
  cases hfo : farIn cx cy with
  | false =>
    rw [hfo] at hfi hisB
    simp only [Bool.false_and] at hisB
    subst hisB
    have Hfi := Lib.hid hfi
    clear hfi
    clear hin hfo
    go_upto_region 19 with (go_at_call 40; refine (Hfi.out _).mono ?_; rintro e w3 ⟨rfl, hw3⟩; subst w3)
    go_loopw [5, 6, 25, 26, 127] (fun C D F G I wr => ∃ (i : Nat) (L : List Half) (cx cy f g : Int) (ca : Option Addr) (cn cc : Nat), i ≤ tn + 1 ∧ I = .int .i64 i ∧ C = .int .i64 cx ∧ D = .int .i64 cy ∧ F = .int .i64 f ∧ G = .int .i64 g ∧ GSt w pa (i - 1) L false cx cy ca cn cc wr ∧ L = wayTo l ts (i - 1) ∧ findR l ts x y far i = some (f, g)) (fun _ _ _ _ I _ => tn + 1 - (intOf I).toNat)
    case atStart => exact ⟨0, l, cx, cy, -1, -1, a, len, cap, by omega, rfl, rfl, rfl, rfl, rfl, HST.out _ (Ext.refl _), rfl, rfl⟩
    case round =>
      obtain ⟨i, L, cx, cy, f, g, ca, cn, cc, hi, rfl, rfl, rfl, rfl, rfl, st, hL, hf⟩ := hrel
      have St := Lib.hid st
      have HL := Lib.hid hL
      have Hf := Lib.hid hf
      clear st hL hf
      by_cases hlt : i < tn + 1
      · have hltB : decide ((i : Int) < (tn : Int) + 1) = true := by simp; omega
        have hltN : decide (i < tn + 1) = true := decide_eq_true hlt
        have hnext : ∀ (cx' cy' : Int) (L' : List Half) (ca' : Option Addr) (cn' cc' : Nat) W' (f' g' : Int), GSt w pa i L' false cx' cy' ca' cn' cc' W' → L' = wayTo l ts i → findR l ts x y far (i + 1) = some (f', g') → ∃ (i' : Nat) (L : List Half) (cx cy f g : Int) (ca : Option Addr) (cn cc : Nat), i' ≤ tn + 1 ∧ Value.int .i64 ((i : Int) + 1) = .int .i64 i' ∧ Value.int .i64 cx' = .int .i64 cx ∧ Value.int .i64 cy' = .int .i64 cy ∧ Value.int .i64 f' = .int .i64 f ∧ Value.int .i64 g' = .int .i64 g ∧ GSt w pa (i' - 1) L false cx cy ca cn cc W' ∧ L = wayTo l ts (i' - 1) ∧ findR l ts x y far i' = some (f, g) := fun cx' cy' L' ca' cn' cc' W' f' g' h1 h2 h3 =>
          ⟨i + 1, L', cx', cy', f', g', ca', cn', cc', by omega, by go_num, rfl, rfl, rfl, rfl, h1, h2, h3⟩
        have HN := Lib.hid hnext
        clear hnext
        by_cases h0 : i = 0
        · have hpos : decide (0 < i) = false := decide_eq_false (by omega)
          have hposI : decide ((0 : Int) < (i : Int)) = false := decide_eq_false (by omega)
          have hi1 : i - 1 = i := by omega
          have st' := St.out
          have hL' := HL.out
          rw [hi1] at st' hL'
          have St' := Lib.hid st'
          have HL' := Lib.hid hL'
          have HI0 := Lib.hid h0
          clear st' hL' hi1 h0 St HL
          go_upto_if 131 with fail
          go_step
          go_step
          go_step
          go_step
          refine findsRest St'.out HL'.out (by omega) HTN.out HP.out Hf.out (.inl HI0.out) HEv.out ?_
          intro f' g' W' hW hf'
          intros
          have HNN := Lib.hid (HN.out _ _ _ _ _ _ W' f' g' (St'.out.ext' hW) HL'.out hf')
          clear hW hf'
          dsimp only
          go_wp2_with fail
          go_roundw
          case rel => exact HNN.out
          case measure => simp [intOf]; omega
        · obtain ⟨t, htj, hto⟩ := Hget.out (i - 1) (by omega)
          have hpos : decide (0 < i) = true := decide_eq_true (by omega)
          have hposI : decide ((0 : Int) < (i : Int)) = true := decide_eq_true (by omega)
          go_upto_if 131 with fail
          go_step
          refine findsTrek (j := i - 1) St.out HL.out (by omega) (by omega) HTN.out (HBad.out i (by omega) (by omega)) HTS.out htj hto HY.out.1 HY.out.2.1 HY.out.2.2 ?_ ?_
          · intro L' cx' cy' ca' cn' cc' W' st' hL' hfit'
            intros
            have St' := Lib.hid st'
            have HL' := Lib.hid hL'
            have HFit := Lib.hid hfit'
            clear st' hL' hfit' htj hto
            dsimp only
            go_step
            go_step
            refine findsRest St'.out HL'.out (by omega) HTN.out HP.out Hf.out (.inr HFit.out) HEv.out ?_
            intro f' g' W' hW hf'
            intros
            have HNN := Lib.hid (HN.out _ _ _ _ _ _ W' f' g' (St'.out.ext' hW) HL'.out hf')
            clear hW hf'
            dsimp only
            go_wp2_with fail
            go_roundw
            case rel => exact HNN.out
            case measure => simp [intOf]; omega
          · intro a' w' h1 h2 hx
            refine (bodyPost_ret (results_tmp rfl _ _ _) h1 ?_ : bodyPost Try.prog Try.f13 (fun e w' => e = .returned (.bool true) ∧ Ext w w') .ret a' w')
            rw [h2]
            exact ⟨rfl, hx⟩
      · have hltB : decide ((i : Int) < (tn : Int) + 1) = false := by simp; omega
        have hltN : decide (i < tn + 1) = false := decide_eq_false hlt
        have hit : i = tn + 1 := by omega
        have hf2 := Hf.out
        rw [hit] at hf2
        obtain ⟨rfl, rfl, rfl⟩ := HEnd.out _ _ hf2
        have Hxx := Lib.hid St.out.ext
        clear hlt hit hf2 hi
        go_wp2_with fail
        go_ret
        exact ⟨rfl, Hxx.out⟩
  | true =>
    have hin1 := hin hfo
    rw [hfo] at hfi hisB
    simp only [Bool.true_and] at hisB
    rw [hisB] at hin1
    have Hfi := Lib.hid hfi
    have Hin1 := Lib.hid hin1
    clear hfi hin1
    clear hin hfo hisB
    go_upto_region 19 with (first | (go_at_call 40; refine (Hfi.out _).mono ?_; rintro e w3 ⟨rfl, hw3⟩; subst w3) | (go_at_call 41; refine (Hin1.out _ Hx.out).mono ?_; rintro e w4 ⟨rfl, hx4⟩))
    go_loopw [5, 6, 25, 26, 127] (fun C D F G I wr => ∃ (i : Nat) (L : List Half) (cx cy f g : Int) (ca : Option Addr) (cn cc : Nat), i ≤ tn + 1 ∧ I = .int .i64 i ∧ C = .int .i64 cx ∧ D = .int .i64 cy ∧ F = .int .i64 f ∧ G = .int .i64 g ∧ GSt w pa (i - 1) L isB cx cy ca cn cc wr ∧ L = wayTo l ts (i - 1) ∧ findR l ts x y far i = some (f, g)) (fun _ _ _ _ I _ => tn + 1 - (intOf I).toNat)
    case atStart => exact ⟨0, l, cx, cy, -1, -1, a, len, cap, by omega, rfl, rfl, rfl, rfl, rfl, HST.out _ hx4, rfl, rfl⟩
    case round =>
      obtain ⟨i, L, cx, cy, f, g, ca, cn, cc, hi, rfl, rfl, rfl, rfl, rfl, st, hL, hf⟩ := hrel
      have St := Lib.hid st
      have HL := Lib.hid hL
      have Hf := Lib.hid hf
      clear st hL hf
      by_cases hlt : i < tn + 1
      · have hltB : decide ((i : Int) < (tn : Int) + 1) = true := by simp; omega
        have hltN : decide (i < tn + 1) = true := decide_eq_true hlt
        have hnext : ∀ (cx' cy' : Int) (L' : List Half) (ca' : Option Addr) (cn' cc' : Nat) W' (f' g' : Int), GSt w pa i L' isB cx' cy' ca' cn' cc' W' → L' = wayTo l ts i → findR l ts x y far (i + 1) = some (f', g') → ∃ (i' : Nat) (L : List Half) (cx cy f g : Int) (ca : Option Addr) (cn cc : Nat), i' ≤ tn + 1 ∧ Value.int .i64 ((i : Int) + 1) = .int .i64 i' ∧ Value.int .i64 cx' = .int .i64 cx ∧ Value.int .i64 cy' = .int .i64 cy ∧ Value.int .i64 f' = .int .i64 f ∧ Value.int .i64 g' = .int .i64 g ∧ GSt w pa (i' - 1) L isB cx cy ca cn cc W' ∧ L = wayTo l ts (i' - 1) ∧ findR l ts x y far i' = some (f, g) := fun cx' cy' L' ca' cn' cc' W' f' g' h1 h2 h3 =>
          ⟨i + 1, L', cx', cy', f', g', ca', cn', cc', by omega, by go_num, rfl, rfl, rfl, rfl, h1, h2, h3⟩
        have HN := Lib.hid hnext
        clear hnext
        by_cases h0 : i = 0
        · have hpos : decide (0 < i) = false := decide_eq_false (by omega)
          have hposI : decide ((0 : Int) < (i : Int)) = false := decide_eq_false (by omega)
          have hi1 : i - 1 = i := by omega
          have st' := St.out
          have hL' := HL.out
          rw [hi1] at st' hL'
          have St' := Lib.hid st'
          have HL' := Lib.hid hL'
          have HI0 := Lib.hid h0
          clear st' hL' hi1 h0 St HL
          go_upto_if 131 with fail
          go_step
          go_step
          go_step
          go_step
          refine findsRest St'.out HL'.out (by omega) HTN.out HP.out Hf.out (.inl HI0.out) HEv.out ?_
          intro f' g' W' hW hf'
          intros
          have HNN := Lib.hid (HN.out _ _ _ _ _ _ W' f' g' (St'.out.ext' hW) HL'.out hf')
          clear hW hf'
          dsimp only
          go_wp2_with fail
          go_roundw
          case rel => exact HNN.out
          case measure => simp [intOf]; omega
        · obtain ⟨t, htj, hto⟩ := Hget.out (i - 1) (by omega)
          have hpos : decide (0 < i) = true := decide_eq_true (by omega)
          have hposI : decide ((0 : Int) < (i : Int)) = true := decide_eq_true (by omega)
          go_upto_if 131 with fail
          go_step
          refine findsTrek (j := i - 1) St.out HL.out (by omega) (by omega) HTN.out (HBad.out i (by omega) (by omega)) HTS.out htj hto HY.out.1 HY.out.2.1 HY.out.2.2 ?_ ?_
          · intro L' cx' cy' ca' cn' cc' W' st' hL' hfit'
            intros
            have St' := Lib.hid st'
            have HL' := Lib.hid hL'
            have HFit := Lib.hid hfit'
            clear st' hL' hfit' htj hto
            dsimp only
            go_step
            go_step
            refine findsRest St'.out HL'.out (by omega) HTN.out HP.out Hf.out (.inr HFit.out) HEv.out ?_
            intro f' g' W' hW hf'
            intros
            have HNN := Lib.hid (HN.out _ _ _ _ _ _ W' f' g' (St'.out.ext' hW) HL'.out hf')
            clear hW hf'
            dsimp only
            go_wp2_with fail
            go_roundw
            case rel => exact HNN.out
            case measure => simp [intOf]; omega
          · intro a' w' h1 h2 hx
            refine (bodyPost_ret (results_tmp rfl _ _ _) h1 ?_ : bodyPost Try.prog Try.f13 (fun e w' => e = .returned (.bool true) ∧ Ext w w') .ret a' w')
            rw [h2]
            exact ⟨rfl, hx⟩
      · have hltB : decide ((i : Int) < (tn : Int) + 1) = false := by simp; omega
        have hltN : decide (i < tn + 1) = false := decide_eq_false hlt
        have hit : i = tn + 1 := by omega
        have hf2 := Hf.out
        rw [hit] at hf2
        obtain ⟨rfl, rfl, rfl⟩ := HEnd.out _ _ hf2
        have Hxx := Lib.hid St.out.ext
        clear hlt hit hf2 hi
        go_wp2_with fail
        go_ret
        exact ⟨rfl, Hxx.out⟩
end Go.Proofs.Ytacdndehlkaaeaa

/- The law GuideFinds. -/
namespace Go.Proofs.Ytacdndehlkaaeaa
open Go.RowKit
set_option linter.unusedVariables false
set_option linter.unusedSimpArgs false
set_option maxRecDepth 100000 in
set_option maxHeartbeats 8000000 in
theorem lawFinds_any (a : Option Addr) (len cap : Nat) (l : List Half) (ta : Option Addr) (tn tc : Nat) (ts : List Trek) (x y far cx cy : Int) (ya : Option Addr) (yn yc : Nat) (by' : List Int) (w : World) (hl : HalvesAt w a len l) (hc : len ≤ cap) (hm : cap ≤ maxLen)
    (hts : TreksAt w ta tn ts) (htm : tn ≤ maxLen) (hy : IntsAt .u32 w ya yn by') (hyn : yn ≤ maxLen) (hdr : ∀ x ∈ by', 0 ≤ x ∧ x ≤ 4294967295) :
    Calls Try.prog 13 #[.agg #[.slice a len cap], .slice ta tn tc, .int .i64 x, .int .i64 y, .int .i64 far, .int .i64 cx, .int .i64 cy, .slice ya yn yc] w fun e w' => e = .returned (.bool true) ∧ Ext w w' := by
  have hal := alive_any
  have hch := fun W (hW : Ext w W) => rcheckAny_any a len cap l W (hl.ext hW)
  have hfd := fun (htn : tn ≤ 60) W (hW : Ext w W) => finds_any a len cap l ta tn tc ts x y far W (hl.ext hW) hc hm (hts.ext hW) (by omega)
  have hnr := fun W (hW : Ext w W) => nearF_any a len cap l x y far W (hl.ext hW) hc hm
  unfold checkOf at hch
  unfold FindsPost at hfd
  unfold NearPost at hnr
  obtain ⟨W0, hW0⟩ : ∃ W0, w.alloc (.cells #[.slice a len cap] 24) = W0 := ⟨_, rfl⟩
  have hx0 : Ext w W0 := by rw [← hW0]; exact (Ext.refl w).alloc _
  have ha0 : W0.heap[w.heap.size]? = some (.cells #[.slice a len cap] 24 (0, 0)) := by rw [← hW0]; exact heap_alloc_new w _
  have hmx := fun P1 P2 P3 P4 W => run_max4 P1 P2 P3 P4 W
  have hmain := fun W m s e hx ha hne hA hs htn hp hall he => @findsLoop w W w.heap.size tn len cap yn yc tc l ts by' a ya ta x y far cx cy m s e hx ha (Nat.le_refl _) hne hA hs hl hc hm htn hp hts hall hy hyn (drawOk_of hdr) he
  dsimp only at hmain
  have HMain := Lib.hid hmain
  have Hts := Lib.hid hts
  have Hl := Lib.hid hl
  have Hx0 := Lib.hid hx0
  have Ha0 := Lib.hid ha0
  have Hal := Lib.hid hal
  clear hx0 ha0 hal
  clear hmain hdr hy hyn htm hts
  cases hao : areaOk l with
  | false =>
    rw [hao] at hch
    simp only [Bool.false_eq_true, if_false] at hch
    have Hch := Lib.hid hch
    clear hch
    clear hl hao hfd hnr hmx HMain Hl hc hm
    go_enter Try.func13, Try.ntmps13
    go_wp2_with
      (first
        | (go_at_call 34; refine (Hal.out _).mono ?_; rintro e w1 ⟨rfl, hx1⟩; obtain ⟨z1, _⟩ := (Ext.refl w1).box (hx1.heap Ha0.out); clear hW0)
        | (go_at_call 29; refine (Hch.out _ (Hx0.out.trans hx1)).mono ?_; rintro e w2 ⟨rfl, hx2⟩; have hx12 := hx1.trans hx2; have hxe := hx12; obtain ⟨z2, _⟩ := (Ext.refl w2).box (hx12.heap Ha0.out); clear z1)
        | (go_at_call 32; refine (Hfd.out _ (Hx0.out.trans hx12)).mono ?_; rintro e w3 ⟨rfl, hx3⟩; have hx13 := hx12.trans hx3; clear hxe; have hxe := hx13; clear z2))
    all_goals
      go_ret
      exact ⟨rfl, Hx0.out.trans hxe⟩
  | true =>
    rw [hao] at hch
    simp only [if_true] at hch
    have hA := areaOk_iff.1 hao
    by_cases htn : 60 < tn
    · have htnB : decide ((60 : Int) < (tn : Int)) = true := decide_eq_true (by omega)
      have htnN : decide (60 < tn) = true := decide_eq_true htn
      have Hch := Lib.hid hch
      clear hch
      clear hl hao hfd hnr hmx HMain Hl hA htn hc hm
      go_enter Try.func13, Try.ntmps13
      go_wp2_with
        (first
          | (go_at_call 34; refine (Hal.out _).mono ?_; rintro e w1 ⟨rfl, hx1⟩; obtain ⟨z1, _⟩ := (Ext.refl w1).box (hx1.heap Ha0.out); clear hW0)
          | (go_at_call 29; refine (Hch.out _ (Hx0.out.trans hx1)).mono ?_; rintro e w2 ⟨rfl, hx2⟩; have hx12 := hx1.trans hx2; have hxe := hx12; obtain ⟨z2, _⟩ := (Ext.refl w2).box (hx12.heap Ha0.out); clear z1)
          | (go_at_call 32; refine (Hfd.out _ (Hx0.out.trans hx12)).mono ?_; rintro e w3 ⟨rfl, hx3⟩; have hx13 := hx12.trans hx3; clear hxe; have hxe := hx13; clear z2))
      all_goals
        go_ret
        exact ⟨rfl, Hx0.out.trans hxe⟩
    · have htnB : decide ((60 : Int) < (tn : Int)) = false := decide_eq_false (by omega)
      have htnN : decide (60 < tn) = false := decide_eq_false htn
      by_cases hpl : (-10000000 ≤ x ∧ x ≤ 10000000) ∧ (-10000000 ≤ y ∧ y ≤ 10000000)
      · obtain ⟨⟨x0, x1⟩, y0, y1⟩ := hpl
        have hmxx := fun W => hmx x (-x) y (-y) W
        obtain ⟨MX, hMX⟩ : ∃ MX, max (max x (-x)) (max y (-y)) = MX := ⟨_, rfl⟩
        rw [hMX] at hmxx
        have hMXB : decide (10000000 < MX) = false := decide_eq_false (by omega)
        have hmi : -10000000 ≤ (if y < x then y else x) := by split <;> omega
        obtain ⟨MI, hMI⟩ : ∃ MI, (if y < x then y else x) = MI := ⟨_, rfl⟩
        rw [hMI] at hmi
        have hMIB : decide (MI < -10000000) = false := decide_eq_false (by omega)
        clear hmx hMX hmi
        by_cases hf0 : far < 0
        · have hf0B : decide (far < 0) = true := decide_eq_true hf0
          have Hch := Lib.hid hch
          clear hch
          clear hl hao hfd hnr HMain Hl hA htn hf0 hc hm
          go_enter Try.func13, Try.ntmps13
          go_wp2_with
            (first
              | (go_at_call 34; refine (Hal.out _).mono ?_; rintro e w1 ⟨rfl, hx1⟩; obtain ⟨z1, _⟩ := (Ext.refl w1).box (hx1.heap Ha0.out); clear hW0)
              | (go_at_call 29; refine (Hch.out _ (Hx0.out.trans hx1)).mono ?_; rintro e w2 ⟨rfl, hx2⟩; have hx12 := hx1.trans hx2; have hxe := hx12; obtain ⟨z2, _⟩ := (Ext.refl w2).box (hx12.heap Ha0.out); clear z1)
              | (go_at_call 32; refine (Hfd.out _ (Hx0.out.trans hx12)).mono ?_; rintro e w3 ⟨rfl, hx3⟩; have hx13 := hx12.trans hx3; clear hxe; have hxe := hx13; clear z2))
          all_goals
            go_ret
            exact ⟨rfl, Hx0.out.trans hxe⟩
        · have hf0B : decide (far < 0) = false := decide_eq_false hf0
          by_cases hf1 : 10000000 < far
          · have hf1B : decide (10000000 < far) = true := decide_eq_true hf1
            have Hch := Lib.hid hch
            clear hch
            clear hl hao hfd hnr HMain Hl hA htn hf0 hf1 hc hm
            go_enter Try.func13, Try.ntmps13
            go_wp2_with
              (first
                | (go_at_call 34; refine (Hal.out _).mono ?_; rintro e w1 ⟨rfl, hx1⟩; obtain ⟨z1, _⟩ := (Ext.refl w1).box (hx1.heap Ha0.out); clear hW0)
                | (go_at_call 29; refine (Hch.out _ (Hx0.out.trans hx1)).mono ?_; rintro e w2 ⟨rfl, hx2⟩; have hx12 := hx1.trans hx2; have hxe := hx12; obtain ⟨z2, _⟩ := (Ext.refl w2).box (hx12.heap Ha0.out); clear z1)
                | (go_at_call 32; refine (Hfd.out _ (Hx0.out.trans hx12)).mono ?_; rintro e w3 ⟨rfl, hx3⟩; have hx13 := hx12.trans hx3; clear hxe; have hxe := hx13; clear z2))
            all_goals
              go_ret
              exact ⟨rfl, Hx0.out.trans hxe⟩
          · have hf1B : decide (10000000 < far) = false := decide_eq_false hf1
            have hok : (placeOk x && placeOk y && inB far 0 10000000) = true := by
              simp only [placeOk, inB, Bool.and_eq_true, decide_eq_true_eq]
              omega
            have htn60 : tn ≤ 60 := by omega
            have hfd1 := hfd htn60
            have htl := Hts.out.1
            have his := finds_is (ts := ts) hA hok (by omega)
            obtain ⟨m, s, e, hfe, hcase⟩ : ∃ m s e, findsOf l ts x y far = (m, s, e) ∧ (someB l = false ∧ e = 43 ∨ ts.all trekOk = false ∧ e = 42 ∨ someB l = true ∧ ts.all trekOk = true ∧ (e = 9 ∧ m = 0 ∧ s = 0 ∧ findTo l ts x y far tn = none ∨ e = 0 ∧ findTo l ts x y far tn = some (m, s))) := by
              cases his with
              | lost h hf => exact ⟨_, _, _, hf, .inl ⟨h, rfl⟩⟩
              | bad h hb hf => exact ⟨_, _, _, hf, .inr (.inl ⟨hb, rfl⟩)⟩
              | full h hg hn hf => rw [htl] at hn; exact ⟨_, _, _, hf, .inr (.inr ⟨h, hg, .inl ⟨rfl, rfl, rfl, hn⟩⟩)⟩
              | found m s h hg hn hf => rw [htl] at hn; exact ⟨_, _, _, hf, .inr (.inr ⟨h, hg, .inr ⟨rfl, hn⟩⟩)⟩
            rw [hfe] at hfd1
            simp only at hfd1
            have hne : ∀ X, a = some X → X.block ≠ w.heap.size := fun X hX => by
              have := hl.lt (hl.pos hA) X hX
              omega
            have hnrl := fun (h : someB l = false) W (hW : Ext w W) => hnr W hW
            have HB := Lib.hid (And.intro hA (And.intro hok (And.intro htn60 hne)))
            have HC := Lib.hid hcase
            have Hnr := Lib.hid hnr
            have Hfd := Lib.hid hfd1
            have Hch := Lib.hid hch
            clear hch
            clear hl hao hfd hnr hA htn hf0 hf1 hok his hfe hcase hne hnrl hfd1 htl hc hm
            go_enter Try.func13, Try.ntmps13
            go_upto_region 8 with
              (first
                | (go_at_call 34; refine (Hal.out _).mono ?_; rintro e w1 ⟨rfl, hx1⟩; obtain ⟨z1, _⟩ := (Ext.refl w1).box (hx1.heap Ha0.out); clear hW0)
                | (go_at_call 29; refine (Hch.out _ (Hx0.out.trans hx1)).mono ?_; rintro e w2 ⟨rfl, hx2⟩; have hx12 := hx1.trans hx2; have hxe := hx12; obtain ⟨z2, _⟩ := (Ext.refl w2).box (hx12.heap Ha0.out); clear z1)
                | (go_at_call 32; refine (Hfd.out _ (Hx0.out.trans hx12)).mono ?_; rintro e w3 ⟨rfl, hx3⟩; have hx13 := hx12.trans hx3; clear hxe; have hxe := hx13; clear z2))
            have Hx3 := Lib.hid hx13
            clear hx1 hx2 hx3 hx12 hx13 hxe
            go_loopw [83] (fun I wr => ∃ j : Nat, j ≤ tn ∧ I = .int .i64 j ∧ Ext w3 wr ∧ ∀ q t, q < j → ts[q]? = some t → trekOk t = true) (fun I _ => tn - (intOf I).toNat)
            case atStart => exact ⟨0, Nat.zero_le _, rfl, Ext.refl _, fun q t hq => by omega⟩
            case round =>
              obtain ⟨j, hj, rfl, hx, hall⟩ := hrel
              by_cases hlt : j < tn
              · have hltB : decide ((j : Int) < (tn : Int)) = true := by simp; omega
                have hltN : decide (j < tn) = true := decide_eq_true hlt
                obtain ⟨tb, tof, t, rfl, htj, htb, c0, c1, c2, c3, c4, c5⟩ := (Hts.out.ext (Hx0.out.trans (Hx3.out.trans hx))).get j hlt
                have htk := fun W => rtrek_any t W
                have hnext : trekOk t = true → ∀ q t, q < j + 1 → ts[q]? = some t → trekOk t = true := fun ht q t' hq h' => by
                  rcases Nat.lt_or_ge q j with h | h
                  · exact hall q t' h h'
                  · obtain rfl : q = j := by omega
                    rw [htj] at h'
                    cases h'
                    exact ht
                have hno := fun h => trek_all_no (j := j) htj h
                obtain ⟨⟨d0, d1⟩, ⟨e0, e1⟩, ⟨n0, n1⟩⟩ := t
                unfold Trek.val at htk
                simp only at htk c0 c1 c2 c3 c4 c5
                cases hto : trekOk ⟨⟨d0, d1⟩, ⟨e0, e1⟩, ⟨n0, n1⟩⟩ with
                | false =>
                  rw [hto] at htk
                  have hno := hno hto
                  have he : e = 43 ∨ e = 42 := by
                    rcases HC.out with ⟨_, h⟩ | ⟨_, h⟩ | ⟨_, h, _⟩
                    · exact .inl h
                    · exact .inr h
                    · rw [h] at hno; cases hno
                  have Hxx := Lib.hid hx
                  have Htk := Lib.hid htk
                  clear htk
                  clear hnext hall htj hno hto hx
                  rcases he with rfl | rfl
                  · go_wp2_with (go_at_call 45; refine (Htk.out _).mono ?_; rintro e w4 ⟨rfl, hx4⟩)
                    go_ret
                    exact ⟨rfl, Hx0.out.trans (Hx3.out.trans ((Hxx.out.alloc _).trans hx4))⟩
                  · go_wp2_with (go_at_call 45; refine (Htk.out _).mono ?_; rintro e w4 ⟨rfl, hx4⟩)
                    go_ret
                    exact ⟨rfl, Hx0.out.trans (Hx3.out.trans ((Hxx.out.alloc _).trans hx4))⟩
                | true =>
                  rw [hto] at htk
                  have hn := hnext hto
                  have Hxx := Lib.hid hx
                  have Htk := Lib.hid htk
                  have Hn := Lib.hid hn
                  clear htk hn
                  clear hnext hall htj hno hto hx
                  go_wp2_with (go_at_call 45; refine (Htk.out _).mono ?_; rintro e w4 ⟨rfl, hx4⟩)
                  go_roundw
                  case rel => exact ⟨j + 1, by omega, by go_num, (Hxx.out.alloc _).trans hx4, Hn.out⟩
                  case measure => simp [intOf]; omega
              · have hltB : decide ((j : Int) < (tn : Int)) = false := by simp; omega
                have hltN : decide (j < tn) = false := decide_eq_false hlt
                have hga := trek_all_yes Hts.out.1 (fun q t hq h => hall q t (by omega) h)
                have Hxx := Lib.hid hx
                have Hga := Lib.hid hga
                obtain ⟨z4, _⟩ := (Ext.refl wr).box ((Hx3.out.trans hx).heap Ha0.out)
                clear hall hx hga
                rcases HC.out with ⟨h, rfl⟩ | ⟨h, _⟩ | ⟨h1, h2, h3⟩
                · have hnl := near_lost HB.out.1 h HB.out.2.1
                  have hn := fun W hW => Hnr.out W hW
                  rw [hnl] at hn
                  have Hn := Lib.hid hn
                  clear hn hnl h HC
                  go_wp2_with (go_at_call 26; refine (Hn.out _ (Hx0.out.trans (Hx3.out.trans Hxx.out))).mono ?_; rintro e w5 ⟨rfl, hx5⟩)
                  go_ret
                  exact ⟨rfl, Hx0.out.trans (Hx3.out.trans (Hxx.out.trans hx5))⟩
                · rw [Hga.out] at h
                  cases h
                · have hs := (someB_iff HB.out.1.bnd).1 h1
                  have hem : (e == 43) = false := by rcases h3 with ⟨h, _⟩ | ⟨h, _⟩ <;> simp [h]
                  have hemD : decide (e = 43) = false := by rcases h3 with ⟨h, _⟩ | ⟨h, _⟩ <;> simp [h]
                  have HF := Lib.hid (And.intro hs (And.intro h2 h3))
                  clear hs h1 h2 h3 HC
                  go_upto_if 101 with fail
                  go_step
                  go_step
                  go_step
                  go_step
                  exact HMain.out _ _ _ _ (Hx0.out.trans (Hx3.out.trans Hxx.out)) ((Hx3.out.trans Hxx.out).heap Ha0.out) HB.out.2.2.2 HB.out.1 HF.out.1 HB.out.2.2.1 HB.out.2.1 HF.out.2.1 HF.out.2.2
      · have hmxx := hmx
        have Hch := Lib.hid hch
        clear hch
        clear hl hao hfd hnr HMain Hl hA htn hmx hc hm
        go_enter Try.func13, Try.ntmps13
        go_wp2_with
          (first
            | (go_at_call 34; refine (Hal.out _).mono ?_; rintro e w1 ⟨rfl, hx1⟩; obtain ⟨z1, _⟩ := (Ext.refl w1).box (hx1.heap Ha0.out); clear hW0)
            | (go_at_call 29; refine (Hch.out _ (Hx0.out.trans hx1)).mono ?_; rintro e w2 ⟨rfl, hx2⟩; have hx12 := hx1.trans hx2; have hxe := hx12; obtain ⟨z2, _⟩ := (Ext.refl w2).box (hx12.heap Ha0.out); clear z1)
            | (go_at_call 32; refine (Hfd.out _ (Hx0.out.trans hx12)).mono ?_; rintro e w3 ⟨rfl, hx3⟩; have hx13 := hx12.trans hx3; clear hxe; have hxe := hx13; clear z2))
        all_goals
          go_ret
          exact ⟨rfl, Hx0.out.trans hxe⟩
end Go.Proofs.Ytacdndehlkaaeaa

/- It is proved that GuideFinds returns true whatever the input, and that the input reads as it did. No conditions. -/
namespace Go.Proofs.Ytacdndehlkaaeaa.guideFindsDone
open Go.ChangeShapes Go.WideShapes Go.ChangeAt Go.RowKit
open Go.ChangeMaps (open_string shut_string)
set_option linter.unusedVariables false

theorem own : ownKnob Try.prog.godebug = none := by kernel_rfl
theorem laidOut : laidOutB Try.prog = true := by kernel_rfl

set_option maxRecDepth 100000 in
theorem lifted (os : Os) (started : os.Started) (H : Type) (enc : TypeId × Value → H) :
    ReturnsInHanded {} Try.checked os 13 .any (Rows.guideFindsSpec.pre6 enc Try.prog Try.f13 Rows.guideFindsRow.domain false) (Rows.guideFindsSpec.post enc Try.prog Try.f13 false true false false) := by
  refine returnsInHanded_of_change (C := Try.checked) own started (by kernel_rfl) Try.func13
    (ChangeSpec.witness6 (enc := enc) (C := Try.checked) false ⟨#[], #[.agg #[.slice none 0 0], .slice none 0 0, .int .i64 0, .int .i64 0, .int .i64 0, .int .i64 0, .int .i64 0, .slice none 0 0], []⟩ 8 (by kernel_rfl) (by kernel_rfl) (by kernel_rfl) (by kernel_rfl)) ?_
  intro W base args ds gs before hval0 hW hcnd _
  have hval : ∀ (j : Nat) t v, Try.f13.params[j]? = some t → args[j]? = some v → Value.okWide Try.prog W .any base t v := hval0
  have hW' := hW
  obtain ⟨p, q, hA0, hV, rfl, hfz, hnd⟩ := hW
  have hA : DataW.TrodAll enc Try.prog W 0 (fun _ => true) true Try.f13.params.toList args.toList ds p := hA0
  rw [Try.params13] at hA hval
  obtain ⟨v0, vs0, d0, ds0, p0, q0, hargs, rfl, rfl, h0, r0⟩ := trodAll_cons hA
  obtain ⟨v1, vs1, d1, ds1, p1, q1, rfl, rfl, rfl, h1, r1⟩ := trodAll_cons r0
  obtain ⟨v2, vs2, d2, ds2, p2, q2, rfl, rfl, rfl, h2, r2⟩ := trodAll_cons r1
  obtain ⟨v3, vs3, d3, ds3, p3, q3, rfl, rfl, rfl, h3, r3⟩ := trodAll_cons r2
  obtain ⟨v4, vs4, d4, ds4, p4, q4, rfl, rfl, rfl, h4, r4⟩ := trodAll_cons r3
  obtain ⟨v5, vs5, d5, ds5, p5, q5, rfl, rfl, rfl, h5, r5⟩ := trodAll_cons r4
  obtain ⟨v6, vs6, d6, ds6, p6, q6, rfl, rfl, rfl, h6, r6⟩ := trodAll_cons r5
  obtain ⟨v7, vs7, d7, ds7, p7, q7, rfl, rfl, rfl, h7, r7⟩ := trodAll_cons r6
  obtain ⟨rfl, rfl, rfl⟩ := trodAll_nil r7
  obtain rfl : args = #[v0, v1, v2, v3, v4, v5, v6, v7] := by cases args; simp_all
  obtain ⟨rfl, rfl⟩ := trodVars_none hV
  obtain ⟨cs0, rfl, hz0⟩ := okWide_struct Try.underlying24 (hval 0 24 v0 rfl rfl)
  have k0 := h0
  have lt0 : ∀ x ∈ p0, x.block < W.heap.size := by obtain ⟨m, hm⟩ := k0; exact DataW.trod_lt m _ _ _ hm
  obtain ⟨a0, len0, cap0, l0, rfl, lc0, cm0, w0⟩ : ∃ a n c l, cs0 = #[.slice a n c] ∧ n ≤ c ∧ c ≤ maxLen ∧ HalvesAt W a n l := by
    obtain ⟨fuel, hf⟩ := h0
    exact take_area (hz0.trans (by kernel_rfl)) hf
  obtain ⟨a1, len1, cap1, rfl⟩ := okWide_slice Try.underlying64 (hval 1 64 v1 rfl rfl)
  have k1 := h1
  have lt1 : ∀ x ∈ p1, x.block < W.heap.size := by obtain ⟨m, hm⟩ := k1; exact DataW.trod_lt m _ _ _ hm
  obtain ⟨lc1, cm1, l1, w1⟩ : len1 ≤ cap1 ∧ cap1 ≤ maxLen ∧ ∃ l, TreksAt W a1 len1 l := by
    obtain ⟨fuel, hf⟩ := h1
    exact take_treks hf
  obtain ⟨a2, rfl, rfl, rfl, w2⟩ := open_int Try.underlying3 (hval 2 3 v2 rfl rfl) h2
  obtain ⟨a3, rfl, rfl, rfl, w3⟩ := open_int Try.underlying3 (hval 3 3 v3 rfl rfl) h3
  obtain ⟨a4, rfl, rfl, rfl, w4⟩ := open_int Try.underlying3 (hval 4 3 v4 rfl rfl) h4
  obtain ⟨a5, rfl, rfl, rfl, w5⟩ := open_int Try.underlying3 (hval 5 3 v5 rfl rfl) h5
  obtain ⟨a6, rfl, rfl, rfl, w6⟩ := open_int Try.underlying3 (hval 6 3 v6 rfl rfl) h6
  obtain ⟨a7, len7, cap7, rfl⟩ := okWide_slice Try.underlying77 (hval 7 77 v7 rfl rfl)
  have k7 := h7
  have lt7 : ∀ x ∈ p7, x.block < W.heap.size := by obtain ⟨m, hm⟩ := k7; exact DataW.trod_lt m _ _ _ hm
  obtain ⟨lc7, cm7, l7, w7⟩ : len7 ≤ cap7 ∧ cap7 ≤ maxLen ∧ ∃ l, IntsAt .u32 W a7 len7 l ∧ ∀ i ∈ l, (Lit.int .u32 i).wf = true := by
    obtain ⟨fuel, hf⟩ := h7
    exact take_ints Try.underlying77 Try.underlying82 (by kernel_rfl) hf
  clear hA0 hval0
  refine (lawFinds_any a0 len0 cap0 l0 a1 len1 cap1 l1 a2 a3 a4 a5 a6 a7 len7 cap7 l7 W w0 lc0 cm0 w1 (Nat.le_trans lc1 cm1) w7.1 (Nat.le_trans lc7 cm7) (fun x hx => wf_u32 (w7.2 x hx))).mono fun e W' ⟨he, bel⟩ => ?_
  subst he
  exact ⟨_, rfl, _, _, _, [], _, [], hW', trodAll_mk1 (shut_bool Try.underlying4 _), (trodAll_cons_mk (Below.trod laidOut (by kernel_rfl) (of_decide_eq_true (by kernel_rfl)) k0 bel lt0) (trodAll_cons_mk (Below.trod laidOut (by kernel_rfl) (of_decide_eq_true (by kernel_rfl)) k1 bel lt1) (trodAll_cons_mk (shut_int Try.underlying3 w2) (trodAll_cons_mk (shut_int Try.underlying3 w3) (trodAll_cons_mk (shut_int Try.underlying3 w4) (trodAll_cons_mk (shut_int Try.underlying3 w5) (trodAll_cons_mk (shut_int Try.underlying3 w6) (trodAll_cons_mk (Below.trod laidOut (by kernel_rfl) (of_decide_eq_true (by kernel_rfl)) k7 bel lt7) trodAll_mk0)))))))), rfl, bel.frame _, fun h => by cases h⟩

theorem over : Rows.guideFindsRow.holds Try.pinned (OpenSpec.ofChange Rows.guideFindsSpec) :=
  OpenClaim.holds_of_wide 13 Try.f13 rfl rfl rfl rfl rfl rfl rfl ⟨rfl, rfl, rfl, rfl, rfl⟩ rfl rfl rfl rfl rfl (by kernel_rfl) Try.func13 (by kernel_rfl)
    (of_decide_eq_true (by kernel_rfl)) (by unfold Func.isWrapper; first | (rw [if_pos (by decide +kernel)]; kernel_rfl) | (rw [if_neg (by decide +kernel)]; exact ⟨rfl, rfl⟩))
    (fun os started H enc _ => lifted os started H enc)

theorem proved : Rows.GuideFindsSaid := over
#print axioms proved
end Go.Proofs.Ytacdndehlkaaeaa.guideFindsDone
