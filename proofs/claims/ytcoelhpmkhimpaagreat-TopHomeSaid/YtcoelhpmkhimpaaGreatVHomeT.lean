/- TopHome: the days, from the first one on. -/
import Derived.Test.YtcoelhpmkhimpaaGreatVGs
import Derived.Test.YtcoelhpmkhimpaaGreatVGd
import Derived.Test.YtcoelhpmkhimpaaGreatVGb
namespace Go.Proofs.YtcoelhpmkhimpaaGreat
open Go.RowKit
set_option linter.unusedVariables false
set_option linter.unusedSimpArgs false
/-- what is so at the beginning of a day -/
structure HRd (s : Breed) (c : Camel) (m : March) (l : List Half) (ts : List Trek) (i : Nat) (x y W F : Int) : Prop where
  has : Has s (camAt s m c i) W F
  inn : In (wayTo l (ts.map dayEach) i) (pt x y)
  x0 : -20000000 - 100000 * i ≤ x ∧ x ≤ 20000000 + 100000 * i
  y0 : -20000000 - 100000 * i ≤ y ∧ y ≤ 20000000 + 100000 * i
theorem len14 {α : Type} {l : List α} (h : l.length = 14) : ∃ x0 x1 x2 x3 x4 x5 x6 x7 x8 x9 x10 x11 x12 x13, l = [x0, x1, x2, x3, x4, x5, x6, x7, x8, x9, x10, x11, x12, x13] := by
  match l, h with
  | [x0, x1, x2, x3, x4, x5, x6, x7, x8, x9, x10, x11, x12, x13], _ => exact ⟨_, _, _, _, _, _, _, _, _, _, _, _, _, _, rfl⟩
set_option maxRecDepth 100000 in
set_option maxHeartbeats 16000000 in
theorem homeTail {w W2 : World} {a1 : Option Addr} {gc n S : Nat} {x y wx wy far : Int} {l : List Half} {ts : List Trek} {ba : Option Addr} {bn bc : Nat} {bl : List Int} (s : Breed) (c : Camel) (m : March)
    (hx : Ext w W2) (hb : W2.heap[w.heap.size + 1]? = some (.cells s.cells.toArray 29 (0, 0))) (hc : W2.heap[w.heap.size + 1 + 1]? = some (.cells c.cells.toArray 31 (0, 0))) (hm : W2.heap[w.heap.size + 1 + 1 + 1]? = some (.cells m.cells.toArray 33 (0, 0)))
    (hts : TreksAt W2 a1 n (ts.map dayEach)) (htk : ∀ t ∈ ts, trekOk (dayEach t) = true) (hS : S ≤ n) (hn : n ≤ 60) (hgc : n ≤ gc) (hgm : gc ≤ maxLen)
    (hbo : BreedOk s) (hco : CamelOk s c) (hdo : DayOk m) (hL : S ≤ (lastsOf s m c 60).1)
    (hin : In l (pt x y)) (hx0 : -20000000 ≤ x ∧ x ≤ 20000000) (hy0 : -20000000 ≤ y ∧ y ≤ 20000000) (hsn : SureNear l (ts.map dayEach) wx wy far S)
    (hby : ∀ W, Ext w W → IntsAt .u32 W ba bn bl) (hbm : bn ≤ maxLen) (hbr : ∀ z ∈ bl, 0 ≤ z ∧ z ≤ 4294967295)
    {u0 u3 u7 u8 u9 u11 u12 u13 u14 u15 u16 u17 u21 u22 u25 u26 u28 u29 u30 u31 u32 u33 u34 u35 u36 u37 u38 u39 u40 u41 u42 u43 u44 u45 u46 u47 u48 u49 u50 u51 u52 u53 u54 u55 u56 u57 u58 u59 u60 u61 u62 u63 u64 u65 u66 u67 u68 u69 u70 u71 u72 u73 u74 u75 u76 u77 u78 u79 u80 u81 u82 u83 u84 u85 u86 u87 u88 u89 u90 u91 u92 u93 u94 u95 u96 u97 u98 u99 u100 u101 u102 u103 u104 u105 u106 u107 u108 u109 u110 u111 u112 u113 u114 u115 u116 u117 u118 u119 u120 u121 u122 u123 u124 u125 u126 u127 u128 u129 u130 u131 u132 u133 u134 u135 u136 u137 u138 u139 u140 u141 u142 u143 u144 u145 u146 u147 u148 u149 u150 u151 u152 u153 u154 u155 u156 u157 u158 u159 u160 u161 u162 u163 u164 u165 u166 u167 u168 u169 u170 u171 u172 u173 u174 u175 u176 u177 u178 u179 u180 u181 u182 u183 u184 u185 u186 u187 u188 u189 u190 u191 u192 u193 u194 u195 u196 u197 u198 u199 u200 u201 u202 u203 u204 u205 u206 u207 u208 u209 u210 u211 u212 u213 u214 u215 u216 u217 u218 u219 u220 u221 u222 u223 u224 u225 u226 u227 u228 u229 u230 u231 u232 u233 u234 u235 u236 u237 u238 u239 u240 u241 u242 u243 u244 u245 u246 u247 u248 u249 u250 u251 u252 u253 u254 u255 u256 u257 u258 u259 u260 u261 u262 u263 u264 u265 u266 u267 u268 u269 u270 u271 u272 u273 u274 u275 u276 u277 u278 u279 u280 u281 u282 u283 u284 u285 u286 u287 u288 u289 u290 u291 u292 u293 u294 u295 u296 u297 u298 u299 u300 u301 u302 u303 u304 u305 : Value} :
    (restFrom Tryz.f3 20).wp Tryz.prog (bodyPost Tryz.prog Tryz.f3 fun e w' => e = .returned (.bool true) ∧ Ext w w')
      ⟨#[u0, .int .i64 x, .int .i64 y, u3, .int .i64 wx, .int .i64 wy, .int .i64 far, u7, u8, u9, .slice ba bn bc, u11, u12, u13, u14, u15, u16, u17, .pointer (some ⟨w.heap.size + 1, 0, none⟩), .pointer (some ⟨w.heap.size + 1 + 1, 0, none⟩), .pointer (some ⟨w.heap.size + 1 + 1 + 1, 0, none⟩), u21, u22, .bool true, .slice a1 n gc, u25, u26, .int .i64 S, u28, u29, u30, u31, u32, u33, u34, u35, u36, u37, u38, u39, u40, u41, u42, u43, u44, u45, u46, u47, u48, u49, u50, u51, u52, u53, u54, u55, u56, u57, u58, u59, u60, u61, u62, u63, u64, u65, u66, u67, u68, u69, u70, u71, u72, u73, u74, u75, u76, u77, u78, u79, u80, u81, u82, u83, u84, u85, u86, u87, u88, u89, u90, u91, u92, u93, u94, u95, u96, u97, u98, u99, u100, u101, u102, u103, u104, u105, u106, u107, u108, u109, u110, u111, u112, u113, u114, u115, u116, u117, u118, u119, u120, u121, u122, u123, u124, u125, u126, u127, u128, u129, u130, u131, u132, u133, u134, u135, u136, u137, u138, u139, u140, u141, u142, u143, u144, u145, u146, u147, u148, u149, u150, u151, u152, u153, u154, u155, u156, u157, u158, u159, u160, u161, u162, u163, u164, u165, u166, u167, u168, u169, u170, u171, u172, u173, u174, u175, u176, u177, u178, u179, u180, u181, u182, u183, u184, u185, u186, u187, u188, u189, u190, u191, u192, u193, u194, u195, u196, u197, u198, u199, u200, u201, u202, u203, u204, u205, u206, u207, u208, u209, u210, u211, u212, u213, u214, u215, u216, u217, u218, u219, u220, u221, u222, u223, u224, u225, u226, u227, u228, u229, u230, u231, u232, u233, u234, u235, u236, u237, u238, u239, u240, u241, u242, u243, u244, u245, u246, u247, u248, u249, u250, u251, u252, u253, u254, u255, u256, u257, u258, u259, u260, u261, u262, u263, u264, u265, u266, u267, u268, u269, u270, u271, u272, u273, u274, u275, u276, u277, u278, u279, u280, u281, u282, u283, u284, u285, u286, u287, u288, u289, u290, u291, u292, u293, u294, u295, u296, u297, u298, u299, u300, u301, u302, u303, u304, u305], []⟩ W2 := by
  have hnu := fun (j : Int) W (hW : Ext w W) (hj : 0 ≤ j ∧ j ≤ 1000000000) => (numberOf_any ba bn bc bl j W (hby W hW) hbm hj).mono (R' := fun e w' => e = .returned (.int .u32 (numI bl j)) ∧ Ext W w') (fun e w' h => ⟨h.1, by rw [h.2]; exact Ext.refl _⟩)
  have hsafe := fun i (hi : i < S) => lasts_safe (b := s) (m := m) 60 c i (by omega)
  obtain ⟨s', hs'⟩ : ∃ s' : Breed, s' = s := ⟨_, rfl⟩
  obtain ⟨c', hc'⟩ : ∃ c' : Camel, c' = c := ⟨_, rfl⟩
  obtain ⟨m', hm'⟩ : ∃ m' : March, m' = m := ⟨_, rfl⟩
  have hH0 : ∀ W F, 100000 * c.water.lo ≤ W → W ≤ 100000 * s.full → 100000 * c.fat.lo ≤ F → F ≤ 100000 * s.fed → HRd s' c' m' l ts 0 x y W F := fun W F h0 h1 h2 h3 => by
    subst hs' hc' hm'
    exact ⟨⟨h0, h1, h2, h3⟩, hin, by omega, by omega⟩
  have hloss := fun mk {n0 n1 n2 n3 n4 n5 : Int} (h0 : NmOk n0) (h1 : NmOk n1) (h2 : NmOk n2) (h3 : NmOk n3) (h4 : NmOk n4) (h5 : NmOk n5) => loss_is hbo hdo mk h0.a h1.a h2.a h3.a h4.a h5.a
  have hday : ∀ i, i < S → ∀ {W F : Int}, Has s' (camAt s' m' c' i) W F → ∀ {p q d g : Int}, p ≤ 100000 * (waterOf s c.milks m).hi → q ≤ 100000 * (fatOf s m).hi → m.drinks.lo ≤ d → m.grass.lo ≤ g →
      0 ≤ W - p ∧ 0 ≤ F - q ∧ Has s' (camAt s' m' c' (i + 1)) (min (100000 * s.full) (W - p + 100000 * d)) (min (100000 * s.fed) (F - q + 100000 * g)) := fun i hi {W F} h {p q d g} h1 h2 h3 h4 => by
    subst hs' hc' hm'
    exact h.day hbo hdo (hsafe i hi).2 (x := p) (y := q) (d := d) (g := g) (by rw [camAt_milks]; exact h1) h2 h3 h4
  have SR : SpOk s.rest.lo s.rest.hi := ⟨by have := hbo.rest.low; omega, hbo.rest.ord, by have := hbo.rest.top; omega⟩
  have SH : SpOk s.heat.lo s.heat.hi := ⟨by have := hbo.heat.low; omega, hbo.heat.ord, by have := hbo.heat.top; omega⟩
  have ST : SpOk s.toil.lo s.toil.hi := ⟨by have := hbo.toil.low; omega, hbo.toil.ord, by have := hbo.toil.top; omega⟩
  have SU : SpOk s.burn.lo s.burn.hi := ⟨by have := hbo.burn.low; omega, hbo.burn.ord, by have := hbo.burn.top; omega⟩
  have SM : SpOk s.milk.lo s.milk.hi := ⟨by have := hbo.milk.low; omega, hbo.milk.ord, by have := hbo.milk.top; omega⟩
  have SE : SpOk m.heat.lo m.heat.hi := ⟨by have := hdo.heat.low; omega, hdo.heat.ord, by have := hdo.heat.top; omega⟩
  have SG : SpOk m.grass.lo m.grass.hi := ⟨by have := hdo.grass.low; omega, hdo.grass.ord, by have := hdo.grass.top; omega⟩
  have SD : SpOk m.drinks.lo m.drinks.hi := ⟨by have := hdo.drinks.low; omega, hdo.drinks.ord, by have := hdo.drinks.top; omega⟩
  have SA : SpOk c.water.lo c.water.hi := ⟨by have := hco.water.low; omega, hco.water.ord, by have := hco.water.top; have := hbo.full; omega⟩
  have SB : SpOk c.fat.lo c.fat.hi := ⟨by have := hco.fat.low; omega, hco.fat.ord, by have := hco.fat.top; have := hbo.fed; omega⟩
  have hbd : (0 ≤ s.rest.lo ∧ s.rest.hi ≤ 100000) ∧ (0 ≤ s.heat.lo ∧ s.heat.hi ≤ 100000) ∧ (0 ≤ s.toil.lo ∧ s.toil.hi ≤ 100000) ∧ (0 ≤ s.burn.lo ∧ s.burn.hi ≤ 100000) ∧ (0 ≤ s.milk.lo ∧ s.milk.hi ≤ 100000) ∧ (0 ≤ m.heat.lo ∧ m.heat.hi ≤ 60) ∧ (0 ≤ m.grass.lo ∧ m.grass.hi ≤ 1000000) ∧ (0 ≤ m.drinks.lo ∧ m.drinks.hi ≤ 1000000) ∧ (0 ≤ m.hours ∧ m.hours ≤ 24) ∧ (0 ≤ m.load ∧ m.load ≤ 1000000) ∧ (1 ≤ s.full ∧ s.full ≤ 1000000) ∧ (1 ≤ s.fed ∧ s.fed ≤ 1000000) ∧ (0 ≤ workOf m ∧ workOf m ≤ 26400000) :=
    ⟨⟨hbo.rest.low, hbo.rest.top⟩, ⟨hbo.heat.low, hbo.heat.top⟩, ⟨hbo.toil.low, hbo.toil.top⟩, ⟨hbo.burn.low, hbo.burn.top⟩, ⟨hbo.milk.low, hbo.milk.top⟩, ⟨hdo.heat.low, hdo.heat.top⟩, ⟨hdo.grass.low, hdo.grass.top⟩, ⟨hdo.drinks.low, hdo.drinks.top⟩, hdo.hours, hdo.load, hbo.full, hbo.fed, work_is hdo⟩
  have hwa : (0 ≤ c.water.lo ∧ c.water.hi ≤ s.full) ∧ (0 ≤ c.fat.lo ∧ c.fat.hi ≤ s.fed) := ⟨⟨hco.water.low, hco.water.top⟩, ⟨hco.fat.low, hco.fat.top⟩⟩
  have hwk : m.hours * (100000 + m.load) = workOf m := rfl
  unfold lossW lossF at hloss
  obtain ⟨fu, fe, ⟨r0, r1⟩, ⟨h0, h1⟩, ⟨t0, t1⟩, ⟨b0, b1⟩, ⟨q0, q1⟩, ⟨k0, k1⟩, hz, ⟨s0, s1⟩⟩ := s
  obtain ⟨⟨w0, w1⟩, ⟨f0, f1⟩, ⟨o0, o1⟩, mk⟩ := c
  obtain ⟨hh, ld, ⟨e0, e1⟩, ⟨g0, g1⟩, ⟨d0, d1⟩⟩ := m
  unfold Breed.cells at hb
  unfold Camel.cells at hc
  unfold March.cells at hm
  simp only at hb hc hm hloss hday hwk hH0 SR SH ST SU SM SE SG SD SA SB hbd hwa
  obtain ⟨Z, hZ⟩ : ∃ Z, workOf ⟨hh, ld, ⟨e0, e1⟩, ⟨g0, g1⟩, ⟨d0, d1⟩⟩ = Z := ⟨_, rfl⟩
  simp only [hZ] at hloss
  rw [hZ] at hwk hbd
  unfold maxLen at hgm
  have hi0 : HRd s' c' m' l ts 0 x y (100000 * oneV ⟨w0, w1⟩ (numI bl 0)) (100000 * oneV ⟨f0, f1⟩ (numI bl 1)) := by
    have h1 := one_in SA (nm_ok hbr 0)
    have h2 := one_in SB (nm_ok hbr 1)
    exact hH0 _ _ (by omega) (by omega) (by omega) (by omega)
  have ba0 : 0 ≤ oneV ⟨w0, w1⟩ (numI bl 0) ∧ oneV ⟨w0, w1⟩ (numI bl 0) ≤ 1000000 := by
    have h1 := one_in SA (nm_ok hbr 0)
    omega
  have bb0 : 0 ≤ oneV ⟨f0, f1⟩ (numI bl 1) ∧ oneV ⟨f0, f1⟩ (numI bl 1) ≤ 1000000 := by
    have h1 := one_in SB (nm_ok hbr 1)
    omega
  have hZ' := hZ
  clear hH0 hin hco hsafe hZ hx0 hy0 hwa hL
  have Hx := Lib.hid hx
  have Hb := Lib.hid hb
  have Hc := Lib.hid hc
  have Hm := Lib.hid hm
  have Hts := Lib.hid hts
  have Htk := Lib.hid htk
  have Hsn := Lib.hid hsn
  have Hby := Lib.hid hby
  have Hbr := Lib.hid hbr
  have Hnu := Lib.hid hnu
  have Hloss := Lib.hid hloss
  have Hday := Lib.hid hday
  have Hi0 := Lib.hid hi0
  have Hs' := Lib.hid hs'
  have Hc' := Lib.hid hc'
  have Hm' := Lib.hid hm'
  have Hbo := Lib.hid hbo
  have Hdo := Lib.hid hdo
  have Hbd := Lib.hid hbd
  have Hwk := Lib.hid hwk
  have HZ' := Lib.hid hZ'
  clear hx hb hc hm hts htk hsn hby hbr hnu hloss hday hi0 hs' hc' hm' hbo hdo hbd hwk hZ'
  conv => arg 2; whnf
  dsimp only
  go_upto_region 20 with fail
  refine wp_region_ext (by kernel_rfl) (by kernel_rfl) (fun f hf hs => ?_)
  have f0 := fun q => ((hf q).box Hc.out).1
  have Hf := Lib.hid hf
  have HS := Lib.hid hs
  clear hf hs
  repeat (go_big_quiet_step ((first | (go_at_call 16; exact Calls.ext_of (Hf.out _) HS.out (Hnu.out _ _ (Hx.out.trans (Hf.out _)) (by decide))) | (go_at_call 15; exact Calls.ext_of (Hf.out _) HS.out (one_of (by assumption) (nm_ok Hbr.out _) _)))))
  refine wpQuiet_nil ?_
  intro W3 hW3
  clear f0
  have hx3 := Hx.out.trans hW3
  have hb3 := hW3.heap Hb.out
  have hc3 := hW3.heap Hc.out
  have hm3 := hW3.heap Hm.out
  have ht3 := Hts.out.ext hW3
  generalize 100000 * oneV ⟨w0, w1⟩ (numI bl 0) = A0 at *
  generalize 100000 * oneV ⟨f0, f1⟩ (numI bl 1) = B0 at *
  have Hx3 := Lib.hid hx3
  have Hb3 := Lib.hid hb3
  have Hc3 := Lib.hid hc3
  have Hm3 := Lib.hid hm3
  have Ht3 := Lib.hid ht3
  clear hx3 hb3 hc3 hm3 ht3
  clear hW3 Hx Hb Hc Hm Hts SA SB ba0 bb0
  go_upto_region 22 with fail
  go_loopw [162, 31, 32, 1, 2] (fun i a b p q wr => ∃ (k : Nat) (W F X Y : Int), i = .int .i64 k ∧ a = .int .i64 W ∧ b = .int .i64 F ∧ p = .int .i64 X ∧ q = .int .i64 Y ∧ k ≤ S ∧ Ext W3 wr ∧ HRd s' c' m' l ts k X Y W F) (fun i _ _ _ _ _ => S - (intOf i).toNat)
  case atStart => exact ⟨0, _, _, _, _, rfl, rfl, rfl, rfl, rfl, Nat.zero_le _, Ext.refl _, Hi0.out⟩
  case round =>
    obtain ⟨i, W, F, X, Y, rfl, rfl, rfl, rfl, rfl, hk, hx3w, hR⟩ := hrel
    clear Hi0
    have hxw := Hx3.out.trans hx3w
    by_cases hlt : i < S
    · have hltB : decide ((i : Int) < (S : Int)) = true := by simp; omega
      have hi60 : i < 60 := by omega
      obtain ⟨gb, go, t1', rfl, hk1, hgb, c0, c1, c2, c3, c4, c5⟩ := (Ht3.out.ext hx3w).get i (by omega)
      obtain ⟨t, ht, rfl⟩ : ∃ t, ts[i]? = some t ∧ dayEach t = t1' := by
        rw [List.getElem?_map] at hk1
        cases e : ts[i]? with
        | none => rw [e] at hk1; cases hk1
        | some t => rw [e] at hk1; exact ⟨t, rfl, by simpa using hk1⟩
      have hto := Htk.out t (List.mem_of_getElem? ht)
      obtain ⟨⟨tp, tq⟩, ⟨xa, xb⟩, ⟨ya, yb⟩⟩ := t
      unfold dayEach trekOk at hto
      simp only [Bool.and_eq_true] at hto
      obtain ⟨xs0, xs1, xs2⟩ := spanIs hto.1.2
      obtain ⟨ys0, ys1, ys2⟩ := spanIs hto.2
      unfold dayEach at c0 c1 c2 c3 c4 c5
      simp only at xs0 xs1 xs2 ys0 ys1 ys2 c0 c1 c2 c3 c4 c5
      have SX : SpOk xa xb := ⟨by omega, xs1, by omega⟩
      have SY : SpOk ya yb := ⟨by omega, ys1, by omega⟩
      have bX := one_in SX (nm_ok Hbr.out (8 * (i : Int) + 2))
      have bY := one_in SY (nm_ok Hbr.out (8 * (i : Int) + 3))
      have hnext := way_step hR.inn ht bX.1 bX.2 bY.1 bY.2
      have hXY : (-20000000 - 100000 * (i : Int) ≤ X ∧ X ≤ 20000000 + 100000 * (i : Int)) ∧ (-20000000 - 100000 * (i : Int) ≤ Y ∧ Y ≤ 20000000 + 100000 * (i : Int)) := ⟨hR.x0, hR.y0⟩
      have hXb : (-100000 ≤ oneV ⟨xa, xb⟩ (numI bl (8 * (i : Int) + 2)) ∧ oneV ⟨xa, xb⟩ (numI bl (8 * (i : Int) + 2)) ≤ 100000) ∧ (-100000 ≤ oneV ⟨ya, yb⟩ (numI bl (8 * (i : Int) + 3)) ∧ oneV ⟨ya, yb⟩ (numI bl (8 * (i : Int) + 3)) ≤ 100000) := by omega
      have hge := Lib.hid hR.has
      clear hk1 hto xs0 xs1 xs2 ys0 ys1 ys2 hR bX bY
      have Hnext := Lib.hid hnext
      have HXY := Lib.hid hXY
      have HXb := Lib.hid hXb
      have Hxw := Lib.hid hxw
      have Hx3w := Lib.hid hx3w
      clear hnext hXY hXb hxw hx3w
      have hnu := Hnu.out
      obtain ⟨N0, hN0⟩ : ∃ N, numI bl (8 * (i : Int)) = N := ⟨_, rfl⟩
      have n0 : NmOk N0 := by rw [← hN0]; exact nm_ok Hbr.out _
      have cn0 := fun W (hW : Ext w W) => hnu (8 * (i : Int)) W hW (by omega)
      rw [hN0] at cn0
      have Cn0 := Lib.hid cn0
      clear cn0
      obtain ⟨N1, hN1⟩ : ∃ N, numI bl (8 * (i : Int)+ 1) = N := ⟨_, rfl⟩
      have n1 : NmOk N1 := by rw [← hN1]; exact nm_ok Hbr.out _
      have cn1 := fun W (hW : Ext w W) => hnu (8 * (i : Int)+ 1) W hW (by omega)
      rw [hN1] at cn1
      have Cn1 := Lib.hid cn1
      clear cn1
      obtain ⟨N2, hN2⟩ : ∃ N, numI bl (8 * (i : Int)+ 2) = N := ⟨_, rfl⟩
      have n2 : NmOk N2 := by rw [← hN2]; exact nm_ok Hbr.out _
      have cn2 := fun W (hW : Ext w W) => hnu (8 * (i : Int)+ 2) W hW (by omega)
      rw [hN2] at cn2
      have Cn2 := Lib.hid cn2
      clear cn2
      obtain ⟨N3, hN3⟩ : ∃ N, numI bl (8 * (i : Int)+ 3) = N := ⟨_, rfl⟩
      have n3 : NmOk N3 := by rw [← hN3]; exact nm_ok Hbr.out _
      have cn3 := fun W (hW : Ext w W) => hnu (8 * (i : Int)+ 3) W hW (by omega)
      rw [hN3] at cn3
      have Cn3 := Lib.hid cn3
      clear cn3
      obtain ⟨N4, hN4⟩ : ∃ N, numI bl (8 * (i : Int)+ 4) = N := ⟨_, rfl⟩
      have n4 : NmOk N4 := by rw [← hN4]; exact nm_ok Hbr.out _
      have cn4 := fun W (hW : Ext w W) => hnu (8 * (i : Int)+ 4) W hW (by omega)
      rw [hN4] at cn4
      have Cn4 := Lib.hid cn4
      clear cn4
      obtain ⟨N5, hN5⟩ : ∃ N, numI bl (8 * (i : Int)+ 5) = N := ⟨_, rfl⟩
      have n5 : NmOk N5 := by rw [← hN5]; exact nm_ok Hbr.out _
      have cn5 := fun W (hW : Ext w W) => hnu (8 * (i : Int)+ 5) W hW (by omega)
      rw [hN5] at cn5
      have Cn5 := Lib.hid cn5
      clear cn5
      obtain ⟨N6, hN6⟩ : ∃ N, numI bl (8 * (i : Int)+ 6) = N := ⟨_, rfl⟩
      have n6 : NmOk N6 := by rw [← hN6]; exact nm_ok Hbr.out _
      have cn6 := fun W (hW : Ext w W) => hnu (8 * (i : Int)+ 6) W hW (by omega)
      rw [hN6] at cn6
      have Cn6 := Lib.hid cn6
      clear cn6
      obtain ⟨N7, hN7⟩ : ∃ N, numI bl (8 * (i : Int)+ 7) = N := ⟨_, rfl⟩
      have n7 : NmOk N7 := by rw [← hN7]; exact nm_ok Hbr.out _
      have cn7 := fun W (hW : Ext w W) => hnu (8 * (i : Int)+ 7) W hW (by omega)
      rw [hN7] at cn7
      have Cn7 := Lib.hid cn7
      clear cn7
      clear hnu
      obtain ⟨vR, hvR⟩ : ∃ V, oneV ⟨r0, r1⟩ N0 = V := ⟨_, rfl⟩
      have bvR : r0 ≤ vR ∧ vR ≤ r1 := by rw [← hvR]; exact one_in SR n0
      have ovR := fun W => one_of SR n0 W
      rw [hvR] at ovR
      have OvR := Lib.hid ovR
      clear ovR
      obtain ⟨vH, hvH⟩ : ∃ V, oneV ⟨h0, h1⟩ N1 = V := ⟨_, rfl⟩
      have bvH : h0 ≤ vH ∧ vH ≤ h1 := by rw [← hvH]; exact one_in SH n1
      have ovH := fun W => one_of SH n1 W
      rw [hvH] at ovH
      have OvH := Lib.hid ovH
      clear ovH
      obtain ⟨vE, hvE⟩ : ∃ V, oneV ⟨e0, e1⟩ N2 = V := ⟨_, rfl⟩
      have bvE : e0 ≤ vE ∧ vE ≤ e1 := by rw [← hvE]; exact one_in SE n2
      have ovE := fun W => one_of SE n2 W
      rw [hvE] at ovE
      have OvE := Lib.hid ovE
      clear ovE
      obtain ⟨vT, hvT⟩ : ∃ V, oneV ⟨t0, t1⟩ N3 = V := ⟨_, rfl⟩
      have bvT : t0 ≤ vT ∧ vT ≤ t1 := by rw [← hvT]; exact one_in ST n3
      have ovT := fun W => one_of ST n3 W
      rw [hvT] at ovT
      have OvT := Lib.hid ovT
      clear ovT
      obtain ⟨vM, hvM⟩ : ∃ V, oneV ⟨k0, k1⟩ N4 = V := ⟨_, rfl⟩
      have bvM : k0 ≤ vM ∧ vM ≤ k1 := by rw [← hvM]; exact one_in SM n4
      have ovM := fun W => one_of SM n4 W
      rw [hvM] at ovM
      have OvM := Lib.hid ovM
      clear ovM
      obtain ⟨vU, hvU⟩ : ∃ V, oneV ⟨b0, b1⟩ N5 = V := ⟨_, rfl⟩
      have bvU : b0 ≤ vU ∧ vU ≤ b1 := by rw [← hvU]; exact one_in SU n5
      have ovU := fun W => one_of SU n5 W
      rw [hvU] at ovU
      have OvU := Lib.hid ovU
      clear ovU
      obtain ⟨vD, hvD⟩ : ∃ V, oneV ⟨d0, d1⟩ N6 = V := ⟨_, rfl⟩
      have bvD : d0 ≤ vD ∧ vD ≤ d1 := by rw [← hvD]; exact one_in SD n6
      have ovD := fun W => one_of SD n6 W
      rw [hvD] at ovD
      have OvD := Lib.hid ovD
      clear ovD
      obtain ⟨vG, hvG⟩ : ∃ V, oneV ⟨g0, g1⟩ N7 = V := ⟨_, rfl⟩
      have bvG : g0 ≤ vG ∧ vG ≤ g1 := by rw [← hvG]; exact one_in SG n7
      have ovG := fun W => one_of SG n7 W
      rw [hvG] at ovG
      have OvG := Lib.hid ovG
      clear ovG
      have hls := Hloss.out mk n0 n1 n2 n3 n4 n5
      rw [hvR, hvH, hvE, hvT, hvM, hvU] at hls
      have hdy := Hday.out i hlt hge.out hls.2.1 hls.2.2.2 bvD.1 bvG.1
      have hWF : W ≤ 100000 * fu ∧ F ≤ 100000 * fe := by
        have h1 := hge.out.w1
        have h2 := hge.out.f1
        rw [Hs'.out] at h1 h2
        exact ⟨h1, h2⟩
      obtain ⟨⟨ra, rb⟩, ⟨ha0, ha1⟩, ⟨ta0, ta1⟩, ⟨ba0, ba1⟩, ⟨ma0, ma1⟩, ⟨ea0, ea1⟩, ⟨ga0, ga1⟩, ⟨da0, da1⟩, ⟨oa0, oa1⟩, ⟨la0, la1⟩, ⟨fa0, fa1⟩, ⟨fb0, fb1⟩, ⟨za0, za1⟩⟩ := Hbd.out
      have jvR : 0 ≤ vR ∧ vR ≤ 100000 := by omega
      have jvH : 0 ≤ vH ∧ vH ≤ 100000 := by omega
      have jvE : 0 ≤ vE ∧ vE ≤ 60 := by omega
      have jvT : 0 ≤ vT ∧ vT ≤ 100000 := by omega
      have jvM : 0 ≤ vM ∧ vM ≤ 100000 := by omega
      have jvU : 0 ≤ vU ∧ vU ≤ 100000 := by omega
      have jvD : 0 ≤ vD ∧ vD ≤ 1000000 := by omega
      have jvG : 0 ≤ vG ∧ vG ≤ 1000000 := by omega
      obtain ⟨Q1, hQ1⟩ : ∃ Q, (if 20 < vE then vE - 20 else 0) = Q := ⟨_, rfl⟩
      have hQb : 0 ≤ Q1 ∧ Q1 ≤ 40 := by rw [← hQ1]; split <;> omega
      have hmq : max 0 (vE - 20) = Q1 := by rw [← hQ1]; split <;> omega
      rw [hmq] at hls hdy
      have p1 := mul_le2 (a := vH) (b := vH) (x := Q1) (y := Q1) (A := 100000) (B := 40) jvH.1 (Int.le_refl _) hQb.1 (Int.le_refl _) jvH.2 hQb.2
      have p2 := mul_le2 (a := vT) (b := vT) (x := Z) (y := Z) (A := 100000) (B := 26400000) jvT.1 (Int.le_refl _) za0 (Int.le_refl _) jvT.2 za1
      have p3 := mul_le2 (a := vU) (b := vU) (x := Z) (y := Z) (A := 100000) (B := 26400000) jvU.1 (Int.le_refl _) za0 (Int.le_refl _) jvU.2 za1
      obtain ⟨P1, hP1⟩ : ∃ P, vH * Q1 = P := ⟨_, rfl⟩
      obtain ⟨P2, hP2⟩ : ∃ P, vT * Z = P := ⟨_, rfl⟩
      obtain ⟨P3, hP3⟩ : ∃ P, vU * Z = P := ⟨_, rfl⟩
      rw [hP1, hP2, hP3] at hls hdy
      rw [hP1] at p1
      rw [hP2] at p2
      rw [hP3] at p3
      have jP1 : 0 ≤ P1 ∧ P1 ≤ 4000000 := by omega
      have jP2 : 0 ≤ P2 ∧ P2 ≤ 2640000000000 := by omega
      have jP3 : 0 ≤ P3 ∧ P3 ≤ 2640000000000 := by omega
      have hld := And.intro la0 la1
      have hoo := And.intro oa0 oa1
      have hzz := And.intro za0 za1
      have hff := And.intro (And.intro fa0 fa1) (And.intro fb0 fb1)
      have jWF : (0 ≤ W ∧ W ≤ 100000000000) ∧ (0 ≤ F ∧ F ≤ 100000000000) := by
        cases mk <;> simp only [Bool.false_eq_true, if_false, if_true] at hls hdy <;> omega
      clear p1 p2 p3 ra rb ha0 ha1 ta0 ta1 ba0 ba1 ma0 ma1 ea0 ea1 ga0 ga1 da0 da1 oa0 oa1 la0 la1 fa0 fa1 fb0 fb1 za0 za1 bvR bvH bvE bvT bvM bvU bvD bvG hmq
      have Hls := Lib.hid hls
      have Hdy := Lib.hid hdy
      have HWF := Lib.hid hWF
      have JvR := Lib.hid jvR
      have JvH := Lib.hid jvH
      have JvE := Lib.hid jvE
      have JvT := Lib.hid jvT
      have JvM := Lib.hid jvM
      have JvU := Lib.hid jvU
      have JvD := Lib.hid jvD
      have JvG := Lib.hid jvG
      have JP1 := Lib.hid jP1
      have JP2 := Lib.hid jP2
      have JP3 := Lib.hid jP3
      have JWF := Lib.hid jWF
      have Hff := Lib.hid hff
      have HvR := Lib.hid hvR
      have HvH := Lib.hid hvH
      have HvE := Lib.hid hvE
      have HvT := Lib.hid hvT
      have HvM := Lib.hid hvM
      have HvU := Lib.hid hvU
      have HvD := Lib.hid hvD
      have HvG := Lib.hid hvG
      have HN0 := Lib.hid hN0
      have HN1 := Lib.hid hN1
      have HN2 := Lib.hid hN2
      have HN3 := Lib.hid hN3
      have HN4 := Lib.hid hN4
      have HN5 := Lib.hid hN5
      have HN6 := Lib.hid hN6
      have HN7 := Lib.hid hN7
      have Hld := Lib.hid hld
      have Hoo := Lib.hid hoo
      have Hzz := Lib.hid hzz
      have HP1 := Lib.hid hP1
      have HP2 := Lib.hid hP2
      have HP3 := Lib.hid hP3
      have HQ1 := Lib.hid hQ1
      have HQb := Lib.hid hQb
      clear hls hdy hWF jvR jvH jvE jvT jvM jvU jvD jvG jP1 jP2 jP3 jWF hff hvR hvH hvE hvT hvM hvU hvD hvG hN0 hN1 hN2 hN3 hN4 hN5 hN6 hN7 hld hoo hzz hP1 hP2 hP3 hQ1 hQb
      go_upto_region 24 with fail
      have hv1 := (Ext.refl wr).alloc (.cells #[.int .i64 1, .int .i64 1, .int .i64 xa, .int .i64 xb, .int .i64 ya, .int .i64 yb] 43)
      have hp34 := heap_alloc_new wr (.cells #[.int .i64 1, .int .i64 1, .int .i64 xa, .int .i64 xb, .int .i64 ya, .int .i64 yb] 43)
      generalize wr.alloc (.cells #[.int .i64 1, .int .i64 1, .int .i64 xa, .int .i64 xb, .int .i64 ya, .int .i64 yb] 43) = V1 at *
      generalize wr.heap.size = p34 at *
      have hx4 := Hxw.out.trans hv1
      have hx34 := Hx3w.out.trans hv1
      have hb4 := hx34.heap Hb3.out
      have hc4 := hx34.heap Hc3.out
      have hm4 := hx34.heap Hm3.out
      obtain ⟨zm, _⟩ := (Ext.refl V1).box hm4
      have hwk := Hwk.out
      have hld := Hld.out
      have hoo := Hoo.out
      have hzz := Hzz.out
      clear hv1 c0 c1 c2 c3 c4 c5 hgb ht
      have Hp34 := Lib.hid hp34
      have Hx4 := Lib.hid hx4
      have Hx34 := Lib.hid hx34
      have Hb4 := Lib.hid hb4
      have Hc4 := Lib.hid hc4
      have Hm4 := Lib.hid hm4
      clear hp34 hx4 hx34 hb4 hc4 hm4
      go_upto_region 26 with fail
      clear zm hwk hld hoo hzz
      have jvE := JvE.out
      have hQb := HQb.out
      have hQ1 := HQ1.out
      have hP1 := HP1.out
      have hP2 := HP2.out
      have jP1 := JP1.out
      have jP2 := JP2.out
      have jvR := JvR.out
      have jWF := JWF.out
      have hn0 := HN0.out
      have hn1 := HN1.out
      have hn2 := HN2.out
      have hn3 := HN3.out
      have hv0 := HvR.out
      have hv1 := HvH.out
      have hv2 := HvE.out
      have hv3 := HvT.out
      refine wp_region_ext (by kernel_rfl) (by kernel_rfl) (fun f hf hs => ?_)
      have f0 := fun q => ((hf q).box Hb4.out).1
      have f1 := fun q => ((hf q).box Hm4.out).1
      have Hf := Lib.hid hf
      have HS := Lib.hid hs
      clear hf hs
      repeat (go_big_quiet_step ((first | (go_at_call 16; exact Calls.ext_of (Hf.out _) HS.out (Hnu.out _ _ (Hx4.out.trans (Hf.out _)) (by omega))) | (go_at_call 15; exact Calls.ext_of (Hf.out _) HS.out (one_of (by assumption) (by first | exact nm_ok Hbr.out _ | assumption) _)))))
      refine wpQuiet_nil ?_
      intro W5 hW5
      clear f0 f1
      have hx5 := Hx4.out.trans hW5
      have hx35 := Hx34.out.trans hW5
      have hb5 := hW5.heap Hb4.out
      have hc5 := hW5.heap Hc4.out
      have hm5 := hW5.heap Hm4.out
      have hp5 := hW5.heap Hp34.out
      obtain ⟨zc, _⟩ := (Ext.refl W5).box hc5
      clear hW5 hn0 hn1 hn2 hn3 hv0 hv1 hv2 hv3 jvE hQb hQ1 hP1 hP2 jP1 jP2 jvR jWF Hx4 Hx34 Hb4 Hc4 Hm4 Hp34
      have Hx5 := Lib.hid hx5
      have Hx35 := Lib.hid hx35
      have Hb5 := Lib.hid hb5
      have Hc5 := Lib.hid hc5
      have Hm5 := Lib.hid hm5
      have Hp5 := Lib.hid hp5
      clear hx5 hx35 hb5 hc5 hm5 hp5
      have jvR := JvR.out
      have jP1 := JP1.out
      have jP2 := JP2.out
      have jWF := JWF.out
      have jvM := JvM.out
      have jvU := JvU.out
      have jP3 := JP3.out
      cases mk
      · have hls := Hls.out
        have hdy := Hdy.out
        simp only [Bool.false_eq_true, if_false, Int.add_zero] at hls hdy
        obtain ⟨LW, hLW⟩ : ∃ V, W - (100000 * (vR + P1) + P2) = V := ⟨_, rfl⟩
        rw [hLW] at hdy
        have lWb : 0 ≤ LW ∧ LW ≤ 100000000000 := by omega
        obtain ⟨LF, hLF⟩ : ∃ V, F - P3 = V := ⟨_, rfl⟩
        rw [hLF] at hdy
        have lFb : 0 ≤ LF ∧ LF ≤ 100000000000 := by omega
        have hwB : decide (LW < 0) = false := decide_eq_false (by omega)
        have hfB : decide (LF < 0) = false := decide_eq_false (by omega)
        have hH := hdy.2.2
        clear hls hdy
        have HH := Lib.hid hH
        have LFb := Lib.hid lFb
        have HfB := Lib.hid hfB
        have HwB := Lib.hid hwB
        have LWb := Lib.hid lWb
        clear hH lFb hfB hwB lWb
        clear jvR jP1 jP2 jvM
        have hn5 := HN5.out
        have hv5 := HvU.out
        have hP3 := HP3.out
        go_upto_region 29 with fail
        refine wp_region_ext (by kernel_rfl) (by kernel_rfl) (fun f hf hs => ?_)
        have f0 := fun q => ((hf q).box Hb5.out).1
        have Hf := Lib.hid hf
        have HS := Lib.hid hs
        clear hf hs
        repeat (go_big_quiet_step ((first | (go_at_call 16; exact Calls.ext_of (Hf.out _) HS.out (Hnu.out _ _ (Hx5.out.trans (Hf.out _)) (by omega))) | (go_at_call 15; exact Calls.ext_of (Hf.out _) HS.out (one_of (by assumption) (by first | exact nm_ok Hbr.out _ | assumption) _)))))
        refine wpQuiet_nil ?_
        intro W7 hW7
        clear f0
        have hx7 := Hx5.out.trans hW7
        have hx37 := Hx35.out.trans hW7
        have hb7 := hW7.heap Hb5.out
        have hm7 := hW7.heap Hm5.out
        have hp7 := hW7.heap Hp5.out
        have hwB := HwB.out
        have hfB := HfB.out
        have lwb := LWb.out
        have lfb := LFb.out
        clear hW7 hn5 hv5 hP3 jvU jP3 jWF
        have Hx7 := Lib.hid hx7
        have Hx37 := Lib.hid hx37
        have Hb7 := Lib.hid hb7
        have Hm7 := Lib.hid hm7
        have Hp7 := Lib.hid hp7
        clear hx7 hx37 hb7 hm7 hp7
        have hff := Hff.out
        have jvD := JvD.out
        have hn6 := HN6.out
        have hv6 := HvD.out
        obtain ⟨W6v, hW6v⟩ : ∃ V, (if LW + 100000 * vD < 100000 * fu then LW + 100000 * vD else 100000 * fu) = V := ⟨_, rfl⟩
        have hmn6 : min (100000 * fu) (LW + 100000 * vD) = W6v := by rw [← hW6v]; split <;> omega
        go_upto_region 32 with fail
        refine wp_region_ext (by kernel_rfl) (by kernel_rfl) (fun f hf hs => ?_)
        have f0 := fun q => ((hf q).box Hb7.out).1
        have f1 := fun q => ((hf q).box Hm7.out).1
        have Hf := Lib.hid hf
        have HS := Lib.hid hs
        clear hf hs
        repeat (go_big_quiet_step ((first | (go_at_call 16; exact Calls.ext_of (Hf.out _) HS.out (Hnu.out _ _ (Hx7.out.trans (Hf.out _)) (by omega))) | (go_at_call 15; exact Calls.ext_of (Hf.out _) HS.out (one_of (by assumption) (by first | exact nm_ok Hbr.out _ | assumption) _)))))
        refine wpQuiet_nil ?_
        intro W8 hW8
        clear f0 f1
        have hx8 := Hx7.out.trans hW8
        have hx38 := Hx37.out.trans hW8
        have hb8 := hW8.heap Hb7.out
        have hm8 := hW8.heap Hm7.out
        have hp8 := hW8.heap Hp7.out
        clear hW8 hn6 hv6 jvD
        have Hx8 := Lib.hid hx8
        have Hx38 := Lib.hid hx38
        have Hb8 := Lib.hid hb8
        have Hm8 := Lib.hid hm8
        have Hp8 := Lib.hid hp8
        clear hx8 hx38 hb8 hm8 hp8
        have jvG := JvG.out
        have hn7 := HN7.out
        have hv7 := HvG.out
        obtain ⟨F6v, hF6v⟩ : ∃ V, (if LF + 100000 * vG < 100000 * fe then LF + 100000 * vG else 100000 * fe) = V := ⟨_, rfl⟩
        have hmn7 : min (100000 * fe) (LF + 100000 * vG) = F6v := by rw [← hF6v]; split <;> omega
        go_upto_region 33 with fail
        refine wp_region_ext (by kernel_rfl) (by kernel_rfl) (fun f hf hs => ?_)
        have f0 := fun q => ((hf q).box Hb8.out).1
        have f1 := fun q => ((hf q).box Hm8.out).1
        have Hf := Lib.hid hf
        have HS := Lib.hid hs
        clear hf hs
        repeat (go_big_quiet_step ((first | (go_at_call 16; exact Calls.ext_of (Hf.out _) HS.out (Hnu.out _ _ (Hx8.out.trans (Hf.out _)) (by omega))) | (go_at_call 15; exact Calls.ext_of (Hf.out _) HS.out (one_of (by assumption) (by first | exact nm_ok Hbr.out _ | assumption) _)))))
        refine wpQuiet_nil ?_
        intro W9 hW9
        clear f0 f1
        have hx9 := Hx8.out.trans hW9
        have hx39 := Hx38.out.trans hW9
        have hp9 := hW9.heap Hp8.out
        clear hW9 hn7 hv7 jvG hff lwb lfb hW6v hF6v
        have Hx9 := Lib.hid hx9
        have Hx39 := Lib.hid hx39
        have Hp9 := Lib.hid hp9
        clear hx9 hx39 hp9
        have hXY := HXY.out
        have hXb := HXb.out
        go_upto_region 34 with fail
        refine wp_region_ext (by kernel_rfl) (by kernel_rfl) (fun f hf hs => ?_)
        have f0 := fun q => ((hf q).box Hp9.out).1
        have Hf := Lib.hid hf
        have HS := Lib.hid hs
        clear hf hs
        repeat (go_big_quiet_step ((first | (go_at_call 16; exact Calls.ext_of (Hf.out _) HS.out (Hnu.out _ _ (Hx9.out.trans (Hf.out _)) (by omega))) | (go_at_call 15; exact Calls.ext_of (Hf.out _) HS.out (one_of (by assumption) (by first | exact nm_ok Hbr.out _ | assumption) _)))))
        refine wpQuiet_nil ?_
        intro W10 hW10
        clear f0
        have hx10 := Hx39.out.trans hW10
        have hH := HH.out
        rw [hmn6, hmn7] at hH
        have hnext := Hnext.out
        have hR' : HRd s' c' m' l ts (i + 1) (X + oneV ⟨xa, xb⟩ (numI bl (8 * (i : Int) + 2))) (Y + oneV ⟨ya, yb⟩ (numI bl (8 * (i : Int) + 3))) W6v F6v := ⟨hH, hnext, by omega, by omega⟩
        clear hH hnext hXY hXb hW10 hmn6 hmn7 hLW hLF hwB hfB
        have Hx10 := Lib.hid hx10
        have HR' := Lib.hid hR'
        clear hx10 hR'
        go_wp2_with fail
        go_roundw
        case rel => exact ⟨i + 1, W6v, F6v, _, _, by go_num, rfl, rfl, rfl, rfl, by omega, Hx10.out, HR'.out⟩
        case measure => simp [intOf]; omega
      · have hn4 := HN4.out
        have hv4 := HvM.out
        go_upto_region 28 with fail
        clear zc
        refine wp_region_ext (by kernel_rfl) (by kernel_rfl) (fun f hf hs => ?_)
        have f0 := fun q => ((hf q).box Hb5.out).1
        have Hf := Lib.hid hf
        have HS := Lib.hid hs
        clear hf hs
        repeat (go_big_quiet_step ((first | (go_at_call 16; exact Calls.ext_of (Hf.out _) HS.out (Hnu.out _ _ (Hx5.out.trans (Hf.out _)) (by omega))) | (go_at_call 15; exact Calls.ext_of (Hf.out _) HS.out (one_of (by assumption) (by first | exact nm_ok Hbr.out _ | assumption) _)))))
        refine wpQuiet_nil ?_
        intro W6 hW6
        clear f0
        have hx6 := Hx5.out.trans hW6
        have hx36 := Hx35.out.trans hW6
        have hb6 := hW6.heap Hb5.out
        have hm6 := hW6.heap Hm5.out
        have hp6 := hW6.heap Hp5.out
        clear hW6 hn4 hv4
        have Hx6 := Lib.hid hx6
        have Hx36 := Lib.hid hx36
        have Hb6 := Lib.hid hb6
        have Hm6 := Lib.hid hm6
        have Hp6 := Lib.hid hp6
        clear hx6 hx36 hb6 hm6 hp6
        have hls := Hls.out
        have hdy := Hdy.out
        simp only [if_true] at hls hdy
        obtain ⟨LW, hLW⟩ : ∃ V, W - (100000 * (vR + P1) + P2) - 100000 * vM = V := ⟨_, rfl⟩
        rw [show W - (100000 * (vR + P1) + P2 + 100000 * vM) = LW by omega] at hdy
        have lWb : 0 ≤ LW ∧ LW ≤ 100000000000 := by omega
        obtain ⟨LF, hLF⟩ : ∃ V, F - P3 = V := ⟨_, rfl⟩
        rw [hLF] at hdy
        have lFb : 0 ≤ LF ∧ LF ≤ 100000000000 := by omega
        have hwB : decide (LW < 0) = false := decide_eq_false (by omega)
        have hfB : decide (LF < 0) = false := decide_eq_false (by omega)
        have hH := hdy.2.2
        clear hls hdy
        have HH := Lib.hid hH
        have LFb := Lib.hid lFb
        have HfB := Lib.hid hfB
        have HwB := Lib.hid hwB
        have LWb := Lib.hid lWb
        clear hH lFb hfB hwB lWb
        clear jvR jP1 jP2 jvM
        have hn5 := HN5.out
        have hv5 := HvU.out
        have hP3 := HP3.out
        go_upto_region 29 with fail
        refine wp_region_ext (by kernel_rfl) (by kernel_rfl) (fun f hf hs => ?_)
        have f0 := fun q => ((hf q).box Hb6.out).1
        have Hf := Lib.hid hf
        have HS := Lib.hid hs
        clear hf hs
        repeat (go_big_quiet_step ((first | (go_at_call 16; exact Calls.ext_of (Hf.out _) HS.out (Hnu.out _ _ (Hx6.out.trans (Hf.out _)) (by omega))) | (go_at_call 15; exact Calls.ext_of (Hf.out _) HS.out (one_of (by assumption) (by first | exact nm_ok Hbr.out _ | assumption) _)))))
        refine wpQuiet_nil ?_
        intro W7 hW7
        clear f0
        have hx7 := Hx6.out.trans hW7
        have hx37 := Hx36.out.trans hW7
        have hb7 := hW7.heap Hb6.out
        have hm7 := hW7.heap Hm6.out
        have hp7 := hW7.heap Hp6.out
        have hwB := HwB.out
        have hfB := HfB.out
        have lwb := LWb.out
        have lfb := LFb.out
        clear hW7 hn5 hv5 hP3 jvU jP3 jWF
        have Hx7 := Lib.hid hx7
        have Hx37 := Lib.hid hx37
        have Hb7 := Lib.hid hb7
        have Hm7 := Lib.hid hm7
        have Hp7 := Lib.hid hp7
        clear hx7 hx37 hb7 hm7 hp7
        have hff := Hff.out
        have jvD := JvD.out
        have hn6 := HN6.out
        have hv6 := HvD.out
        obtain ⟨W6v, hW6v⟩ : ∃ V, (if LW + 100000 * vD < 100000 * fu then LW + 100000 * vD else 100000 * fu) = V := ⟨_, rfl⟩
        have hmn6 : min (100000 * fu) (LW + 100000 * vD) = W6v := by rw [← hW6v]; split <;> omega
        go_upto_region 32 with fail
        refine wp_region_ext (by kernel_rfl) (by kernel_rfl) (fun f hf hs => ?_)
        have f0 := fun q => ((hf q).box Hb7.out).1
        have f1 := fun q => ((hf q).box Hm7.out).1
        have Hf := Lib.hid hf
        have HS := Lib.hid hs
        clear hf hs
        repeat (go_big_quiet_step ((first | (go_at_call 16; exact Calls.ext_of (Hf.out _) HS.out (Hnu.out _ _ (Hx7.out.trans (Hf.out _)) (by omega))) | (go_at_call 15; exact Calls.ext_of (Hf.out _) HS.out (one_of (by assumption) (by first | exact nm_ok Hbr.out _ | assumption) _)))))
        refine wpQuiet_nil ?_
        intro W8 hW8
        clear f0 f1
        have hx8 := Hx7.out.trans hW8
        have hx38 := Hx37.out.trans hW8
        have hb8 := hW8.heap Hb7.out
        have hm8 := hW8.heap Hm7.out
        have hp8 := hW8.heap Hp7.out
        clear hW8 hn6 hv6 jvD
        have Hx8 := Lib.hid hx8
        have Hx38 := Lib.hid hx38
        have Hb8 := Lib.hid hb8
        have Hm8 := Lib.hid hm8
        have Hp8 := Lib.hid hp8
        clear hx8 hx38 hb8 hm8 hp8
        have jvG := JvG.out
        have hn7 := HN7.out
        have hv7 := HvG.out
        obtain ⟨F6v, hF6v⟩ : ∃ V, (if LF + 100000 * vG < 100000 * fe then LF + 100000 * vG else 100000 * fe) = V := ⟨_, rfl⟩
        have hmn7 : min (100000 * fe) (LF + 100000 * vG) = F6v := by rw [← hF6v]; split <;> omega
        go_upto_region 33 with fail
        refine wp_region_ext (by kernel_rfl) (by kernel_rfl) (fun f hf hs => ?_)
        have f0 := fun q => ((hf q).box Hb8.out).1
        have f1 := fun q => ((hf q).box Hm8.out).1
        have Hf := Lib.hid hf
        have HS := Lib.hid hs
        clear hf hs
        repeat (go_big_quiet_step ((first | (go_at_call 16; exact Calls.ext_of (Hf.out _) HS.out (Hnu.out _ _ (Hx8.out.trans (Hf.out _)) (by omega))) | (go_at_call 15; exact Calls.ext_of (Hf.out _) HS.out (one_of (by assumption) (by first | exact nm_ok Hbr.out _ | assumption) _)))))
        refine wpQuiet_nil ?_
        intro W9 hW9
        clear f0 f1
        have hx9 := Hx8.out.trans hW9
        have hx39 := Hx38.out.trans hW9
        have hp9 := hW9.heap Hp8.out
        clear hW9 hn7 hv7 jvG hff lwb lfb hW6v hF6v
        have Hx9 := Lib.hid hx9
        have Hx39 := Lib.hid hx39
        have Hp9 := Lib.hid hp9
        clear hx9 hx39 hp9
        have hXY := HXY.out
        have hXb := HXb.out
        go_upto_region 34 with fail
        refine wp_region_ext (by kernel_rfl) (by kernel_rfl) (fun f hf hs => ?_)
        have f0 := fun q => ((hf q).box Hp9.out).1
        have Hf := Lib.hid hf
        have HS := Lib.hid hs
        clear hf hs
        repeat (go_big_quiet_step ((first | (go_at_call 16; exact Calls.ext_of (Hf.out _) HS.out (Hnu.out _ _ (Hx9.out.trans (Hf.out _)) (by omega))) | (go_at_call 15; exact Calls.ext_of (Hf.out _) HS.out (one_of (by assumption) (by first | exact nm_ok Hbr.out _ | assumption) _)))))
        refine wpQuiet_nil ?_
        intro W10 hW10
        clear f0
        have hx10 := Hx39.out.trans hW10
        have hH := HH.out
        rw [hmn6, hmn7] at hH
        have hnext := Hnext.out
        have hR' : HRd s' c' m' l ts (i + 1) (X + oneV ⟨xa, xb⟩ (numI bl (8 * (i : Int) + 2))) (Y + oneV ⟨ya, yb⟩ (numI bl (8 * (i : Int) + 3))) W6v F6v := ⟨hH, hnext, by omega, by omega⟩
        clear hH hnext hXY hXb hW10 hmn6 hmn7 hLW hLF hwB hfB
        have Hx10 := Lib.hid hx10
        have HR' := Lib.hid hR'
        clear hx10 hR'
        go_wp2_with fail
        go_roundw
        case rel => exact ⟨i + 1, W6v, F6v, _, _, by go_num, rfl, rfl, rfl, rfl, by omega, Hx10.out, HR'.out⟩
        case measure => simp [intOf]; omega
    · have hltB : decide ((i : Int) < (S : Int)) = false := by simp; omega
      obtain rfl : i = S := by omega
      have hsn := Hsn.out
      have hnr := hsn.near X Y (by simpa using hR.inn)
      have hpx := hsn.px
      have hpy := hsn.py
      have hX := hR.x0
      have hY := hR.y0
      have hx1 : -30000000 ≤ X ∧ X ≤ 30000000 := by omega
      have hy1 : -30000000 ≤ Y ∧ Y ≤ 30000000 := by omega
      have hmx := fun W => run_max4 (X - wx) (wx - X) (Y - wy) (wy - Y) W
      have hB : decide (max (max (X - wx) (wx - X)) (max (Y - wy) (wy - Y)) ≤ far) = true := decide_eq_true hnr
      clear hR hX hY hsn hnr
      have Hxw := Lib.hid hxw
      clear hxw
      go_wp2_with fail
      go_ret
      exact ⟨ret_bool (by first | exact hB | simpa using hB), Hxw.out⟩
end Go.Proofs.YtcoelhpmkhimpaaGreat
