/- TopKnown: the first area (regions 7 to 9), and what follows. -/
import Derived.Test.YtcoelhpmkhimpaaGreatVKnownT
import Derived.Test.YtcoelhpmkhimpaaGreatVGk
namespace Go.Proofs.YtcoelhpmkhimpaaGreat
open Go.RowKit
set_option linter.unusedVariables false
set_option linter.unusedSimpArgs false
theorem startK_any (e n : Span) (h : startOf e n = (box e n, 0)) (w : World) : Calls Tryz.prog 19 #[e.val, n.val] w fun er w' => ∃ a c, er = .returned (.tuple #[.agg #[.slice a 4 c], .int .i64 0]) ∧ 4 ≤ c ∧ c ≤ maxLen ∧ Ext w w' ∧ HalvesAt w' a 4 (box e n) ∧ From w.heap.size a :=
  (start_any e n w).mono fun er w' hh => by
    unfold AreaOwn at hh
    rw [h] at hh
    obtain ⟨v, rfl, hx, ho⟩ := hh
    obtain ⟨a, c, rfl, h1, h2, h3, h4⟩ := halves_of_owns ho
    exact ⟨a, c, rfl, h2, h3, hx, h4, h1⟩
theorem run_max2 (a b : Int) (w : World) : (Builtin.max_ #[3, 3] 3 #[.int .i64 a, .int .i64 b]).run Tryz.prog w = .ok (.int .i64 (max a b)) w := by
  have hm : ∀ p q : Int, (if p < q then q else p) = max p q := by
    intro p q
    split <;> omega
  simp [Builtin.max_, Builtin.max2, hm]
theorem run_min2 (a b : Int) (w : World) : (Builtin.min_ #[3, 3] 3 #[.int .i64 a, .int .i64 b]).run Tryz.prog w = .ok (.int .i64 (min a b)) w := by
  have hm : ∀ p q : Int, (if q < p then q else p) = min p q := by
    intro p q
    split <;> omega
  simp [Builtin.min_, Builtin.min2, hm]
theorem join_ordersB {F M : Option Addr → Nat → Nat → World → Prop} {S : World → Prop} {X Y : World → Prop} (h1 : (∀ a c p W, F a c p W → M a c p W) → ∀ W, S W → X W) (h2 : (∀ a c p W, F a c p W → M a c p W) → ∀ W, S W → Y W) (h : ∀ a c p W, F a c p W → M a c p W) : ∀ W, S W → X W ∧ Y W := fun W hW => ⟨h1 h W hW, h2 h W hW⟩
set_option maxRecDepth 100000 in
set_option maxHeartbeats 16000000 in
theorem knownBegin {w W2 : World} {wa la oa ba : Option Addr} {wn wc ln lc on oc bn bc pw : Nat} {ws : List Well} {os bl : List Int} {x y dp y0 y1 rm s0 s1 ow : Int}
    (hx : Ext w W2) (hld : W2.heap[w.heap.size]? = some (.cells #[.slice wa wn wc, .slice la ln lc] 57 (0, 0))) (hwl : ∀ W, Ext w W → WellsAt W wa wn ws) (hwn : 1 ≤ wn ∧ wn ≤ 12) (hwc : wn ≤ wc) (hwm : wc ≤ maxLen) (hwk : ws.all wellOk = true)
    (hw : W2.heap[pw]? = some (.cells #[.int .i64 x, .int .i64 y, .int .i64 dp, .int .i64 y0, .int .i64 y1, .int .i64 rm, .int .i64 s0, .int .i64 s1, .int .i64 ow] 62 (0, 0)))
    (hne : w.heap.size < pw) (hxb : -10000000 ≤ x ∧ x ≤ 10000000) (hyb : -10000000 ≤ y ∧ y ≤ 10000000)
    (hoa : ∀ W, Ext w W → IntsAt .u8 W oa on os) (hom : on ≤ maxLen) (hor : ∀ z ∈ os, 0 ≤ z ∧ z ≤ 255)
    (hby : ∀ W, Ext w W → IntsAt .u32 W ba bn bl) (hbm : bn ≤ maxLen) (hbr : ∀ z ∈ bl, 0 ≤ z ∧ z ≤ 4294967295)
    {u0 u1 u5 u6 u7 u8 u11 u12 u13 u14 u15 u16 u17 u18 u19 u20 u21 u22 u23 u24 u25 u26 u27 u28 u29 u30 u31 u32 u33 u34 u35 u36 u37 u38 u39 u40 u41 u42 u43 u44 u45 u46 u47 u48 u49 u50 u51 u52 u53 u54 u55 u56 u57 u58 u59 u60 u61 u62 u63 u64 u65 u66 u67 u68 u69 u70 u71 u72 u73 u74 u75 u76 u77 u78 u79 u80 u81 u82 u83 u84 u85 u86 u87 u88 u89 u90 u91 u92 u93 u94 u95 u96 u97 u98 u99 u100 u101 u102 u103 u104 u105 u106 u107 u108 u109 u110 u111 u112 u113 u114 u115 u116 u117 u118 u119 u120 u121 u122 u123 u124 u125 u126 u127 u128 u129 u130 u131 u132 u133 u134 u135 u136 u137 u138 u139 u140 u141 u142 u143 u144 u145 u146 u147 u148 u149 u150 u151 u152 u153 u154 u155 u156 u157 u158 u159 u160 u161 u162 u163 u164 u165 u166 u167 u168 u169 u170 u171 u172 u173 u174 u175 u176 u177 u178 u179 u180 u181 u182 u183 u184 u185 u186 u187 u188 u189 u190 u191 u192 u193 u194 u195 u196 u197 u198 u199 u200 u201 u202 u203 u204 u205 u206 u207 u208 u209 u210 u211 u212 u213 u214 u215 u216 u217 u218 u219 u220 u221 u222 u223 u224 u225 u226 u227 u228 u229 u230 u231 u232 u233 u234 u235 u236 u237 u238 u239 u240 u241 u242 u243 u244 u245 u246 u247 u248 u249 u250 u251 u252 u253 u254 u255 u256 u257 u258 u259 u260 u261 u262 u263 u264 u265 u266 u267 u268 u269 u270 u271 u272 u273 u274 u275 u276 u277 u278 u279 u280 u281 u282 u283 u284 u285 u286 u287 u288 u289 u290 u291 u292 u293 u294 u295 u296 u297 u298 u299 u300 u301 u302 u303 u304 u305 u306 u307 u308 u309 u310 u311 u312 u313 u314 u315 u316 u317 u318 u319 u320 u321 u322 u323 u324 u325 u326 u327 : Value} :
    (restFrom Tryz.f4 7).wp Tryz.prog (bodyPost Tryz.prog Tryz.f4 fun e w' => e = .returned (.bool true) ∧ Ext w w')
      ⟨#[u0, u1, .slice oa on oc, .slice ba bn bc, .pointer (some ⟨w.heap.size, 0, none⟩), u5, u6, u7, u8, .bool true, .pointer (some ⟨pw, 0, none⟩), u11, u12, u13, u14, u15, u16, u17, u18, u19, u20, u21, u22, u23, u24, u25, u26, u27, u28, u29, u30, u31, u32, u33, u34, u35, u36, u37, u38, u39, u40, u41, u42, u43, u44, u45, u46, u47, u48, u49, u50, u51, u52, u53, u54, u55, u56, u57, u58, u59, u60, u61, u62, u63, u64, u65, u66, u67, u68, u69, u70, u71, u72, u73, u74, u75, u76, u77, u78, u79, u80, u81, u82, u83, u84, u85, u86, u87, u88, u89, u90, u91, u92, u93, u94, u95, u96, u97, u98, u99, u100, u101, u102, u103, u104, u105, u106, u107, u108, u109, u110, u111, u112, u113, u114, u115, u116, u117, u118, u119, u120, u121, u122, u123, u124, u125, u126, u127, u128, u129, u130, u131, u132, u133, u134, u135, u136, u137, u138, u139, u140, u141, u142, u143, u144, u145, u146, u147, u148, u149, u150, u151, u152, u153, u154, u155, u156, u157, u158, u159, u160, u161, u162, u163, u164, u165, u166, u167, u168, u169, u170, u171, u172, u173, u174, u175, u176, u177, u178, u179, u180, u181, u182, u183, u184, u185, u186, u187, u188, u189, u190, u191, u192, u193, u194, u195, u196, u197, u198, u199, u200, u201, u202, u203, u204, u205, u206, u207, u208, u209, u210, u211, u212, u213, u214, u215, u216, u217, u218, u219, u220, u221, u222, u223, u224, u225, u226, u227, u228, u229, u230, u231, u232, u233, u234, u235, u236, u237, u238, u239, u240, u241, u242, u243, u244, u245, u246, u247, u248, u249, u250, u251, u252, u253, u254, u255, u256, u257, u258, u259, u260, u261, u262, u263, u264, u265, u266, u267, u268, u269, u270, u271, u272, u273, u274, u275, u276, u277, u278, u279, u280, u281, u282, u283, u284, u285, u286, u287, u288, u289, u290, u291, u292, u293, u294, u295, u296, u297, u298, u299, u300, u301, u302, u303, u304, u305, u306, u307, u308, u309, u310, u311, u312, u313, u314, u315, u316, u317, u318, u319, u320, u321, u322, u323, u324, u325, u326, u327], []⟩ W2 := by
  obtain ⟨E0, hE0⟩ : ∃ E, max (x - 500) (-10000000) = E := ⟨_, rfl⟩
  obtain ⟨E1, hE1⟩ : ∃ E, min (x + 500) 10000000 = E := ⟨_, rfl⟩
  obtain ⟨N0, hN0⟩ : ∃ E, max (y - 500) (-10000000) = E := ⟨_, rfl⟩
  obtain ⟨N1, hN1⟩ : ∃ E, min (y + 500) 10000000 = E := ⟨_, rfl⟩
  have hstart := start_in (e := ⟨E0, E1⟩) (n := ⟨N0, N1⟩) hxb hyb (by simp only; omega) (by simp only; omega) (by simp only; omega) (by simp only; omega) (by simp only; omega) (by simp only; omega)
  obtain ⟨hs1, har, hin⟩ := hstart
  have hst := fun W => startK_any ⟨E0, E1⟩ ⟨N0, N1⟩ hs1 W
  unfold Span.val at hst
  simp only at hst
  obtain ⟨L, hL⟩ : ∃ L, box ⟨E0, E1⟩ ⟨N0, N1⟩ = L := ⟨_, rfl⟩
  rw [hL] at hst har hin
  have hm1 := fun W => run_max2 (x - 500) (-10000000) W
  have hm2 := fun W => run_min2 (x + 500) 10000000 W
  have hm3 := fun W => run_max2 (y - 500) (-10000000) W
  have hm4 := fun W => run_min2 (y + 500) 10000000 W
  rw [hE0] at hm1
  rw [hE1] at hm2
  rw [hN0] at hm3
  rw [hN1] at hm4
  have hsp := stretch_any
  have hpw := heap_lt hw
  clear hE0 hE1 hN0 hN1 hs1 hL
  have Hx := Lib.hid hx
  have Hld := Lib.hid hld
  have Hwl := Lib.hid hwl
  have Hwk := Lib.hid hwk
  have Hw := Lib.hid hw
  have Hoa := Lib.hid hoa
  have Hor := Lib.hid hor
  have Hby := Lib.hid hby
  have Hbr := Lib.hid hbr
  have Har := Lib.hid har
  have Hin := Lib.hid hin
  have Hst := Lib.hid hst
  have Hsp := Lib.hid hsp
  clear hx hld hwl hwk hw hoa hor hby hbr har hin hst hsp
  conv => arg 2; whnf
  dsimp only
  go_upto_region 7 with fail
  refine wp_region_plan (.take [0, 1, 2, 3, 4, 5, 6, 7, 9, 10, 11, 12, 13, 14, 15, 16] (.call 8 (.call 17 (.two 18 (.free [19, 20, 21] (.one 22 (.fin (.one 23 (.one 24 .done))))) 22 (.one 18 (.free [19, 20, 21] (.fin (.one 23 (.one 24 .done))))))))) [23, 24] (Ext W2) _ (by kernel_rfl) (by kernel_rfl) rfl (EC.ext W2) ((Ext.refl _).drew) ?_
  simp only [planOf, treeOf, oneOp, twoOp, opsOf, consOp, callOC, oneOC, twoOC, List.getElem?_toArray, List.getElem?_cons_succ, List.getElem?_cons_zero]
  intro ι _ f hf
  have f0 := fun q => ((hf q).box Hw.out).1
  clear hf
  repeat (go_big_quiet_step (fail))
  refine wpQuiet_nil ?_
  clear f0
  refine wpOC_call (args := #[.int .i64 E0, .int .i64 E1]) (v := .agg #[.int .i64 E0, .int .i64 E1]) rfl rfl (enters_of Tryz.func11 (by kernel_rfl) rfl) (by kernel_rfl) (fun V hV => Hsp.out _ _ V) ?_
  simp only [Act.put, List.setIfInBounds_toArray, List.set_cons_succ, List.set_cons_zero]
  refine wpOC_call (args := #[.int .i64 N0, .int .i64 N1]) (v := .agg #[.int .i64 N0, .int .i64 N1]) rfl rfl (enters_of Tryz.func11 (by kernel_rfl) rfl) (by kernel_rfl) (fun V hV => Hsp.out _ _ V) ?_
  simp only [Act.put, List.setIfInBounds_toArray, List.set_cons_succ, List.set_cons_zero]
  refine wpOC_two ?_
  apply join_ordersB (F := fun a c p W => Ext W2 W ∧ W2.heap.size ≤ p ∧ W.heap[p]? = some (.cells #[.slice a 4 c] 24 (0, 0)) ∧ HalvesAt W a 4 L ∧ 4 ≤ c ∧ c ≤ maxLen ∧ ∀ X, a = some X → X.block ≠ p)
  · intro G Wa hxa
    go_wp2_with (go_at_call 19; refine (Hst.out _).mono ?_; rintro e Wb ⟨b, cc, rfl, q1, q2, hxb', hHb, hfb⟩)
    have hxab := hxa.trans hxb'
    have hlt : ∀ X, b = some X → X.block < Wb.heap.size := fun X hX => by
      obtain ⟨b5, o5, _, e5, _, hl5, _⟩ := hHb.get 0 (by omega)
      rw [hX] at e5
      cases e5
      exact hl5
    refine ⟨Ext Wb, EC.ext Wb, fun _ h => hxab.trans h, Ext.refl Wb, ?_⟩
    refine wpOC_free ?_
    repeat (go_big_quiet_step (fail))
    refine wpQuiet_nil ?_
    intro Wc hxc
    go_wp2_with fail
    have hpa := heap_alloc_new Wc (.cells #[.slice none 0 0] 24)
    have hxd := hxc.alloc (.cells #[.slice none 0 0] 24)
    have hp8 := (hxab.trans hxc).size
    have hne : ∀ X, b = some X → X.block ≠ Wc.heap.size := fun X hX => by
      have h1 := hlt X hX
      have h2 := hxc.size
      omega
    generalize Wc.alloc (.cells #[.slice none 0 0] 24) = Wd at *
    generalize Wc.heap.size = p at *
    refine ⟨Ext Wd, EC.ext Wd, fun _ h => hxd.trans h, Ext.refl Wd, ?_⟩
    intro We hxe
    have hHe := hHb.ext (hxd.trans hxe)
    have hx8 := hxab.trans (hxd.trans hxe)
    have hpe := hxe.heap hpa
    clear hxa hxb' hHb hxab hlt hxc hpa hxd hxe
    obtain ⟨k0, k1⟩ := (Ext.refl We).box hpe
    have hpl := heap_lt hpe
    refine wpOT_one ?_
    go_wp2_with fail
    refine wpOT_one ?_
    go_wp2_with fail
    refine wpOT_done ?_
    exact G b cc p _ ⟨hx8.setCell (p := ⟨p, 0, none⟩) hp8 _, hp8, by rw [heap_setCell_box, hpe]; rfl, hHe.same fun X hX => Below.heap_setCell _ _ _ _ (hne X hX), q1, q2, hne⟩
  · intro G Wa hxa
    go_wp2_with fail
    have hpa := heap_alloc_new Wa (.cells #[.slice none 0 0] 24)
    have hxd := hxa.alloc (.cells #[.slice none 0 0] 24)
    have hp8 := hxa.size
    have hps := heap_lt hpa
    generalize Wa.alloc (.cells #[.slice none 0 0] 24) = Wd at *
    generalize Wa.heap.size = p at *
    refine ⟨Ext Wd, EC.ext Wd, fun _ h => hxd.trans h, Ext.refl Wd, ?_⟩
    clear hxa
    intro We hxe
    go_wp2_with (go_at_call 19; refine (Hst.out _).mono ?_; rintro e Wb ⟨b, cc, rfl, q1, q2, hxb', hHb, hfb⟩)
    have hne : ∀ X, b = some X → X.block ≠ p := fun X hX => by
      have h1 := hfb X hX
      have h2 := hxe.size
      omega
    have hxeb := hxe.trans hxb'
    refine ⟨Ext Wb, EC.ext Wb, fun _ h => hxeb.trans h, Ext.refl Wb, ?_⟩
    refine wpOC_free ?_
    repeat (go_big_quiet_step (fail))
    refine wpQuiet_nil ?_
    intro Wc hxc
    have hHe := hHb.ext hxc
    have hx8 := hxd.trans (hxeb.trans hxc)
    have hpe := (hxeb.trans hxc).heap hpa
    clear hxb' hHb hxc hpa hxd hxe hxeb hfb hps
    obtain ⟨k0, k1⟩ := (Ext.refl Wc).box hpe
    have hpl := heap_lt hpe
    refine wpOT_one ?_
    go_wp2_with fail
    refine wpOT_one ?_
    go_wp2_with fail
    refine wpOT_done ?_
    exact G b cc p _ ⟨hx8.setCell (p := ⟨p, 0, none⟩) hp8 _, hp8, by rw [heap_setCell_box, hpe]; rfl, hHe.same fun X hX => Below.heap_setCell _ _ _ _ (hne X hX), q1, q2, hne⟩
  rintro b cc p W9 ⟨hx9, hp9, hb9, hH9, q1, q2, hf9⟩
  have hxw := Hx.out.trans hx9
  have hld9 := hx9.heap Hld.out
  have hw9 := hx9.heap Hw.out
  have Hxw := Lib.hid hxw
  have Hld9 := Lib.hid hld9
  have Hw9 := Lib.hid hw9
  have Hb9 := Lib.hid hb9
  have HH9 := Lib.hid hH9
  have Hf9 := Lib.hid hf9
  clear hxw hld9 hw9 hb9 hH9 hf9
  clear hx9 Hx Hld Hw
  go_upto_if 71 with fail
  iterate 4 go_step
  exact knownTail Hxw.out Hld9.out Hwl.out hwn hwc hwm Hwk.out Hb9.out Hw9.out ⟨hne, by omega⟩ Hf9.out HH9.out q1 q2 Har.out Hin.out hxb hyb Hoa.out hom Hor.out Hby.out hbm Hbr.out
end Go.Proofs.YtcoelhpmkhimpaaGreat
