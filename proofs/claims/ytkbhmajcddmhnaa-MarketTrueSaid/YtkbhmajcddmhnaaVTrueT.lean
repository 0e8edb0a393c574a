/- The law MarketTrue: the losses that are named, and those that there are. -/
import Derived.Test.YtkbhmajcddmhnaaVGr14
import Derived.Test.YtkbhmajcddmhnaaVGr16
import Derived.Test.YtkbhmajcddmhnaaVNarTail
namespace Go.Proofs.Ytkbhmajcddmhnaa
open Go.RowKit
set_option linter.unusedVariables false
set_option linter.unusedSimpArgs false

/-- the pairs that are named so far -/
def isV (l : List Loss) (p : PK) : Option Value := if l.any (fun z => decide (z.road = p.a ∧ z.good = p.b)) then some (.bool true) else none
theorem isV_snoc (l : List Loss) (x : Loss) : isV (l ++ [x]) = fun q => if q = ⟨x.road, x.good⟩ then some (.bool true) else isV l q := by
  funext q
  obtain ⟨a, b⟩ := q
  unfold isV
  simp only [PK.mk.injEq, List.any_append, List.any_cons, List.any_nil, Bool.or_false, Bool.or_eq_true, decide_eq_true_eq]
  by_cases h : a = x.road ∧ b = x.good
  · rw [if_pos h, if_pos (.inr ⟨h.1.symm, h.2.symm⟩)]
  · rw [if_neg h]
    by_cases h2 : (l.any fun z => decide (z.road = a ∧ z.good = b)) = true
    · rw [if_pos (.inl h2), if_pos h2]
    · rw [if_neg h2, if_neg]
      rintro (h' | h')
      · exact h2 h'
      · exact h ⟨h'.1.symm, h'.2.symm⟩
theorem isV_of {l : List Loss} {z : Loss} (h : z ∈ l) {a b : Int} (ha : z.road = a) (hb : z.good = b) : isV l ⟨a, b⟩ = some (.bool true) := by
  unfold isV
  rw [if_pos]
  rw [List.any_eq_true]
  exact ⟨z, h, by simp [ha, hb]⟩
theorem zero4 (w : World) : (zeroValue 4).run Try.prog w = .ok (.bool false) w := by kernel_rfl
theorem road_cell {w : World} {ra : Option Addr} {rs : List (List Int)} (h : SlAt w 5 ra rs.length (fun k => (roadRows rs).getD k [])) (h5 : ∀ x ∈ rs, x.length = 5) {i : Nat} (hi : i < rs.length) :
    ∃ b off x, ra = some ⟨b, off, none⟩ ∧ rs[i]? = some x ∧ x.length = 5 ∧ ∀ g, g < 5 → w.cell? ⟨b, off + i * 5 + g, none⟩ = some (.int .i64 (x.getD g 0)) := by
  obtain ⟨b, off, ha, hc⟩ := h (by omega)
  obtain ⟨x, hx⟩ : ∃ x, rs[i]? = some x := ⟨_, List.getElem?_eq_getElem hi⟩
  have hx5 := h5 x (List.mem_of_getElem? hx)
  refine ⟨b, off, x, ha, hx, hx5, fun g hg => hc i hi g _ ?_⟩
  have : (roadRows rs).getD i [] = iv x := by simp [roadRows, List.getD, List.getElem?_map, hx]
  show ((roadRows rs).getD i [])[g]? = _
  rw [this]
  exact iv_get (by omega)

theorem index63 (x0 x1 x2 x3 x4 : Int) (g : Nat) (hg : g < 5) (w : World) : (Instr.index 63 (.agg #[.int .i64 x0, .int .i64 x1, .int .i64 x2, .int .i64 x3, .int .i64 x4]) (.int .i64 (g : Int))).run Try.prog w = .ok (.int .i64 ([x0, x1, x2, x3, x4].getD g 0)) w := by
  match g, hg with
  | 0, _ => show _ = _; kernel_rfl
  | 1, _ => show _ = _; kernel_rfl
  | 2, _ => show _ = _; kernel_rfl
  | 3, _ => show _ = _; kernel_rfl
  | 4, _ => show _ = _; kernel_rfl
set_option maxRecDepth 100000 in
set_option maxHeartbeats 4000000 in
theorem trueTail {w w7 : World} {h : List Span} {x : List Loss} {xs : List Int} {n R : Nat} {t : TS} {xa ra : Option Addr} {xn xc rc tb : Nat}
    (tf : TrueFacts xs n R h x t) (hT : TrAt w7 tb t (.slice ra R rc)) (hR : R ≤ 10)
    (hsl : SlAt w7 5 ra R (fun k => (roadRows t.roads).getD k [])) (hx : LossesAt w7 xa xn x) (hxn : xn ≤ 1000) (hx07 : Ext w w7)
    {u0 u1 u2 u3 u4 u5 u6 u7 u8 u9 u10 u12 u14 u15 u17 u18 u19 u20 u21 u22 u23 u24 u25 u26 u27 u28 u29 u30 u31 u32 u33 u34 u35 u36 u37 u38 u39 u40 u41 u42 u43 u44 u45 u46 u47 u48 u49 u50 u51 u52 u53 u54 u55 u56 u57 u58 u59 u60 u61 u62 u63 u64 u65 u66 u67 u68 u69 u70 u71 u72 u73 u74 u75 u76 u77 u78 u79 u80 u81 u82 u83 u84 u85 u86 u87 u88 u89 u90 u91 u92 u93 u94 u95 u96 u97 u98 u99 u100 u101 u102 u103 u104 u105 u106 u107 u108 u109 u110 u111 u112 u113 u114 u115 u116 u117 u118 u119 u120 u121 u122 u123 u124 u125 u126 u127 u128 u129 u130 u131 u132 u133 u134 u135 u136 u137 u138 u139 u140 u141 u142 u143 u144 u145 u146 u147 u148 u149 u150 u151 u152 u153 u154 u155 u156 u157 u158 u159 u160 u161 u162 u163 u164 u165 u166 u167 u168 u169 u170 u171 u172 u173 u174 u175 u176 u177 u178 u179 u180 u181 u182 u183 u184 u185 u186 u187 u188 u189 u190 u191 u192 u193 u194 u195 u196 u197 u198 u199 u200 u201 u202 u203 u204 u205 u206 u207 u208 u209 u210 u211 u212 u213 u214 u215 u216 u217 u218 u219 u220 u221 u222 u223 u224 u225 u226 u227 u228 u229 u230 u231 u232 u233 u234 u235 u236 u237 u238 u239 u240 u241 u242 u243 u244 u245 u246 u247 u248 u249 u250 u251 u252 u253 u254 u255 u256 u257 u258 u259 u260 u261 u262 u263 u264 u265 u266 u267 u268 u269 u270 u271 u272 u273 u274 u275 u276 u277 u278 u279 u280 u281 u282 u283 u284 u285 u286 : Value} :
    (restFrom Try.f6 16).wp Try.prog (bodyPost Try.prog Try.f6 fun e w' => e = .returned (.bool true) ∧ Ext w w')
      ⟨#[u0, u1, u2, u3, u4, u5, u6, u7, u8, u9, u10, .bool true, u12, .slice xa xn xc, u14, u15, .pointer (some ⟨tb, 0, none⟩), u17, u18, u19, u20, u21, u22, u23, u24, u25, u26, u27, u28, u29, u30, u31, u32, u33, u34, u35, u36, u37, u38, u39, u40, u41, u42, u43, u44, u45, u46, u47, u48, u49, u50, u51, u52, u53, u54, u55, u56, u57, u58, u59, u60, u61, u62, u63, u64, u65, u66, u67, u68, u69, u70, u71, u72, u73, u74, u75, u76, u77, u78, u79, u80, u81, u82, u83, u84, u85, u86, u87, u88, u89, u90, u91, u92, u93, u94, u95, u96, u97, u98, u99, u100, u101, u102, u103, u104, u105, u106, u107, u108, u109, u110, u111, u112, u113, u114, u115, u116, u117, u118, u119, u120, u121, u122, u123, u124, u125, u126, u127, u128, u129, u130, u131, u132, u133, u134, u135, u136, u137, u138, u139, u140, u141, u142, u143, u144, u145, u146, u147, u148, u149, u150, u151, u152, u153, u154, u155, u156, u157, u158, u159, u160, u161, u162, u163, u164, u165, u166, u167, u168, u169, u170, u171, u172, u173, u174, u175, u176, u177, u178, u179, u180, u181, u182, u183, u184, u185, u186, u187, u188, u189, u190, u191, u192, u193, u194, u195, u196, u197, u198, u199, u200, u201, u202, u203, u204, u205, u206, u207, u208, u209, u210, u211, u212, u213, u214, u215, u216, u217, u218, u219, u220, u221, u222, u223, u224, u225, u226, u227, u228, u229, u230, u231, u232, u233, u234, u235, u236, u237, u238, u239, u240, u241, u242, u243, u244, u245, u246, u247, u248, u249, u250, u251, u252, u253, u254, u255, u256, u257, u258, u259, u260, u261, u262, u263, u264, u265, u266, u267, u268, u269, u270, u271, u272, u273, u274, u275, u276, u277, u278, u279, u280, u281, u282, u283, u284, u285, u286], []⟩ w7 := by
  have hxl := hx.1
  have hmm := @run_makeMap Try.prog
  have hrl := tf.ok.roads.1
  have Tf := Lib.hid tf
  have HT := Lib.hid hT
  have Hsl := Lib.hid hsl
  have Hx := Lib.hid hx
  have Hx07 := Lib.hid hx07
  have Hxl := Lib.hid hxl
  have Hrl := Lib.hid hrl
  clear tf hT hsl hx hx07 hxl hrl
  conv => arg 2; whnf
  go_upto_region 18 with fail
  have hm9 := PMapIs.made w7
  have hx9 : Ext w7 (w7.alloc (.map #[] 0)) := (Ext.refl _).alloc _
  clear hmm
  obtain ⟨mb, hmb⟩ : ∃ mb, w7.heap.size = mb := ⟨_, rfl⟩
  rw [hmb] at hm9
  rw [hmb]
  have hmb' : w7.heap.size ≤ mb := by omega
  clear hmb
  generalize w7.alloc (.map #[] 0) = w9 at *
  have Hm9 := Lib.hid hm9
  have Hx9 := Lib.hid hx9
  clear hm9 hx9
  go_wp2_with fail
  go_loopw [164] (fun i wr => ∃ k : Nat, k ≤ xn ∧ i = .int .i64 k ∧ Ext w7 wr ∧ PMapIs wr mb (isV (x.take k))) (fun i _ => xn - (intOf i).toNat)
  case atStart => exact ⟨0, Nat.zero_le _, rfl, Hx9.out, Hm9.out⟩
  case round =>
    clear Hm9 Hx9
    obtain ⟨k, hk, rfl, hx, hm⟩ := hrel
    by_cases hlt : k < xn
    · have hlt' : decide ((k : Int) < (xn : Int)) = true := by simp; omega
      obtain ⟨xb, xo, z, rfl, hzk, hzb, c0, c1, c2, c3⟩ := (Hx.out.ext hx).get k hlt
      obtain ⟨e1, e2, e3, e4, e5⟩ := Tf.out.each z (List.mem_of_getElem? hzk)
      obtain ⟨i, g, row, hzi, hzg, hg5, hrow, hlo, hhi⟩ := Tf.out.loss.2 z (List.mem_of_getElem? hzk)
      obtain ⟨zr, zg, zl, zh⟩ := z
      simp only at hzi hzg hlo hhi e1 e2 e3 e4 e5 c0 c1 c2 c3
      subst hzi hzg
      have hx1 : Ext wr (wr.alloc (.cells #[.int .i64 (i : Int), .int .i64 (g : Int), .int .i64 zl, .int .i64 zh] 73)) := (Ext.refl _).alloc _
      have hbz := heap_alloc_new wr (.cells #[.int .i64 (i : Int), .int .i64 (g : Int), .int .i64 zl, .int .i64 zh] 73)
      have htk : x.take (k + 1) = x.take k ++ [⟨(i : Int), (g : Int), zl, zh⟩] := by rw [List.take_add_one, hzk]; rfl
      obtain ⟨f0, _⟩ := (Ext.refl (wr.alloc (.cells #[.int .i64 (i : Int), .int .i64 (g : Int), .int .i64 zl, .int .i64 zh] 73))).box hbz
      have hiR : i < R := by omega
      obtain ⟨rb, ro, row', rfl, hrow', hr5, hcell⟩ := road_cell (by rw [Hrl.out]; exact Hsl.out) Tf.out.ok.roads.2 (i := i) (by rw [Hrl.out]; exact hiR)
      rw [hrow] at hrow'
      cases hrow'
      have cR := HT.out.cR Tf.out.ok.l5
      have hcg := hcell g hg5
      have cR1 := (hx.trans hx1).cell cR
      have cg1 := (hx.trans hx1).cell hcg
      have hp : ∀ m, k = m + 1 → ∃ z', x[m]? = some z' ∧ LossLt z' ⟨(i : Int), (g : Int), zl, zh⟩ := fun m e => by
        subst e
        obtain ⟨z', hz'⟩ : ∃ z', x[m]? = some z' := ⟨_, List.getElem?_eq_getElem (by have := Hxl.out; omega)⟩
        obtain ⟨h1, e1⟩ := List.getElem?_eq_some_iff.1 hz'
        obtain ⟨h2, e2⟩ := List.getElem?_eq_some_iff.1 hzk
        refine ⟨z', hz', ?_⟩
        rw [← e1, ← e2]
        exact List.pairwise_iff_getElem.1 Tf.out.sorted m (m + 1) h1 h2 (by omega)
      have hget := fun m (hm : m < xn) => ((Hx.out.ext hx).ext hx1).get m hm
      have hm1 := hm.ext hx1
      have hx01 := hx.trans hx1
      clear hx hm hcell cR hcg hrow hx1
      have Htk := Lib.hid htk
      have Hget := Lib.hid hget
      have Hp := Lib.hid hp
      have Hm1 := Lib.hid hm1
      have Hx01 := Lib.hid hx01
      clear htk hget hp hm1 hx01
      go_upto_region 20 with fail
      generalize wr.alloc (.cells #[.int .i64 (i : Int), .int .i64 (g : Int), .int .i64 zl, .int .i64 zh] 73) = W1 at *
      clear c0 c1 c2 c3 f0
      go_cut [226] from 165 to 260 (fun s226 wx => s226 = .bool false ∧ Ext W1 wx)
      case first =>
        have hB1 : decide ((i : Int) < 0) = false := decide_eq_false (by omega)
        have hB2 : decide ((R : Int) ≤ (i : Int)) = false := decide_eq_false (by omega)
        have hB2n : decide (R ≤ i) = false := decide_eq_false (by omega)
        have hB4n : decide (5 ≤ g) = false := decide_eq_false (by omega)
        have hB3 : decide ((g : Int) < 0) = false := decide_eq_false (by omega)
        have hB4 : decide (5 ≤ (g : Int)) = false := decide_eq_false (by omega)
        rcases Nat.eq_zero_or_pos k with hk0 | hk0
        · have hB5n : decide (0 < k) = false := decide_eq_false (by omega)
          have hB5 : decide (0 < (k : Int)) = false := decide_eq_false (by omega)
          refine wp_region_ext (by kernel_rfl) (by kernel_rfl) (fun f hf hs => ?_)
          have f0 := fun q => ((hf q).box hbz).1
          have f1 := fun q => (hf q).cell cR1
          clear hf hs
          repeat (go_big_quiet_step (fail))
          refine wpQuiet_nil ?_
          intro W8 hW8
          clear f0 f1
          go_wp2_with fail
          go_meet
          case rel => exact ⟨rfl, hW8⟩
        · obtain ⟨m, rfl⟩ : ∃ m, k = m + 1 := ⟨k - 1, by omega⟩
          have hB5 : decide ((0 : Int) < (m : Int) + 1) = true := decide_eq_true (by omega)
          obtain ⟨z', hz', hlt2⟩ := Hp.out m rfl
          obtain ⟨_, _, z2, e, hz2, _, p0, p1, _, _⟩ := Hget.out m (by omega)
          cases e
          rw [hz'] at hz2
          cases hz2
          simp only [LossLt] at hlt2
          have hB6 : decide ((i : Int) < z'.road) = false := decide_eq_false (by omega)
          rcases hlt2 with hl | ⟨hl, hl2⟩
          · have hB7 : ((i : Int) == z'.road) = false := by rw [beq_eq_false_iff_ne]; omega
            refine wp_region_ext (by kernel_rfl) (by kernel_rfl) (fun f hf hs => ?_)
            have f0 := fun q => ((hf q).box hbz).1
            have f1 := fun q => (hf q).cell cR1
            have f2 := fun q => (hf q).cell p0
            have f3 := fun q => (hf q).cell p1
            clear hf hs
            repeat (go_big_quiet_step (fail))
            refine wpQuiet_nil ?_
            intro W8 hW8
            clear f0 f1 f2 f3
            go_wp2_with fail
            go_meet
            case rel => exact ⟨rfl, hW8⟩
          · have hB7 : ((i : Int) == z'.road) = true := by rw [beq_iff_eq]; omega
            have hB8 : decide ((g : Int) ≤ z'.good) = false := decide_eq_false (by omega)
            refine wp_region_ext (by kernel_rfl) (by kernel_rfl) (fun f hf hs => ?_)
            have f0 := fun q => ((hf q).box hbz).1
            have f1 := fun q => (hf q).cell cR1
            have f2 := fun q => (hf q).cell p0
            have f3 := fun q => (hf q).cell p1
            clear hf hs
            repeat (go_big_quiet_step (fail))
            refine wpQuiet_nil ?_
            intro W8 hW8
            clear f0 f1 f2 f3
            go_wp2_with fail
            go_meet
            case rel => exact ⟨rfl, hW8⟩
      case rest =>
        obtain ⟨rfl, hx12⟩ := hcut
        have hbz2 := hx12.heap hbz
        have cR2 := hx12.cell cR1
        have cg2 := hx12.cell cg1
        have hx02 := Hx01.out.trans hx12
        have hm2 := Hm1.out.ext hx12
        have Hx02 := Lib.hid hx02
        have Hm2 := Lib.hid hm2
        clear hx02 hm2
        clear Hx01 Hm1 hx12 hbz cR1 cg1
        have hB1 : decide (row.getD g 0 < zl) = false := decide_eq_false (by omega)
        have hB2 : decide (zh < row.getD g 0) = false := decide_eq_false (by omega)
        have hB3 : decide (zh < 1) = false := by simp; omega
        have hm3 := Htk.out
        have hsn := isV_snoc (x.take k) ⟨(i : Int), (g : Int), zl, zh⟩
        rw [← hm3] at hsn
        generalize row.getD g 0 = V at *
        have Hsn := Lib.hid hsn
        clear hsn
        clear hm3 Htk hlo hhi e5 Hget Hp hzk
        go_step
        go_wp2_with fail
        refine wp_region_ext (by kernel_rfl) (by kernel_rfl) (fun f hf hs => ?_)
        have f0 := fun q => ((hf q).box hbz2).1
        have f1 := fun q => (hf q).cell cR2
        have f2 := fun q => (hf q).cell cg2
        clear hf hs
        repeat (go_big_quiet_step (fail))
        refine wpQuiet_nil ?_
        intro W3 hW3
        clear f0 f1 f2
        obtain ⟨f0, _⟩ := hW3.box hbz2
        obtain ⟨w4, hrun, hm4, hg4⟩ := run_mapUpdate_pair (Hm2.out.ext hW3) Try.underlying71 ⟨(i : Int), (g : Int)⟩ (.bool true)
        have hrun : (Instr.mapUpdate 71 (.map (some mb)) (.agg #[.int .i64 (i : Int), .int .i64 (g : Int)]) (.bool true)).run Try.prog W3 = .ok () w4 := hrun
        have hx4 : Ext w7 w4 := (Hx02.out.trans hW3).only_trans (p := mb) hg4 hmb'
        have hm5 : PMapIs w4 mb (isV (x.take (k + 1))) := by rw [Hsn.out]; exact hm4
        have Hx4 := Lib.hid hx4
        have Hm5 := Lib.hid hm5
        clear hx4 hm5
        clear hm4 hg4
        go_wp2_with fail
        go_roundw
        case rel => exact ⟨k + 1, by omega, by go_num, Hx4.out, Hm5.out⟩
        case measure => simp [intOf]; omega
    · have hlt' : decide ((k : Int) < (xn : Int)) = false := by simp; omega
      obtain rfl : k = xn := by omega
      rw [List.take_of_length_le (by have := Hxl.out; omega)] at hm
      obtain ⟨w3, rfl⟩ : ∃ w3 : World, w3 = wr := ⟨_, rfl⟩
      have hT3 := HT.out.ext hx
      have cR := hT3.cR Tf.out.ok.l5
      have hsl3 := Hsl.out.ext hx
      have hx03 := Hx07.out.trans hx
      have Hm := Lib.hid hm
      have Hx03 := Lib.hid hx03
      have Hsl3 := Lib.hid hsl3
      clear hm hx03 hsl3
      clear Hx Hx07 hx hT3
      go_wp2_with fail
      go_loopw [264] (fun i wr => ∃ k : Nat, k ≤ R ∧ i = .int .i64 k ∧ Ext w3 wr) (fun i _ => R - (intOf i).toNat)
      case atStart => exact ⟨0, Nat.zero_le _, rfl, Ext.refl _⟩
      case round =>
        clear cR
        obtain ⟨k, hk, rfl, hx⟩ := hrel
        by_cases hlt : k < R
        · have hlt' : decide ((k : Int) < (R : Int)) = true := by simp; omega
          obtain ⟨rb, ro, row, rfl, hrow, hr5, hcell⟩ := road_cell (by rw [Hrl.out]; exact Hsl3.out.ext hx) Tf.out.ok.roads.2 (i := k) (by rw [Hrl.out]; exact hlt)
          have hrx : ∃ x0 x1 x2 x3 x4, row = [x0, x1, x2, x3, x4] := by
            match row, hr5 with
            | [x0, x1, x2, x3, x4], _ => exact ⟨_, _, _, _, _, rfl⟩
          obtain ⟨x0, x1, x2, x3, x4, rfl⟩ := hrx
          have c0 := hcell 0 (by omega)
          have c1 := hcell 1 (by omega)
          have c2 := hcell 2 (by omega)
          have c3 := hcell 3 (by omega)
          have c4 := hcell 4 (by omega)
          simp only [List.getD_cons_zero, List.getD_cons_succ, Nat.add_zero] at c0 c1 c2 c3 c4
          have hx1 : Ext wr (wr.alloc (.cells #[.int .i64 x0, .int .i64 x1, .int .i64 x2, .int .i64 x3, .int .i64 x4] 63)) := (Ext.refl _).alloc _
          obtain ⟨f0, _⟩ := (Ext.refl (wr.alloc (.cells #[.int .i64 x0, .int .i64 x1, .int .i64 x2, .int .i64 x3, .int .i64 x4] 63))).box (heap_alloc_new wr _)
          have hx13 := hx.trans hx1
          have hnm : ∀ g, g < 5 → 0 < [x0, x1, x2, x3, x4].getD g 0 → isV x ⟨(k : Int), (g : Int)⟩ = some (.bool true) := fun g hg h0 => by
            obtain ⟨z, hz, h1, h2⟩ := Tf.out.loss.1 k g _ hrow hg h0
            exact isV_of hz h1 h2
          have Hx13 := Lib.hid hx13
          have Hnm := Lib.hid hnm
          clear hx13 hnm
          clear hx hx1 hcell hrow
          go_upto_region 31 with fail
          generalize wr.alloc (.cells #[.int .i64 x0, .int .i64 x1, .int .i64 x2, .int .i64 x3, .int .i64 x4] 63) = W1 at *
          clear f0 c0 c1 c2 c3 c4
          go_loopw [270] (fun i wi => ∃ g : Nat, g ≤ 5 ∧ i = .int .i64 g ∧ Ext W1 wi) (fun i _ => 5 - (intOf i).toNat)
          case atStart => exact ⟨0, Nat.zero_le _, rfl, Ext.refl _⟩
          case round =>
            obtain ⟨g, hg, rfl, hxi⟩ := hrel
            by_cases hltg : g < 5
            · have hltg' : decide ((g : Int) < 5) = true := by simp; omega
              have i0 := fun W => index63 x0 x1 x2 x3 x4 g hltg W
              have hn := Hnm.out g hltg
              generalize [x0, x1, x2, x3, x4].getD g 0 = V at *
              have hlk := (run_lookup_pair ((Hm.out.ext Hx13.out).ext hxi) Try.underlying71 (zero4 _) ⟨(k : Int), (g : Int)⟩).2
              by_cases hV : 0 < V
              · have hVB : decide (0 < V) = true := decide_eq_true hV
                rw [hn hV] at hlk
                have hlk : (Instr.lookup 71 (.map (some mb)) (.agg #[.int .i64 (k : Int), .int .i64 (g : Int)]) false).run Try.prog wr = .ok (.bool true) wr := hlk
                clear hn
                have Hxi := Lib.hid hxi
                clear hxi
                go_wp2_with fail
                go_roundw
                case rel => exact ⟨g + 1, by omega, by go_num, Hxi.out⟩
                case measure => simp [intOf]; omega
              · have hVB : decide (0 < V) = false := decide_eq_false hV
                clear hn hlk
                have Hxi := Lib.hid hxi
                clear hxi
                go_wp2_with fail
                go_roundw
                case rel => exact ⟨g + 1, by omega, by go_num, Hxi.out⟩
                case measure => simp [intOf]; omega
            · obtain rfl : g = 5 := by omega
              rw [show ((5 : Nat) : Int) = 5 from rfl]
              have hx3i := Hx13.out.trans hxi
              have Hx3i := Lib.hid hx3i
              clear hx3i
              clear hxi
              go_wp2_with fail
              go_roundw
              case rel => exact ⟨k + 1, by omega, by go_num, Hx3i.out⟩
              case measure => simp [intOf]; omega
        · have hlt' : decide ((k : Int) < (R : Int)) = false := by simp; omega
          have hx0 := Hx03.out.trans hx
          have Hx0 := Lib.hid hx0
          clear hx0
          clear hx
          go_wp2_with fail
          go_ret
          exact ⟨rfl, Hx0.out⟩
end Go.Proofs.Ytkbhmajcddmhnaa
