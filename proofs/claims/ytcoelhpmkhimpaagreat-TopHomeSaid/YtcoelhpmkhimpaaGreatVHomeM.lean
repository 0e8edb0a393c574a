/- TopHome: from the copy of the treks to the first day. -/
import Derived.Test.YtcoelhpmkhimpaaGreatVHomeT
import Derived.Test.YtcoelhpmkhimpaaGreatVGn
import Derived.Test.YtcoelhpmkhimpaaGreatVMoved
import Derived.Test.YtcoelhpmkhimpaaGreatVStageP
import Derived.Test.YtcoelhpmkhimpaaGreatVAliveE
namespace Go.Proofs.YtcoelhpmkhimpaaGreat
open Go.RowKit
set_option linter.unusedVariables false
set_option linter.unusedSimpArgs false
theorem trekRows_row (l : List Trek) : ∀ r ∈ trekRows l, r.length = 6 ∧ ∀ u ∈ r, u.oneCell' = true := by
  intro r hr
  obtain ⟨t, _, rfl⟩ := List.mem_map.1 hr
  refine ⟨rfl, fun u hu => ?_⟩
  simp only [Trek.cells, List.mem_cons, List.not_mem_nil, or_false] at hu
  rcases hu with rfl | rfl | rfl | rfl | rfl | rfl <;> rfl
theorem trekRows_len (l : List Trek) : (trekRows l).length = l.length := by simp [trekRows]
theorem TreksAt.src {w : World} {a : Option Addr} {n : Nat} {l : List Trek} (h : TreksAt w a n l) : SlAt w 6 a n (fun k => (trekRows l).getD k []) :=
  h.2.congr fun k hk => by
    have := h.1
    simp only [trekRows, List.getD, List.getElem?_map, List.getElem?_eq_getElem (show k < l.length by omega), Option.map_some, Option.getD_some]
theorem treks_of_owns {w : World} {B g n cap : Nat} {e : TypeId} {l : List Trek} (ho : Owns w B e 6 (.slice (some ⟨g, 0, none⟩) n cap) (trekRows l)) : TreksAt w (some ⟨g, 0, none⟩) n l := by
  obtain ⟨a, c, e, _, _, _, h⟩ := ho.slAt
  simp only [Value.slice.injEq] at e
  obtain ⟨rfl, hn, rfl⟩ := e
  rw [trekRows_len] at hn
  subst hn
  rw [trekRows_len] at h
  exact ⟨rfl, h.congr fun k hk => by simp only [trekRows, List.getD, List.getElem?_map, List.getElem?_eq_getElem hk, Option.map_some, Option.getD_some]⟩
theorem flat_set_t (a b : Int) : ∀ (L : List Trek) (j : Nat) (t : Trek), L[j]? = some t → (trekRows (L.set j ⟨⟨a, b⟩, t.e, t.n⟩)).flatten = ((trekRows L).flatten.set (j * 6) (.int .i64 a)).set (j * 6 + 1) (.int .i64 b)
  | [], j, h, e => by simp at e
  | x :: r, 0, h, e => by
    simp at e
    subst e
    simp [trekRows, Trek.cells]
  | x :: r, j + 1, h, e => by
    have ih := flat_set_t a b r j h (by simpa using e)
    simp only [trekRows, List.set_cons_succ, List.map_cons, List.flatten_cons] at ih ⊢
    rw [ih, show (j + 1) * 6 + 1 = (j * 6 + 1) + 6 by omega, show (j + 1) * 6 = j * 6 + 6 by omega]
    simp [Trek.cells]
theorem owns_set_t {W : World} {B g n cap : Nat} {e : TypeId} {L : List Trek} {j : Nat} {t : Trek} {a b : Int} (ho : Owns W B e 6 (.slice (some ⟨g, 0, none⟩) n cap) (trekRows L)) (hj : L[j]? = some t) : Owns ((W.setCell ⟨g, j * 6, none⟩ (.int .i64 a)).setCell ⟨g, j * 6 + 1, none⟩ (.int .i64 b)) B e 6 (.slice (some ⟨g, 0, none⟩) n cap) (trekRows (L.set j ⟨⟨a, b⟩, t.e, t.n⟩)) := by
  have hjl := (List.getElem?_eq_some_iff.1 hj).1
  obtain ⟨⟨h0, h1⟩, h2⟩ := ho
  have hl : (trekRows (L.set j ⟨⟨a, b⟩, t.e, t.n⟩)).length = (trekRows L).length := by simp [trekRows]
  refine ⟨⟨?_, ?_⟩, fun r hr => (trekRows_row _ r hr).1⟩
  · rw [hl, flat_set_t a b L j t hj, List.length_set, List.length_set]
    exact h0
  · rw [hl, flat_set_t a b L j t hj]
    rcases h1 with ⟨e, _⟩ | ⟨g', cap', cur, e, e1, e2, e3, e4, e5, e6⟩
    · cases e
    · simp only [Value.slice.injEq, Option.some.injEq, Addr.mk.injEq] at e
      obtain ⟨⟨rfl, _⟩, rfl, rfl⟩ := e
      refine .inr ⟨g, cap, (cur.setIfInBounds (j * 6) (.int .i64 a)).setIfInBounds (j * 6 + 1) (.int .i64 b), rfl, e1, by rw [heap_setCell_box, heap_setCell_box, e2]; rfl, e3, e4, by simpa using e5, ?_⟩
      rw [← e6, Array.toList_setIfInBounds, Array.toList_setIfInBounds, List.take_set, List.take_set]
theorem owns_box' {W : World} {B g n cap sz : Nat} {e : TypeId} {rows : List (List Value)} (ho : Owns W B e sz (.slice (some ⟨g, 0, none⟩) n cap) rows) : ∃ cur, W.heap[g]? = some (.cells cur e (0, 0)) := by
  obtain ⟨⟨h0, h1⟩, h2⟩ := ho
  rcases h1 with ⟨e, _⟩ | ⟨g', cap', cur, e, e1, e2, _⟩
  · cases e
  · simp only [Value.slice.injEq, Option.some.injEq, Addr.mk.injEq] at e
    obtain ⟨⟨rfl, _⟩, rfl, rfl⟩ := e
    exact ⟨cur, e2⟩
/-- the first ones are treks of a day each -/
def dayTo (l : List Trek) (j : Nat) : List Trek := (l.take j).map dayEach ++ l.drop j
theorem dayTo_zero (l : List Trek) : dayTo l 0 = l := by simp [dayTo]
theorem dayTo_all (l : List Trek) {n : Nat} (hn : l.length = n) : dayTo l n = l.map dayEach := by
  unfold dayTo
  rw [List.take_of_length_le (by omega), List.drop_of_length_le (by omega), List.append_nil]
theorem dayTo_get {l : List Trek} {j : Nat} {t : Trek} (hj : l[j]? = some t) : (dayTo l j)[j]? = some t := by
  have hjl := (List.getElem?_eq_some_iff.1 hj).1
  unfold dayTo
  rw [List.getElem?_append_right (by simp; omega), List.length_map, List.length_take, Nat.min_eq_left (by omega), Nat.sub_self, List.getElem?_drop, Nat.add_zero, hj]
theorem dayTo_succ {l : List Trek} {j : Nat} {t : Trek} (hj : l[j]? = some t) : dayTo l (j + 1) = (dayTo l j).set j ⟨⟨1, 1⟩, t.e, t.n⟩ := by
  have hjl := (List.getElem?_eq_some_iff.1 hj).1
  unfold dayTo
  rw [List.take_add_one, hj, Option.toList_some, List.map_append, List.set_append_right (s := (l.take j).map dayEach) _ _ (by simp; omega), List.length_map, List.length_take, Nat.min_eq_left (by omega), Nat.sub_self, List.append_assoc]
  congr 1
  rw [List.drop_eq_getElem_cons hjl, List.set_cons_zero]
  simp only [List.map_cons, List.map_nil, List.singleton_append, List.cons.injEq, and_true]
  rw [List.getElem?_eq_getElem hjl] at hj
  cases hj
  rfl
theorem own_some {W : World} {B n c sz : Nat} {e : TypeId} {a : Option Addr} {rows : List (List Value)} (ho : Owns W B e sz (.slice a n c) rows) (h : 0 < n) : ∃ g, a = some ⟨g, 0, none⟩ ∧ B ≤ g ∧ g < W.heap.size := by
  obtain ⟨⟨h0, h1⟩, h2⟩ := ho
  rcases h1 with ⟨e, _⟩ | ⟨g', cap', cur, e, e1, e2, _⟩
  · simp only [Value.slice.injEq] at e
    omega
  · simp only [Value.slice.injEq] at e
    exact ⟨g', e.1, e1, heap_lt e2⟩
theorem info43 : (Tryz.prog.info? 43).map (fun i => (i.zero, i.size, i.bytes)) = some (some (.agg #[.int .i64 0, .int .i64 0, .int .i64 0, .int .i64 0, .int .i64 0, .int .i64 0]), 6, 48) := by kernel_rfl
theorem elem25 : Elem Tryz.prog 25 43 6 := by
  obtain ⟨i, h1, h2, h3, h4⟩ := info_parts info43
  exact ⟨Tryz.underlying25, ⟨i, _, _, h1, h2, h3, h4, rfl, by decide⟩, by decide⟩
set_option maxRecDepth 100000 in
set_option maxHeartbeats 16000000 in
theorem homeMid {w W2 : World} {a ta : Option Addr} {len cap n tc : Nat} {x y wx wy far : Int} {l : List Half} {ts : List Trek} {ba : Option Addr} {bn bc : Nat} {bl : List Int} (s : Breed) (c : Camel) (m : March)
    (hx : Ext w W2) (ha : W2.heap[w.heap.size]? = some (.cells #[.slice a len cap] 24 (0, 0))) (hb : W2.heap[w.heap.size + 1]? = some (.cells s.cells.toArray 29 (0, 0))) (hc : W2.heap[w.heap.size + 1 + 1]? = some (.cells c.cells.toArray 31 (0, 0))) (hm : W2.heap[w.heap.size + 1 + 1 + 1]? = some (.cells m.cells.toArray 33 (0, 0)))
    (hl : ∀ W, Ext w W → HalvesAt W a len l) (hlc : len ≤ cap) (hlm : cap ≤ maxLen) (hts : TreksAt W2 ta n ts) (hn : n ≤ 60)
    (hbo : breedOk s = true) (hco : camelOk s c = true) (hdo : dayOk m = true)
    (har : AreaOk l) (hin : In l (pt x y)) (hx0 : -20000000 ≤ x ∧ x ≤ 20000000) (hy0 : -20000000 ≤ y ∧ y ≤ 20000000)
    (hby : ∀ W, Ext w W → IntsAt .u32 W ba bn bl) (hbm : bn ≤ maxLen) (hbr : ∀ z ∈ bl, 0 ≤ z ∧ z ≤ 4294967295)
    {u0 u7 u8 u9 u12 u13 u14 u15 u16 u17 u21 u22 u24 u25 u26 u27 u28 u29 u30 u31 u32 u33 u34 u35 u36 u37 u38 u39 u40 u41 u42 u43 u44 u45 u46 u47 u48 u49 u50 u51 u52 u53 u54 u55 u56 u57 u58 u59 u60 u61 u62 u63 u64 u65 u66 u67 u68 u69 u70 u71 u72 u73 u74 u75 u76 u77 u78 u79 u80 u81 u82 u83 u84 u85 u86 u87 u88 u89 u90 u91 u92 u93 u94 u95 u96 u97 u98 u99 u100 u101 u102 u103 u104 u105 u106 u107 u108 u109 u110 u111 u112 u113 u114 u115 u116 u117 u118 u119 u120 u121 u122 u123 u124 u125 u126 u127 u128 u129 u130 u131 u132 u133 u134 u135 u136 u137 u138 u139 u140 u141 u142 u143 u144 u145 u146 u147 u148 u149 u150 u151 u152 u153 u154 u155 u156 u157 u158 u159 u160 u161 u162 u163 u164 u165 u166 u167 u168 u169 u170 u171 u172 u173 u174 u175 u176 u177 u178 u179 u180 u181 u182 u183 u184 u185 u186 u187 u188 u189 u190 u191 u192 u193 u194 u195 u196 u197 u198 u199 u200 u201 u202 u203 u204 u205 u206 u207 u208 u209 u210 u211 u212 u213 u214 u215 u216 u217 u218 u219 u220 u221 u222 u223 u224 u225 u226 u227 u228 u229 u230 u231 u232 u233 u234 u235 u236 u237 u238 u239 u240 u241 u242 u243 u244 u245 u246 u247 u248 u249 u250 u251 u252 u253 u254 u255 u256 u257 u258 u259 u260 u261 u262 u263 u264 u265 u266 u267 u268 u269 u270 u271 u272 u273 u274 u275 u276 u277 u278 u279 u280 u281 u282 u283 u284 u285 u286 u287 u288 u289 u290 u291 u292 u293 u294 u295 u296 u297 u298 u299 u300 u301 u302 u303 u304 u305 : Value} :
    (restFrom Tryz.f3 6).wp Tryz.prog (bodyPost Tryz.prog Tryz.f3 fun e w' => e = .returned (.bool true) ∧ Ext w w')
      ⟨#[u0, .int .i64 x, .int .i64 y, .slice ta n tc, .int .i64 wx, .int .i64 wy, .int .i64 far, u7, u8, u9, .slice ba bn bc, .pointer (some ⟨w.heap.size, 0, none⟩), u12, u13, u14, u15, u16, u17, .pointer (some ⟨w.heap.size + 1, 0, none⟩), .pointer (some ⟨w.heap.size + 1 + 1, 0, none⟩), .pointer (some ⟨w.heap.size + 1 + 1 + 1, 0, none⟩), u21, u22, .bool true, u24, u25, u26, u27, u28, u29, u30, u31, u32, u33, u34, u35, u36, u37, u38, u39, u40, u41, u42, u43, u44, u45, u46, u47, u48, u49, u50, u51, u52, u53, u54, u55, u56, u57, u58, u59, u60, u61, u62, u63, u64, u65, u66, u67, u68, u69, u70, u71, u72, u73, u74, u75, u76, u77, u78, u79, u80, u81, u82, u83, u84, u85, u86, u87, u88, u89, u90, u91, u92, u93, u94, u95, u96, u97, u98, u99, u100, u101, u102, u103, u104, u105, u106, u107, u108, u109, u110, u111, u112, u113, u114, u115, u116, u117, u118, u119, u120, u121, u122, u123, u124, u125, u126, u127, u128, u129, u130, u131, u132, u133, u134, u135, u136, u137, u138, u139, u140, u141, u142, u143, u144, u145, u146, u147, u148, u149, u150, u151, u152, u153, u154, u155, u156, u157, u158, u159, u160, u161, u162, u163, u164, u165, u166, u167, u168, u169, u170, u171, u172, u173, u174, u175, u176, u177, u178, u179, u180, u181, u182, u183, u184, u185, u186, u187, u188, u189, u190, u191, u192, u193, u194, u195, u196, u197, u198, u199, u200, u201, u202, u203, u204, u205, u206, u207, u208, u209, u210, u211, u212, u213, u214, u215, u216, u217, u218, u219, u220, u221, u222, u223, u224, u225, u226, u227, u228, u229, u230, u231, u232, u233, u234, u235, u236, u237, u238, u239, u240, u241, u242, u243, u244, u245, u246, u247, u248, u249, u250, u251, u252, u253, u254, u255, u256, u257, u258, u259, u260, u261, u262, u263, u264, u265, u266, u267, u268, u269, u270, u271, u272, u273, u274, u275, u276, u277, u278, u279, u280, u281, u282, u283, u284, u285, u286, u287, u288, u289, u290, u291, u292, u293, u294, u295, u296, u297, u298, u299, u300, u301, u302, u303, u304, u305], []⟩ W2 := by
  have hll := hts.1
  have hrl : (trekRows ts).length = n := by rw [trekRows_len]; exact hll
  have hsr := hts.src
  have hsp := stretch_any
  have hrt := fun t W => rtrek_any t W
  have hla := fun W => lasts_any s c m W
  unfold LastsPost at hla
  rw [lasts_val hbo hco hdo] at hla
  obtain ⟨LL, hLL⟩ : ∃ L, lastsOf s m c 60 = L := ⟨_, rfl⟩
  rw [hLL] at hla
  obtain ⟨L0, L1⟩ := LL
  unfold Span.val at hla
  simp only at hla
  have Hx := Lib.hid hx
  have Ha := Lib.hid ha
  have Hb := Lib.hid hb
  have Hc := Lib.hid hc
  have Hm := Lib.hid hm
  have Hl := Lib.hid hl
  have Hts := Lib.hid hts
  have Hrl := Lib.hid hrl
  have Hsr := Lib.hid hsr
  have Hsp := Lib.hid hsp
  have Hrt := Lib.hid hrt
  have Hla := Lib.hid hla
  have HLL := Lib.hid hLL
  have Hin := Lib.hid hin
  have Har := Lib.hid har
  have Hby := Lib.hid hby
  have Hbr := Lib.hid hbr
  have Hbo := Lib.hid hbo
  have Hco := Lib.hid hco
  have Hdo := Lib.hid hdo
  clear hx ha hb hc hm hl hts hrl hsr hsp hrt hla hLL hin har hby hbr hbo hco hdo
  conv => arg 2; whnf
  go_upto_region 8 with (at_builtin; refine wpList_app elem25 _ rfl (.tmp 87) (.tmp 88) rfl W2.heap.size _ (trekRows []) rfl (Owns.empty' (alloc_at _ _ _ rfl) (Nat.le_refl _) rfl (by decide)) ta n tc (trekRows ts) rfl Hrl.out (Hsr.out.ext ((Ext.refl _).alloc _)) (trekRows_row _) ?_ ?_ ?_)
  · show 0 + n ≤ 1000000000
    omega
  · simp
  intro v4 w4 ho4 hg4 _
  rw [show trekRows [] ++ trekRows ts = trekRows ts from rfl] at ho4
  have hx4 : Ext W2 w4 := ((Ext.refl W2).alloc _).app (Owns.empty' (sz := 6) (cap := 0) (alloc_at _ _ _ rfl) (Nat.le_refl _) rfl (by decide)) hg4
  clear hg4
  obtain ⟨a4, c4, rfl, -, hlc4, hcm4, -⟩ := ho4.slAt
  rw [trekRows_len, hll] at hlc4 ho4 ⊢
  rw [← dayTo_zero ts] at ho4
  have Hx4 := Lib.hid hx4
  have Ho4 := Lib.hid ho4
  clear hx4 ho4
  unfold maxLen at hcm4
  go_upto_region 8 with fail
  go_loopw [92] (fun i wr => ∃ j : Nat, i = .int .i64 j ∧ j ≤ n ∧ Ext W2 wr ∧ Owns wr W2.heap.size 43 6 (.slice a4 n c4) (trekRows (dayTo ts j)) ∧ ∀ t ∈ ts.take j, trekOk (dayEach t) = true) (fun i _ => n - (intOf i).toNat)
  case atStart => exact ⟨0, rfl, Nat.zero_le _, Hx4.out, Ho4.out, by simp⟩
  case round =>
    obtain ⟨j, rfl, hj, hxr, ho, hall⟩ := hrel
    clear Ho4
    by_cases hlt : j < n
    · have hltB : decide ((j : Int) < (n : Int)) = true := by simp; omega
      obtain ⟨g, rfl, hg0, hg1⟩ := own_some ho (by omega)
      obtain ⟨t, ht⟩ : ∃ t, ts[j]? = some t := ⟨ts[j]'(by omega), List.getElem?_eq_getElem _⟩
      obtain ⟨_, _, t', e, hk, hgl, c0, c1, c2, c3, c4', c5⟩ := (treks_of_owns ho).get j hlt
      cases e
      rw [dayTo_get ht] at hk
      cases hk
      simp only [Nat.zero_add] at c0 c1 c2 c3 c4' c5
      obtain ⟨cur, hcur⟩ := owns_box' ho
      have Hxr := Lib.hid hxr
      have Ho := Lib.hid ho
      have Hcur := Lib.hid hcur
      clear hxr ho hcur
      go_upto_region 11 with (go_at_call 11; refine (Hsp.out _ _ _).mono ?_; rintro e v5 ⟨rfl, hx5⟩; have e0 := hx5.cell c0; have e1 := hx5.cell c1; have fz0 := (hx5.box Hcur.out).2 (j * 6); have fz1 := (hx5.box Hcur.out).2 (j * 6 + 1); have hgc := Nat.lt_of_lt_of_le hgl hx5.size)
      have ho5 := owns_set_t (a := 1) (b := 1) (Ho.out.ext hx5) (dayTo_get ht)
      rw [← dayTo_succ ht] at ho5
      have hx6 := (((Hxr.out.trans hx5).setCell (p := ⟨g, j * 6, none⟩) hg0 (.int .i64 1)).setCell (p := ⟨g, j * 6 + 1, none⟩) hg0 (.int .i64 1))
      generalize (v5.setCell ⟨g, j * 6, none⟩ (.int .i64 1)).setCell ⟨g, j * 6 + 1, none⟩ (.int .i64 1) = W6 at *
      clear e0 e1 fz0 fz1 hgc hx5 c0 c1 c2 c3 c4' c5
      have hnx : (dayTo ts (j + 1))[j]? = some (dayEach t) := by
        rw [dayTo_succ ht, List.getElem?_set_self (List.getElem?_eq_some_iff.1 (dayTo_get ht)).1]
        rfl
      obtain ⟨_, _, t', e, hk, hgl', c0, c1, c2, c3, c4', c5⟩ := (treks_of_owns ho5).get j hlt
      cases e
      rw [hnx] at hk
      cases hk
      simp only [Nat.zero_add] at c0 c1 c2 c3 c4' c5
      have hrt' := fun W => Hrt.out (dayEach t) W
      have hall' : trekOk (dayEach t) = true → ∀ z ∈ ts.take (j + 1), trekOk (dayEach z) = true := fun h z hz => by
        rw [List.take_add_one, ht, Option.toList_some, List.mem_append, List.mem_singleton] at hz
        rcases hz with hz | rfl
        · exact hall z hz
        · exact h
      generalize hT : trekOk (dayEach t) = T at *
      obtain ⟨tp, ⟨xa, xb⟩, ⟨ya, yb⟩⟩ := t
      unfold dayEach Trek.val at hrt'
      unfold dayEach at c0 c1 c2 c3 c4' c5
      simp only at hrt' c0 c1 c2 c3 c4' c5
      have Hrt' := Lib.hid hrt'
      have Hall' := Lib.hid hall'
      have Hx6 := Lib.hid hx6
      have Ho5 := Lib.hid ho5
      clear hrt' hall' hx6 ho5
      clear hall hnx hT ht Ho Hxr Hcur
      cases T
      · go_wp2_with (go_at_call 12; refine (Hrt'.out _).mono ?_; rintro e v7 ⟨rfl, hx7⟩)
        go_ret
        exact ⟨rfl, Hx.out.trans (Hx6.out.trans hx7)⟩
      · go_wp2_with (go_at_call 12; refine (Hrt'.out _).mono ?_; rintro e v7 ⟨rfl, hx7⟩)
        go_roundw
        case rel => exact ⟨j + 1, by go_num, by omega, Hx6.out.trans hx7, Ho5.out.ext hx7, Hall'.out (by first | rfl | trivial)⟩
        case measure => simp [intOf]; omega
    · have hltB : decide ((j : Int) < (n : Int)) = false := by simp; omega
      obtain rfl : j = n := by omega
      rw [dayTo_all ts hll] at ho
      rw [List.take_of_length_le (by omega)] at hall
      have hta : TreksAt wr a4 j (ts.map dayEach) := by
        rcases Nat.eq_zero_or_pos j with h | h
        · subst h
          exact ⟨by simp [hll], fun h => absurd h (by omega)⟩
        · obtain ⟨g, rfl, _, _⟩ := own_some ho h
          exact treks_of_owns ho
      have hxw := Hx.out.trans hxr
      have ha5 := hxr.heap Ha.out
      have hb5 := hxr.heap Hb.out
      have hc5 := hxr.heap Hc.out
      have hm5 := hxr.heap Hm.out
      have hfd := fun (W : World) (hW : Ext wr W) => finds_any a len cap l a4 j c4 (ts.map dayEach) wx wy far W (Hl.out W (hxw.trans hW)) hlc hlm (hta.ext hW) (by omega)
      have hsn := fun m' s' (h : findsOf l (ts.map dayEach) wx wy far = (m', s', 0)) (hs : 0 ≤ s') => sure_near Har.out h hs
      unfold FindsPost at hfd
      obtain ⟨R, hR⟩ : ∃ R, findsOf l (ts.map dayEach) wx wy far = R := ⟨_, rfl⟩
      rw [hR] at hsn
      simp only [hR] at hfd
      obtain ⟨F0, F1, F2⟩ := R
      simp only at hfd
      clear hR
      have Hfd := Lib.hid hfd
      have Hsn := Lib.hid hsn
      have Hta := Lib.hid hta
      have Hxw := Lib.hid hxw
      have Ha5 := Lib.hid ha5
      have Hb5 := Lib.hid hb5
      have Hc5 := Lib.hid hc5
      have Hm5 := Lib.hid hm5
      have Hall := Lib.hid hall
      have Hxr := Lib.hid hxr
      have Ho := Lib.hid ho
      clear hfd hsn hta hxw ha5 hb5 hc5 hm5 hall hxr ho
      clear Ha Hb Hc Hm Hx Hx4 Hts Hrl Hsr Hsp Hrt
      obtain ⟨fu, fe, ⟨r0, r1⟩, ⟨h0, h1⟩, ⟨t0, t1⟩, ⟨b0, b1⟩, ⟨q0, q1⟩, ⟨k0, k1⟩, hz, ⟨s0, s1⟩⟩ := s
      obtain ⟨⟨w0, w1⟩, ⟨f0, f1⟩, ⟨o0, o1⟩, mk⟩ := c
      obtain ⟨hh, ld, ⟨e0, e1⟩, ⟨g0, g1⟩, ⟨d0, d1⟩⟩ := m
      have hla := Hla.out
      have hb6 := Hb5.out
      have hc6 := Hc5.out
      have hm6 := Hm5.out
      unfold Breed.val Camel.val March.val at hla
      unfold Breed.cells at hb6
      unfold Camel.cells at hc6
      unfold March.cells at hm6
      simp only at hla hb6 hc6 hm6
      clear Hla Hb5 Hc5 Hm5
      have Hla := Lib.hid hla
      have Hb6 := Lib.hid hb6
      have Hc6 := Lib.hid hc6
      have Hm6 := Lib.hid hm6
      clear hla hb6 hc6 hm6
      go_upto_region 15 with (first | (refine wpList_load_row rfl 24 (.tmp 11) rfl w.heap.size rfl 24 _ (0, 0) _ Ha5.out Tryz.underlying24 rfl (by kernel_rfl) ?_) | (go_at_call 13; refine (Hfd.out _ (Ext.refl _)).mono ?_; rintro er v8 ⟨rfl, hx8⟩))
      have hb8 := hx8.heap Hb6.out
      have hc8 := hx8.heap Hc6.out
      have hm8 := hx8.heap Hm6.out
      have Hb8 := Lib.hid hb8
      have Hc8 := Lib.hid hc8
      have Hm8 := Lib.hid hm8
      clear hb8 hc8 hm8
      go_upto_region 16 with (first | (refine wpList_load_row rfl 29 (.tmp 18) rfl (w.heap.size + 1) rfl 29 _ (0, 0) _ Hb8.out Tryz.underlying29 rfl (by kernel_rfl) ?_) | (refine wpList_load_row rfl 31 (.tmp 19) rfl (w.heap.size + 1 + 1) rfl 31 _ (0, 0) _ Hc8.out Tryz.underlying31 rfl (by kernel_rfl) ?_) | (refine wpList_load_row rfl 33 (.tmp 20) rfl (w.heap.size + 1 + 1 + 1) rfl 33 _ (0, 0) _ Hm8.out Tryz.underlying33 rfl (by kernel_rfl) ?_) | (go_at_call 14; refine (Hla.out _).mono ?_; rintro er v9 ⟨rfl, hx9⟩))
      have hv9 := hx9.alloc (.cells #[.int .i64 L0, .int .i64 L1] 27)
      have hp29 := heap_alloc_new v9 (.cells #[.int .i64 L0, .int .i64 L1] 27)
      generalize v9.alloc (.cells #[.int .i64 L0, .int .i64 L1] 27) = V9 at *
      generalize v9.heap.size = p29 at *
      have hx89 := hx8.trans hv9
      have hx10 := Hxw.out.trans hx89
      have hb9 := hv9.heap Hb8.out
      have hc9 := hv9.heap Hc8.out
      have hm9 := hv9.heap Hm8.out
      have ht9 := Hta.out.ext hx89
      obtain ⟨z29, _⟩ := (Ext.refl V9).box hp29
      have Hx10 := Lib.hid hx10
      have Hb9 := Lib.hid hb9
      have Hc9 := Lib.hid hc9
      have Hm9 := Lib.hid hm9
      have Ht9 := Lib.hid ht9
      clear hx10 hb9 hc9 hm9 ht9
      clear hx8 hx9 hv9 hx89 hp29 Hb8 Hc8 Hm8
      by_cases hf2 : F2 ≠ 0
      · have hB1 : (F2 != 0) = true := by simpa using hf2
        clear hf2
        go_wp2_with fail
        go_ret
        exact ⟨rfl, Hx10.out⟩
      obtain rfl : F2 = 0 := by omega
      clear hf2
      by_cases hf1 : F1 < 0
      · have hB1 : decide (F1 < 0) = true := decide_eq_true hf1
        clear hf1
        go_wp2_with fail
        go_ret
        exact ⟨rfl, Hx10.out⟩
      have hB1 : decide (F1 < 0) = false := decide_eq_false hf1
      by_cases hfl : (L0 : Int) < F1
      · have hB2 : decide ((L0 : Int) < F1) = true := decide_eq_true hfl
        clear hf1 hfl
        go_wp2_with fail
        go_ret
        exact ⟨rfl, Hx10.out⟩
      have hB2 : decide ((L0 : Int) < F1) = false := decide_eq_false hfl
      obtain ⟨S, rfl⟩ : ∃ S : Nat, F1 = (S : Int) := ⟨F1.toNat, by omega⟩
      have hsn := Hsn.out _ _ rfl (by omega)
      have htop := hsn.top
      rw [List.length_map, hll] at htop
      have hSn : S ≤ j := by omega
      have hSL : S ≤ L0 := by omega
      have hB3 : decide ((j : Int) < (S : Int)) = false := by simp; omega
      clear hf1 hfl htop
      have Hsn := Lib.hid hsn
      clear hsn
      go_upto_if 145 with fail
      iterate 4 go_step
      exact homeTail ⟨fu, fe, ⟨r0, r1⟩, ⟨h0, h1⟩, ⟨t0, t1⟩, ⟨b0, b1⟩, ⟨q0, q1⟩, ⟨k0, k1⟩, hz, ⟨s0, s1⟩⟩ ⟨⟨w0, w1⟩, ⟨f0, f1⟩, ⟨o0, o1⟩, mk⟩ ⟨hh, ld, ⟨e0, e1⟩, ⟨g0, g1⟩, ⟨d0, d1⟩⟩ Hx10.out Hb9.out Hc9.out Hm9.out Ht9.out Hall.out hSn hn hlc4 (by unfold maxLen; exact hcm4) (breedIs Hbo.out) (camelIs.1 Hco.out) (dayIs Hdo.out) (by rw [HLL.out]; exact hSL) Hin.out hx0 hy0 Hsn.out Hby.out hbm Hbr.out
end Go.Proofs.YtcoelhpmkhimpaaGreat
