/- The law GuideExamples: its last lines. -/
import Derived.Test.YtacdndehlkaaeaaVSteps
import Derived.Test.YtacdndehlkaaeaaVGr6
import Derived.Test.YtacdndehlkaaeaaVGr1
import Derived.Test.YtacdndehlkaaeaaVDoneClash
import Derived.Test.YtacdndehlkaaeaaVAlive
import Derived.Test.YtacdndehlkaaeaaVTake
import Derived.OpenShut
import Derived.ShutString
import Derived.ChangeOld
import Derived.Below
namespace Go.Proofs.Ytacdndehlkaaeaa
open Go.RowKit
set_option linter.unusedVariables false
set_option linter.unusedSimpArgs false
def wildL : List Half := [⟨1, 0, 10000⟩, ⟨-1, 0, 0⟩, ⟨0, 1, 10000⟩, ⟨1, -1, 0⟩]
theorem wild_check : checkOf wildL = 40 := by decide +kernel
set_option maxRecDepth 100000 in
set_option maxHeartbeats 8000000 in
theorem ex26 {w W : World} {a : Option Addr} {cap p16 : Nat} (hx : Ext w W) (h16 : W.heap[p16]? = some (.cells #[.slice a 4 cap] 24 (0, 0))) (hl : HalvesAt W a 4 wildL)
    {u0 u1 u3 u4 u5 u7 u9 u10 u12 u13 u15 u17 u19 u21 u23 u24 u26 u27 u28 u29 u30 u31 u32 u33 u34 u35 u36 u37 u38 u39 u40 u41 u42 u43 u44 u45 u46 u47 u48 u49 u50 u51 u52 u53 u54 u55 u56 u57 u58 u59 u60 u61 u62 u63 u64 u65 u66 u67 u68 u69 u70 u71 u72 u73 u74 u75 u76 u77 u78 u79 u80 u81 u82 u83 u84 u85 u86 u87 u88 u89 u90 u91 u92 u93 u94 u95 u96 u97 u98 u99 u100 u101 u102 u103 u104 u105 u106 u107 u108 u109 u110 u111 u112 u113 u114 u115 u116 u117 u118 u119 u120 u121 u122 u123 u124 u125 u126 u127 u128 u129 u130 u131 u132 u133 u134 u135 u136 u137 u138 u139 u140 u141 u142 u143 u144 u145 u146 u147 u148 u149 u150 u151 u152 u153 u154 u155 u156 u157 u158 u159 u160 u161 u162 u163 u164 u165 u166 u167 u168 u169 u170 u171 u172 u173 u174 u175 u176 u177 u178 u179 u180 u181 u182 u183 u184 u185 u186 u187 u188 u189 u190 u191 u192 u193 u194 u195 u196 u197 u198 u199 u200 u201 u202 u203 u204 u205 u206 u207 u208 u209 u210 u211 u212 u213 u214 u215 u216 u217 u218 u219 u220 u221 u222 u223 u224 u225 u226 u227 u228 u229 u230 u231 u232 u233 u234 u235 u236 u237 u238 u239 u240 u241 u242 u243 u244 : Value} :
    (restFrom Try.f6 26).wp Try.prog (bodyPost Try.prog Try.f6 fun e w' => e = .returned (.bool true) ∧ Ext w w')
      ⟨#[u0, u1, .int .i64 2, u3, u4, u5, .int .i64 43, u7, .int .i64 41, u9, u10, .int .i64 42, u12, u13, .int .i64 6, u15, .pointer (some ⟨p16, 0, none⟩), u17, .int .i64 4, u19, .int .i64 2, u21, .int .i64 43, u23, u24, .int .i64 4, u26, u27, u28, u29, u30, u31, u32, u33, u34, u35, u36, u37, u38, u39, u40, u41, u42, u43, u44, u45, u46, u47, u48, u49, u50, u51, u52, u53, u54, u55, u56, u57, u58, u59, u60, u61, u62, u63, u64, u65, u66, u67, u68, u69, u70, u71, u72, u73, u74, u75, u76, u77, u78, u79, u80, u81, u82, u83, u84, u85, u86, u87, u88, u89, u90, u91, u92, u93, u94, u95, u96, u97, u98, u99, u100, u101, u102, u103, u104, u105, u106, u107, u108, u109, u110, u111, u112, u113, u114, u115, u116, u117, u118, u119, u120, u121, u122, u123, u124, u125, u126, u127, u128, u129, u130, u131, u132, u133, u134, u135, u136, u137, u138, u139, u140, u141, u142, u143, u144, u145, u146, u147, u148, u149, u150, u151, u152, u153, u154, u155, u156, u157, u158, u159, u160, u161, u162, u163, u164, u165, u166, u167, u168, u169, u170, u171, u172, u173, u174, u175, u176, u177, u178, u179, u180, u181, u182, u183, u184, u185, u186, u187, u188, u189, u190, u191, u192, u193, u194, u195, u196, u197, u198, u199, u200, u201, u202, u203, u204, u205, u206, u207, u208, u209, u210, u211, u212, u213, u214, u215, u216, u217, u218, u219, u220, u221, u222, u223, u224, u225, u226, u227, u228, u229, u230, u231, u232, u233, u234, u235, u236, u237, u238, u239, u240, u241, u242, u243, u244], []⟩ W := by
  have hch := fun V (hV : Ext W V) => check_any a 4 cap wildL V (hl.ext hV) (by omega)
  rw [wild_check] at hch
  obtain ⟨z0, _⟩ := (Ext.refl W).box h16
  have Hch := Lib.hid hch
  have Hx := Lib.hid hx
  clear hch hx
  clear hl
  conv => arg 2; whnf
  go_wp2_with (go_at_call 28; refine (Hch.out _ (Ext.refl _)).mono ?_; rintro e w1 ⟨rfl, hx1⟩)
  go_ret
  exact ⟨rfl, Hx.out.trans hx1⟩
def zTreks : List Trek := List.replicate 61 zt
def oTreks : Obj := .cells (trekRows zTreks).flatten.toArray 63
theorem mk64 : ∀ w, (Instr.makeSlice 64 (.int .i64 61) (.int .i64 61)).run Try.prog w = .ok (.slice (some ⟨w.heap.size, 0, none⟩) 61 61) (w.alloc oTreks) := fun _ => by kernel_rfl
theorem zTreks_at (w : World) : TreksAt (w.alloc oTreks) (some ⟨w.heap.size, 0, none⟩) 61 zTreks := treks_block zTreks (by unfold zTreks; rw [List.length_replicate]) (heap_alloc_new w oTreks)
theorem ex_many : findsOf fieldL zTreks 0 0 0 = (0, 0, 4) := by decide +kernel
theorem findsMany_any {fb tb : Nat} (w : World) (hl : HalvesAt w (some ⟨fb, 0, none⟩) 4 fieldL) (hs : TreksAt w (some ⟨tb, 0, none⟩) 61 zTreks) : Calls Try.prog 32 #[.agg #[.slice (some ⟨fb, 0, none⟩) 4 4], .slice (some ⟨tb, 0, none⟩) 61 61, .int .i64 0, .int .i64 0, .int .i64 0] w fun e w' => e = .returned (.tuple #[.int .i64 0, .int .i64 0, .int .i64 4]) ∧ Ext w w' :=
  (finds_any (some ⟨fb, 0, none⟩) 4 4 fieldL (some ⟨tb, 0, none⟩) 61 61 zTreks 0 0 0 w hl (by omega) (by decide) hs (by omega)).mono fun e w' h => by
    unfold FindsPost at h
    rw [ex_many] at h
    exact h
def zSights : List Sight := List.replicate 11 zl
def oSights : Obj := .cells (sightRows zSights).flatten.toArray 30
theorem mk31 : ∀ w, (Instr.makeSlice 31 (.int .i64 11) (.int .i64 11)).run Try.prog w = .ok (.slice (some ⟨w.heap.size, 0, none⟩) 11 11) (w.alloc oSights) := fun _ => by kernel_rfl
theorem zSights_at (w : World) : SightsAt (w.alloc oSights) (some ⟨w.heap.size, 0, none⟩) 11 zSights := sights_block zSights (by unfold zSights; rw [List.length_replicate]) (heap_alloc_new w oSights)
theorem ex_looks : clashOf fieldL zSights = ([], 4) := by decide +kernel
theorem clashMany_any {fb tb : Nat} (w : World) (hl : HalvesAt w (some ⟨fb, 0, none⟩) 4 fieldL) (hs : SightsAt w (some ⟨tb, 0, none⟩) 11 zSights) : Calls Try.prog 18 #[.agg #[.slice (some ⟨fb, 0, none⟩) 4 4], .slice (some ⟨tb, 0, none⟩) 11 11] w fun e w' => ∃ b' c', e = .returned (.tuple #[.slice b' 0 c', .int .i64 4]) ∧ Ext w w' :=
  (clash_any (some ⟨fb, 0, none⟩) 4 4 fieldL (some ⟨tb, 0, none⟩) 11 11 zSights w hl (by omega) (by decide) hs (fun i hi => by
    have : zSights.getD i zl = zl := by
      show (List.replicate 11 zl)[i]?.getD zl = zl
      rw [List.getElem?_replicate, if_pos hi]
      rfl
    rw [this]
    decide)).mono fun e w' h => by
    unfold ClashPost at h
    rw [ex_looks] at h
    obtain ⟨b', c', rfl, _, _, hx, _⟩ := h
    exact ⟨b', c', rfl, hx⟩
set_option maxRecDepth 100000 in
set_option maxHeartbeats 8000000 in
theorem ex25 {w W : World} {a : Option Addr} {cap p16 : Nat} (hx : Ext w W) (h16 : W.heap[p16]? = some (.cells #[.slice a 4 cap] 24 (0, 0))) (hl : HalvesAt W a 4 wildL)
    {u0 u1 u3 u4 u5 u7 u9 u10 u12 u13 u15 u17 u19 u21 u23 u24 u25 u26 u27 u28 u29 u30 u31 u32 u33 u34 u35 u36 u37 u38 u39 u40 u41 u42 u43 u44 u45 u46 u47 u48 u49 u50 u51 u52 u53 u54 u55 u56 u57 u58 u59 u60 u61 u62 u63 u64 u65 u66 u67 u68 u69 u70 u71 u72 u73 u74 u75 u76 u77 u78 u79 u80 u81 u82 u83 u84 u85 u86 u87 u88 u89 u90 u91 u92 u93 u94 u95 u96 u97 u98 u99 u100 u101 u102 u103 u104 u105 u106 u107 u108 u109 u110 u111 u112 u113 u114 u115 u116 u117 u118 u119 u120 u121 u122 u123 u124 u125 u126 u127 u128 u129 u130 u131 u132 u133 u134 u135 u136 u137 u138 u139 u140 u141 u142 u143 u144 u145 u146 u147 u148 u149 u150 u151 u152 u153 u154 u155 u156 u157 u158 u159 u160 u161 u162 u163 u164 u165 u166 u167 u168 u169 u170 u171 u172 u173 u174 u175 u176 u177 u178 u179 u180 u181 u182 u183 u184 u185 u186 u187 u188 u189 u190 u191 u192 u193 u194 u195 u196 u197 u198 u199 u200 u201 u202 u203 u204 u205 u206 u207 u208 u209 u210 u211 u212 u213 u214 u215 u216 u217 u218 u219 u220 u221 u222 u223 u224 u225 u226 u227 u228 u229 u230 u231 u232 u233 u234 u235 u236 u237 u238 u239 u240 u241 u242 u243 u244 : Value} :
    (restFrom Try.f6 25).wp Try.prog (bodyPost Try.prog Try.f6 fun e w' => e = .returned (.bool true) ∧ Ext w w')
      ⟨#[u0, u1, .int .i64 2, u3, u4, u5, .int .i64 43, u7, .int .i64 41, u9, u10, .int .i64 42, u12, u13, .int .i64 6, u15, .pointer (some ⟨p16, 0, none⟩), u17, .int .i64 4, u19, .int .i64 2, u21, .int .i64 43, u23, u24, u25, u26, u27, u28, u29, u30, u31, u32, u33, u34, u35, u36, u37, u38, u39, u40, u41, u42, u43, u44, u45, u46, u47, u48, u49, u50, u51, u52, u53, u54, u55, u56, u57, u58, u59, u60, u61, u62, u63, u64, u65, u66, u67, u68, u69, u70, u71, u72, u73, u74, u75, u76, u77, u78, u79, u80, u81, u82, u83, u84, u85, u86, u87, u88, u89, u90, u91, u92, u93, u94, u95, u96, u97, u98, u99, u100, u101, u102, u103, u104, u105, u106, u107, u108, u109, u110, u111, u112, u113, u114, u115, u116, u117, u118, u119, u120, u121, u122, u123, u124, u125, u126, u127, u128, u129, u130, u131, u132, u133, u134, u135, u136, u137, u138, u139, u140, u141, u142, u143, u144, u145, u146, u147, u148, u149, u150, u151, u152, u153, u154, u155, u156, u157, u158, u159, u160, u161, u162, u163, u164, u165, u166, u167, u168, u169, u170, u171, u172, u173, u174, u175, u176, u177, u178, u179, u180, u181, u182, u183, u184, u185, u186, u187, u188, u189, u190, u191, u192, u193, u194, u195, u196, u197, u198, u199, u200, u201, u202, u203, u204, u205, u206, u207, u208, u209, u210, u211, u212, u213, u214, u215, u216, u217, u218, u219, u220, u221, u222, u223, u224, u225, u226, u227, u228, u229, u230, u231, u232, u233, u234, u235, u236, u237, u238, u239, u240, u241, u242, u243, u244], []⟩ W := by
  have hfi := field_any
  have hmk := mk64
  have hfm := fun fb tb V hl hs => @findsMany_any fb tb V hl hs
  have htail := fun V (hV : Ext W V) => @ex26 w V a cap p16 (hx.trans hV) (hV.heap h16) (hl.ext hV)
  dsimp only at htail
  unfold FieldPost at hfi
  have HT := Lib.hid htail
  have Hfi := Lib.hid hfi
  have Hx := Lib.hid hx
  have H16 := Lib.hid h16
  have Hfm := Lib.hid hfm
  clear hfi hx h16 hfm
  clear htail hl
  conv => arg 2; whnf
  go_upto_region 25 with fail
  refine wp_region_tree (.two 0 (.one 1 (.one 2 (.take [3, 4, 5, 6] (.one 7 (.one 8 (.one 9 .done)))))) 1 (.one 0 (.one 2 (.take [3, 4, 5, 6] (.one 7 (.one 8 (.one 9 .done))))))) (Ext W) _ (by kernel_rfl) (by kernel_rfl) rfl ((Ext.refl _).drew) ?_
  intro ι _ f hf hs
  have Hs := Lib.hid hs
  clear hf hs
  simp only [treeOf, oneOp, twoOp, opsOf, consOp, List.getElem?_toArray, List.getElem?_cons_succ, List.getElem?_cons_zero]
  refine wpOT_both ⟨?_, ?_⟩
  · go_wp2_with (go_at_call 35; refine (Hfi.out _).mono ?_; rintro e W1 ⟨fb, rfl, fbl, hx1, hfb⟩)
    have hx1' := ((Ext.refl W).drew).trans hx1
    refine ⟨Hs.out _ hx1', ?_⟩
    refine wpOT_one ?_
    go_wp2_with fail
    refine ⟨Hs.out _ (hx1'.alloc _), ?_⟩
    have hh := (field_halves hfb).ext ((Ext.refl W1).alloc oTreks)
    have ht := zTreks_at W1
    have hx2 := hx1'.alloc oTreks
    generalize W1.alloc oTreks = W2 at *
    generalize W1.heap.size = tb at *
    have Hh := Lib.hid hh
    have Ht := Lib.hid ht
    have Hx2 := Lib.hid hx2
    clear hh ht hx2
    refine wpOT_one ?_
    go_wp2_with (go_at_call 32; refine (Hfm.out _ _ _ Hh.out Ht.out).mono ?_; rintro e W3 ⟨rfl, hx3⟩)
    have hx4 := Hx2.out.trans hx3
    refine ⟨Hs.out _ hx4, ?_⟩
    refine wpOT_take ?_
    repeat (go_big_quiet_step (fail))
    refine wpQuiet_nil ?_
    refine wpOT_one ?_
    go_wp2_with fail
    refine ⟨Hs.out _ hx4, ?_⟩
    refine wpOT_one ?_
    go_wp2_with fail
    refine ⟨Hs.out _ hx4, ?_⟩
    refine wpOT_one ?_
    go_wp2_with fail
    refine ⟨Hs.out _ hx4, ?_⟩
    refine wpOT_done ?_
    go_step
    go_step
    exact HT.out _ hx4
  · go_wp2_with fail
    have hx1 := ((Ext.refl W).alloc oTreks).drew
    have ht := (zTreks_at W).ext ((Ext.refl (W.alloc oTreks)).drew)
    refine ⟨Hs.out _ hx1, ?_⟩
    generalize (W.alloc oTreks).drew = W1 at *
    generalize W.heap.size = tb at *
    refine wpOT_one ?_
    go_wp2_with (go_at_call 35; refine (Hfi.out _).mono ?_; rintro e W2 ⟨fb, rfl, fbl, hxb, hfb⟩)
    have hx2 := hx1.trans hxb
    refine ⟨Hs.out _ hx2, ?_⟩
    have hh := field_halves hfb
    have ht := ht.ext hxb
    clear hfb
    have Hh := Lib.hid hh
    have Ht := Lib.hid ht
    have Hx2 := Lib.hid hx2
    clear hh ht hx2
    refine wpOT_one ?_
    go_wp2_with (go_at_call 32; refine (Hfm.out _ _ _ Hh.out Ht.out).mono ?_; rintro e W3 ⟨rfl, hx3⟩)
    have hx4 := Hx2.out.trans hx3
    refine ⟨Hs.out _ hx4, ?_⟩
    refine wpOT_take ?_
    repeat (go_big_quiet_step (fail))
    refine wpQuiet_nil ?_
    refine wpOT_one ?_
    go_wp2_with fail
    refine ⟨Hs.out _ hx4, ?_⟩
    refine wpOT_one ?_
    go_wp2_with fail
    refine ⟨Hs.out _ hx4, ?_⟩
    refine wpOT_one ?_
    go_wp2_with fail
    refine ⟨Hs.out _ hx4, ?_⟩
    refine wpOT_done ?_
    go_step
    go_step
    exact HT.out _ hx4
end Go.Proofs.Ytacdndehlkaaeaa

/- The law GuideExamples: from the eleven looks on. -/
namespace Go.Proofs.Ytacdndehlkaaeaa
open Go.RowKit
set_option linter.unusedVariables false
set_option linter.unusedSimpArgs false
theorem nearK_any {x y far r k : Int} {l : List Half} {n : Nat} (hb : nearOf l x y far = (r, k)) (a : Option Addr) (c : Nat) (w : World) (hl : HalvesAt w a n l) (hc : n ≤ c) (hm : c ≤ maxLen) : Calls Try.prog 26 #[.agg #[.slice a n c], .int .i64 x, .int .i64 y, .int .i64 far] w fun e w' => e = .returned (.tuple #[.int .u8 r, .int .i64 k]) ∧ Ext w w' :=
  (nearF_any a n c l x y far w hl hc hm).mono fun e w' h => by
    unfold NearPost at h
    rw [hb] at h
    exact h
theorem ex_near : nearOf fieldL 0 0 (-1) = (0, 2) := by decide +kernel
theorem ex_star : seeOf fieldL ⟨2, 0, 0, 0, 0, 0, 0, 10001, 10002, 0⟩ = ([], 43) := by decide +kernel
set_option maxRecDepth 100000 in
set_option maxHeartbeats 8000000 in
theorem ex23 {w W : World} {a : Option Addr} {cap p16 : Nat} (hx : Ext w W) (h16 : W.heap[p16]? = some (.cells #[.slice a 4 cap] 24 (0, 0))) (hl : HalvesAt W a 4 wildL)
    {u0 u1 u3 u4 u5 u7 u9 u10 u12 u13 u15 u17 u19 u20 u21 u22 u23 u24 u25 u26 u27 u28 u29 u30 u31 u32 u33 u34 u35 u36 u37 u38 u39 u40 u41 u42 u43 u44 u45 u46 u47 u48 u49 u50 u51 u52 u53 u54 u55 u56 u57 u58 u59 u60 u61 u62 u63 u64 u65 u66 u67 u68 u69 u70 u71 u72 u73 u74 u75 u76 u77 u78 u79 u80 u81 u82 u83 u84 u85 u86 u87 u88 u89 u90 u91 u92 u93 u94 u95 u96 u97 u98 u99 u100 u101 u102 u103 u104 u105 u106 u107 u108 u109 u110 u111 u112 u113 u114 u115 u116 u117 u118 u119 u120 u121 u122 u123 u124 u125 u126 u127 u128 u129 u130 u131 u132 u133 u134 u135 u136 u137 u138 u139 u140 u141 u142 u143 u144 u145 u146 u147 u148 u149 u150 u151 u152 u153 u154 u155 u156 u157 u158 u159 u160 u161 u162 u163 u164 u165 u166 u167 u168 u169 u170 u171 u172 u173 u174 u175 u176 u177 u178 u179 u180 u181 u182 u183 u184 u185 u186 u187 u188 u189 u190 u191 u192 u193 u194 u195 u196 u197 u198 u199 u200 u201 u202 u203 u204 u205 u206 u207 u208 u209 u210 u211 u212 u213 u214 u215 u216 u217 u218 u219 u220 u221 u222 u223 u224 u225 u226 u227 u228 u229 u230 u231 u232 u233 u234 u235 u236 u237 u238 u239 u240 u241 u242 u243 u244 : Value} :
    (restFrom Try.f6 23).wp Try.prog (bodyPost Try.prog Try.f6 fun e w' => e = .returned (.bool true) ∧ Ext w w')
      ⟨#[u0, u1, .int .i64 2, u3, u4, u5, .int .i64 43, u7, .int .i64 41, u9, u10, .int .i64 42, u12, u13, .int .i64 6, u15, .pointer (some ⟨p16, 0, none⟩), u17, .int .i64 4, u19, u20, u21, u22, u23, u24, u25, u26, u27, u28, u29, u30, u31, u32, u33, u34, u35, u36, u37, u38, u39, u40, u41, u42, u43, u44, u45, u46, u47, u48, u49, u50, u51, u52, u53, u54, u55, u56, u57, u58, u59, u60, u61, u62, u63, u64, u65, u66, u67, u68, u69, u70, u71, u72, u73, u74, u75, u76, u77, u78, u79, u80, u81, u82, u83, u84, u85, u86, u87, u88, u89, u90, u91, u92, u93, u94, u95, u96, u97, u98, u99, u100, u101, u102, u103, u104, u105, u106, u107, u108, u109, u110, u111, u112, u113, u114, u115, u116, u117, u118, u119, u120, u121, u122, u123, u124, u125, u126, u127, u128, u129, u130, u131, u132, u133, u134, u135, u136, u137, u138, u139, u140, u141, u142, u143, u144, u145, u146, u147, u148, u149, u150, u151, u152, u153, u154, u155, u156, u157, u158, u159, u160, u161, u162, u163, u164, u165, u166, u167, u168, u169, u170, u171, u172, u173, u174, u175, u176, u177, u178, u179, u180, u181, u182, u183, u184, u185, u186, u187, u188, u189, u190, u191, u192, u193, u194, u195, u196, u197, u198, u199, u200, u201, u202, u203, u204, u205, u206, u207, u208, u209, u210, u211, u212, u213, u214, u215, u216, u217, u218, u219, u220, u221, u222, u223, u224, u225, u226, u227, u228, u229, u230, u231, u232, u233, u234, u235, u236, u237, u238, u239, u240, u241, u242, u243, u244], []⟩ W := by
  have hfi := field_any
  have hsp := span_any
  have hnr := fun fb V hL => nearK_any (n := 4) ex_near (some ⟨fb, 0, none⟩) 4 V hL (by omega) (by decide)
  have hse := fun fb V hL => seeNo_any (n := 4) ex_star (some ⟨fb, 0, none⟩) 4 V hL (by omega) (by decide) (by decide) (by decide)
  have hmk := mk64
  have hfm := fun fb tb V hl hs => @findsMany_any fb tb V hl hs
  have htail := fun V (hV : Ext W V) => @ex26 w V a cap p16 (hx.trans hV) (hV.heap h16) (hl.ext hV)
  dsimp only at htail
  unfold FieldPost at hfi
  unfold NoPost Sight.val at hse
  simp only at hse
  have HT := Lib.hid htail
  have Hfi := Lib.hid hfi
  have Hx := Lib.hid hx
  have H16 := Lib.hid h16
  have Hnr := Lib.hid hnr
  have Hse := Lib.hid hse
  have Hsp := Lib.hid hsp
  have Hfm := Lib.hid hfm
  clear hfi hx h16 hnr hse hsp hfm
  clear htail hl
  conv => arg 2; whnf
  go_upto_region 24 with (first
    | (go_at_call 35; refine (Hfi.out _).mono ?_; rintro e W1 ⟨fb, rfl, fbl, hx1, hfb⟩)
    | (go_at_call 26; refine (Hnr.out _ _ (field_halves hfb)).mono ?_; rintro e W2 ⟨rfl, hx2⟩))
  have hx3 := hx1.trans hx2
  have Hx3 := Lib.hid hx3
  clear hx1 hx2 hx3 hfb fbl
  go_upto_region 25 with (first
    | (go_at_call 35; refine (Hfi.out _).mono ?_; rintro e W4 ⟨fb4, rfl, fbl, hx4, hfb⟩)
    | (go_at_call 38; refine (Hsp.out _ _ _).mono ?_; rintro e W5 ⟨rfl, hx5⟩)
    | (go_at_call 16; refine (Hse.out _ _ (field_halves (hx5.heap hfb))).mono ?_; rintro e W6 ⟨b6, c6, rfl, hx6⟩))
  have hx7 := Hx3.out.trans (((hx4.trans hx5).trans hx6).alloc (.cells #[.slice b6 0 c6] 24))
  generalize W6.alloc (.cells #[.slice b6 0 c6] 24) = V at *
  generalize W6.heap.size = i21 at *
  have Hx7 := Lib.hid hx7
  clear hx7 hx4 hx5 hx6 hfb fbl
  refine wp_region_tree (.two 0 (.one 1 (.one 2 (.take [3, 4, 5, 6] (.one 7 (.one 8 (.one 9 .done)))))) 1 (.one 0 (.one 2 (.take [3, 4, 5, 6] (.one 7 (.one 8 (.one 9 .done))))))) (Ext V) _ (by kernel_rfl) (by kernel_rfl) rfl ((Ext.refl _).drew) ?_
  intro ι _ f hf hs
  have Hs := Lib.hid hs
  clear hf hs
  simp only [treeOf, oneOp, twoOp, opsOf, consOp, List.getElem?_toArray, List.getElem?_cons_succ, List.getElem?_cons_zero]
  refine wpOT_both ⟨?_, ?_⟩
  · go_wp2_with (go_at_call 35; refine (Hfi.out _).mono ?_; rintro e W1 ⟨fb, rfl, fbl, hx1, hfb⟩)
    have hx1' := ((Ext.refl V).drew).trans hx1
    refine ⟨Hs.out _ hx1', ?_⟩
    refine wpOT_one ?_
    go_wp2_with fail
    refine ⟨Hs.out _ (hx1'.alloc _), ?_⟩
    have hh := (field_halves hfb).ext ((Ext.refl W1).alloc oTreks)
    have ht := zTreks_at W1
    have hx2 := hx1'.alloc oTreks
    generalize W1.alloc oTreks = W2 at *
    generalize W1.heap.size = tb at *
    have Hh := Lib.hid hh
    have Ht := Lib.hid ht
    have Hx2 := Lib.hid hx2
    clear hh ht hx2
    refine wpOT_one ?_
    go_wp2_with (go_at_call 32; refine (Hfm.out _ _ _ Hh.out Ht.out).mono ?_; rintro e W3 ⟨rfl, hx3⟩)
    have hx4 := Hx2.out.trans hx3
    refine ⟨Hs.out _ hx4, ?_⟩
    refine wpOT_take ?_
    repeat (go_big_quiet_step (fail))
    refine wpQuiet_nil ?_
    refine wpOT_one ?_
    go_wp2_with fail
    refine ⟨Hs.out _ hx4, ?_⟩
    refine wpOT_one ?_
    go_wp2_with fail
    refine ⟨Hs.out _ hx4, ?_⟩
    refine wpOT_one ?_
    go_wp2_with fail
    refine ⟨Hs.out _ hx4, ?_⟩
    refine wpOT_done ?_
    go_step
    go_step
    exact HT.out _ (Hx7.out.trans hx4)
  · go_wp2_with fail
    have hx1 := ((Ext.refl V).alloc oTreks).drew
    have ht := (zTreks_at V).ext ((Ext.refl (V.alloc oTreks)).drew)
    refine ⟨Hs.out _ hx1, ?_⟩
    generalize (V.alloc oTreks).drew = W1 at *
    generalize V.heap.size = tb at *
    refine wpOT_one ?_
    go_wp2_with (go_at_call 35; refine (Hfi.out _).mono ?_; rintro e W2 ⟨fb, rfl, fbl, hxb, hfb⟩)
    have hx2 := hx1.trans hxb
    refine ⟨Hs.out _ hx2, ?_⟩
    have hh := field_halves hfb
    have ht := ht.ext hxb
    clear hfb
    have Hh := Lib.hid hh
    have Ht := Lib.hid ht
    have Hx2 := Lib.hid hx2
    clear hh ht hx2
    refine wpOT_one ?_
    go_wp2_with (go_at_call 32; refine (Hfm.out _ _ _ Hh.out Ht.out).mono ?_; rintro e W3 ⟨rfl, hx3⟩)
    have hx4 := Hx2.out.trans hx3
    refine ⟨Hs.out _ hx4, ?_⟩
    refine wpOT_take ?_
    repeat (go_big_quiet_step (fail))
    refine wpQuiet_nil ?_
    refine wpOT_one ?_
    go_wp2_with fail
    refine ⟨Hs.out _ hx4, ?_⟩
    refine wpOT_one ?_
    go_wp2_with fail
    refine ⟨Hs.out _ hx4, ?_⟩
    refine wpOT_one ?_
    go_wp2_with fail
    refine ⟨Hs.out _ hx4, ?_⟩
    refine wpOT_done ?_
    go_step
    go_step
    exact HT.out _ (Hx7.out.trans hx4)
set_option maxRecDepth 100000 in
set_option maxHeartbeats 8000000 in
theorem ex22 {w W : World} {a : Option Addr} {cap p16 : Nat} (hx : Ext w W) (h16 : W.heap[p16]? = some (.cells #[.slice a 4 cap] 24 (0, 0))) (hl : HalvesAt W a 4 wildL)
    {u0 u1 u3 u4 u5 u7 u9 u10 u12 u13 u15 u17 u18 u19 u20 u21 u22 u23 u24 u25 u26 u27 u28 u29 u30 u31 u32 u33 u34 u35 u36 u37 u38 u39 u40 u41 u42 u43 u44 u45 u46 u47 u48 u49 u50 u51 u52 u53 u54 u55 u56 u57 u58 u59 u60 u61 u62 u63 u64 u65 u66 u67 u68 u69 u70 u71 u72 u73 u74 u75 u76 u77 u78 u79 u80 u81 u82 u83 u84 u85 u86 u87 u88 u89 u90 u91 u92 u93 u94 u95 u96 u97 u98 u99 u100 u101 u102 u103 u104 u105 u106 u107 u108 u109 u110 u111 u112 u113 u114 u115 u116 u117 u118 u119 u120 u121 u122 u123 u124 u125 u126 u127 u128 u129 u130 u131 u132 u133 u134 u135 u136 u137 u138 u139 u140 u141 u142 u143 u144 u145 u146 u147 u148 u149 u150 u151 u152 u153 u154 u155 u156 u157 u158 u159 u160 u161 u162 u163 u164 u165 u166 u167 u168 u169 u170 u171 u172 u173 u174 u175 u176 u177 u178 u179 u180 u181 u182 u183 u184 u185 u186 u187 u188 u189 u190 u191 u192 u193 u194 u195 u196 u197 u198 u199 u200 u201 u202 u203 u204 u205 u206 u207 u208 u209 u210 u211 u212 u213 u214 u215 u216 u217 u218 u219 u220 u221 u222 u223 u224 u225 u226 u227 u228 u229 u230 u231 u232 u233 u234 u235 u236 u237 u238 u239 u240 u241 u242 u243 u244 : Value} :
    (restFrom Try.f6 22).wp Try.prog (bodyPost Try.prog Try.f6 fun e w' => e = .returned (.bool true) ∧ Ext w w')
      ⟨#[u0, u1, .int .i64 2, u3, u4, u5, .int .i64 43, u7, .int .i64 41, u9, u10, .int .i64 42, u12, u13, .int .i64 6, u15, .pointer (some ⟨p16, 0, none⟩), u17, u18, u19, u20, u21, u22, u23, u24, u25, u26, u27, u28, u29, u30, u31, u32, u33, u34, u35, u36, u37, u38, u39, u40, u41, u42, u43, u44, u45, u46, u47, u48, u49, u50, u51, u52, u53, u54, u55, u56, u57, u58, u59, u60, u61, u62, u63, u64, u65, u66, u67, u68, u69, u70, u71, u72, u73, u74, u75, u76, u77, u78, u79, u80, u81, u82, u83, u84, u85, u86, u87, u88, u89, u90, u91, u92, u93, u94, u95, u96, u97, u98, u99, u100, u101, u102, u103, u104, u105, u106, u107, u108, u109, u110, u111, u112, u113, u114, u115, u116, u117, u118, u119, u120, u121, u122, u123, u124, u125, u126, u127, u128, u129, u130, u131, u132, u133, u134, u135, u136, u137, u138, u139, u140, u141, u142, u143, u144, u145, u146, u147, u148, u149, u150, u151, u152, u153, u154, u155, u156, u157, u158, u159, u160, u161, u162, u163, u164, u165, u166, u167, u168, u169, u170, u171, u172, u173, u174, u175, u176, u177, u178, u179, u180, u181, u182, u183, u184, u185, u186, u187, u188, u189, u190, u191, u192, u193, u194, u195, u196, u197, u198, u199, u200, u201, u202, u203, u204, u205, u206, u207, u208, u209, u210, u211, u212, u213, u214, u215, u216, u217, u218, u219, u220, u221, u222, u223, u224, u225, u226, u227, u228, u229, u230, u231, u232, u233, u234, u235, u236, u237, u238, u239, u240, u241, u242, u243, u244], []⟩ W := by
  have hfi := field_any
  have hmk := mk31
  have hcm := fun fb tb V hl hs => @clashMany_any fb tb V hl hs
  have htail := fun V (hV : Ext W V) => @ex23 w V a cap p16 (hx.trans hV) (hV.heap h16) (hl.ext hV)
  dsimp only at htail
  unfold FieldPost at hfi
  have HT := Lib.hid htail
  have Hfi := Lib.hid hfi
  have Hx := Lib.hid hx
  have H16 := Lib.hid h16
  have Hcm := Lib.hid hcm
  clear hfi hx h16 hcm
  clear htail hl
  conv => arg 2; whnf
  go_upto_region 22 with fail
  refine wp_region_tree (.two 0 (.one 1 (.one 2 (.take [3, 4, 5] (.one 6 (.one 7 .done))))) 1 (.one 0 (.one 2 (.take [3, 4, 5] (.one 6 (.one 7 .done)))))) (Ext W) _ (by kernel_rfl) (by kernel_rfl) rfl ((Ext.refl _).drew) ?_
  intro ι _ f hf hs
  have Hs := Lib.hid hs
  clear hf hs
  simp only [treeOf, oneOp, twoOp, opsOf, consOp, List.getElem?_toArray, List.getElem?_cons_succ, List.getElem?_cons_zero]
  refine wpOT_both ⟨?_, ?_⟩
  · go_wp2_with (go_at_call 35; refine (Hfi.out _).mono ?_; rintro e W1 ⟨fb, rfl, fbl, hx1, hfb⟩)
    have hx1' := ((Ext.refl W).drew).trans hx1
    refine ⟨Hs.out _ hx1', ?_⟩
    refine wpOT_one ?_
    go_wp2_with fail
    refine ⟨Hs.out _ (hx1'.alloc _), ?_⟩
    have hh := (field_halves hfb).ext ((Ext.refl W1).alloc oSights)
    have ht := zSights_at W1
    have hx2 := hx1'.alloc oSights
    generalize W1.alloc oSights = W2 at *
    generalize W1.heap.size = tb at *
    have Hh := Lib.hid hh
    have Ht := Lib.hid ht
    have Hx2 := Lib.hid hx2
    clear hh ht hx2
    refine wpOT_one ?_
    go_wp2_with (go_at_call 18; refine (Hcm.out _ _ _ Hh.out Ht.out).mono ?_; rintro e W3 ⟨b3, c3, rfl, hx3⟩)
    have hx4 := Hx2.out.trans hx3
    refine ⟨Hs.out _ hx4, ?_⟩
    refine wpOT_take ?_
    repeat (go_big_quiet_step (fail))
    refine wpQuiet_nil ?_
    refine wpOT_one ?_
    go_wp2_with fail
    refine ⟨Hs.out _ hx4, ?_⟩
    refine wpOT_one ?_
    go_wp2_with fail
    refine ⟨Hs.out _ hx4, ?_⟩
    refine wpOT_done ?_
    go_step
    go_step
    exact HT.out _ hx4
  · go_wp2_with fail
    have hx1 := ((Ext.refl W).alloc oSights).drew
    have ht := (zSights_at W).ext ((Ext.refl (W.alloc oSights)).drew)
    refine ⟨Hs.out _ hx1, ?_⟩
    generalize (W.alloc oSights).drew = W1 at *
    generalize W.heap.size = tb at *
    refine wpOT_one ?_
    go_wp2_with (go_at_call 35; refine (Hfi.out _).mono ?_; rintro e W2 ⟨fb, rfl, fbl, hxb, hfb⟩)
    have hx2 := hx1.trans hxb
    refine ⟨Hs.out _ hx2, ?_⟩
    have hh := field_halves hfb
    have ht := ht.ext hxb
    clear hfb
    have Hh := Lib.hid hh
    have Ht := Lib.hid ht
    have Hx2 := Lib.hid hx2
    clear hh ht hx2
    refine wpOT_one ?_
    go_wp2_with (go_at_call 18; refine (Hcm.out _ _ _ Hh.out Ht.out).mono ?_; rintro e W3 ⟨b3, c3, rfl, hx3⟩)
    have hx4 := Hx2.out.trans hx3
    refine ⟨Hs.out _ hx4, ?_⟩
    refine wpOT_take ?_
    repeat (go_big_quiet_step (fail))
    refine wpQuiet_nil ?_
    refine wpOT_one ?_
    go_wp2_with fail
    refine ⟨Hs.out _ hx4, ?_⟩
    refine wpOT_one ?_
    go_wp2_with fail
    refine ⟨Hs.out _ hx4, ?_⟩
    refine wpOT_done ?_
    go_step
    go_step
    exact HT.out _ hx4
end Go.Proofs.Ytacdndehlkaaeaa

/- The law GuideExamples: what is refused. -/
namespace Go.Proofs.Ytacdndehlkaaeaa
open Go.RowKit
set_option linter.unusedVariables false
set_option linter.unusedSimpArgs false
def emptyL : List Half := [⟨1, 0, -1⟩, ⟨-1, 0, 0⟩, ⟨0, 1, 10000⟩, ⟨0, -1, 0⟩]
theorem ex_start : startOf ⟨0, 10000001⟩ ⟨0, 0⟩ = ([], 2) := by decide +kernel
theorem ex_empty : boundsOf emptyL = (zs, zs, 43) := by decide +kernel
theorem ex_zero : seeOf fieldL zl = ([], 41) := by decide +kernel
theorem ex_march : marchOf fieldL ⟨⟨0, 61⟩, ⟨0, 0⟩, ⟨0, 0⟩⟩ = ([], 42) := by decide +kernel
theorem ex_two : clashOf fieldL [exA, exB] = ([], 6) := by decide +kernel
theorem startNo_any (w : World) : Calls Try.prog 22 #[.agg #[.int .i64 0, .int .i64 10000001], .agg #[.int .i64 0, .int .i64 0]] w (NoPost 2 w) :=
  (start_any ⟨0, 10000001⟩ ⟨0, 0⟩ w).mono fun e w' h => by
    obtain ⟨v, rfl, hx, ho⟩ := h
    rw [ex_start] at ho ⊢
    obtain ⟨b, d, rfl, h1, h2, h3, h4⟩ := halves_of_owns ho
    exact ⟨b, d, rfl, hx⟩
set_option maxRecDepth 100000 in
set_option maxHeartbeats 8000000 in
theorem ex13 {w W : World} (hx : Ext w W) {u0 u1 u2 u3 u4 u5 u6 u7 u8 u9 u10 u11 u12 u13 u14 u15 u16 u17 u18 u19 u20 u21 u22 u23 u24 u25 u26 u27 u28 u29 u30 u31 u32 u33 u34 u35 u36 u37 u38 u39 u40 u41 u42 u43 u44 u45 u46 u47 u48 u49 u50 u51 u52 u53 u54 u55 u56 u57 u58 u59 u60 u61 u62 u63 u64 u65 u66 u67 u68 u69 u70 u71 u72 u73 u74 u75 u76 u77 u78 u79 u80 u81 u82 u83 u84 u85 u86 u87 u88 u89 u90 u91 u92 u93 u94 u95 u96 u97 u98 u99 u100 u101 u102 u103 u104 u105 u106 u107 u108 u109 u110 u111 u112 u113 u114 u115 u116 u117 u118 u119 u120 u121 u122 u123 u124 u125 u126 u127 u128 u129 u130 u131 u132 u133 u134 u135 u136 u137 u138 u139 u140 u141 u142 u143 u144 u145 u146 u147 u148 u149 u150 u151 u152 u153 u154 u155 u156 u157 u158 u159 u160 u161 u162 u163 u164 u165 u166 u167 u168 u169 u170 u171 u172 u173 u174 u175 u176 u177 u178 u179 u180 u181 u182 u183 u184 u185 u186 u187 u188 u189 u190 u191 u192 u193 u194 u195 u196 u197 u198 u199 u200 u201 u202 u203 u204 u205 u206 u207 u208 u209 u210 u211 u212 u213 u214 u215 u216 u217 u218 u219 u220 u221 u222 u223 u224 u225 u226 u227 u228 u229 u230 u231 u232 u233 u234 u235 u236 u237 u238 u239 u240 u241 u242 u243 u244 : Value} :
    (restFrom Try.f6 13).wp Try.prog (bodyPost Try.prog Try.f6 fun e w' => e = .returned (.bool true) ∧ Ext w w')
      ⟨#[u0, u1, u2, u3, u4, u5, u6, u7, u8, u9, u10, u11, u12, u13, u14, u15, u16, u17, u18, u19, u20, u21, u22, u23, u24, u25, u26, u27, u28, u29, u30, u31, u32, u33, u34, u35, u36, u37, u38, u39, u40, u41, u42, u43, u44, u45, u46, u47, u48, u49, u50, u51, u52, u53, u54, u55, u56, u57, u58, u59, u60, u61, u62, u63, u64, u65, u66, u67, u68, u69, u70, u71, u72, u73, u74, u75, u76, u77, u78, u79, u80, u81, u82, u83, u84, u85, u86, u87, u88, u89, u90, u91, u92, u93, u94, u95, u96, u97, u98, u99, u100, u101, u102, u103, u104, u105, u106, u107, u108, u109, u110, u111, u112, u113, u114, u115, u116, u117, u118, u119, u120, u121, u122, u123, u124, u125, u126, u127, u128, u129, u130, u131, u132, u133, u134, u135, u136, u137, u138, u139, u140, u141, u142, u143, u144, u145, u146, u147, u148, u149, u150, u151, u152, u153, u154, u155, u156, u157, u158, u159, u160, u161, u162, u163, u164, u165, u166, u167, u168, u169, u170, u171, u172, u173, u174, u175, u176, u177, u178, u179, u180, u181, u182, u183, u184, u185, u186, u187, u188, u189, u190, u191, u192, u193, u194, u195, u196, u197, u198, u199, u200, u201, u202, u203, u204, u205, u206, u207, u208, u209, u210, u211, u212, u213, u214, u215, u216, u217, u218, u219, u220, u221, u222, u223, u224, u225, u226, u227, u228, u229, u230, u231, u232, u233, u234, u235, u236, u237, u238, u239, u240, u241, u242, u243, u244], []⟩ W := by
  have hfi := field_any
  have hsp := span_any
  have hA := exA_any
  have hB := exB_any
  have hst := startNo_any
  have hbd := fun fb V hL => boundsK_any (n := 4) ex_empty (some ⟨fb, 0, none⟩) 4 V hL (by omega) (by decide)
  have hse := fun fb V hL => seeNo_any (n := 4) ex_zero (some ⟨fb, 0, none⟩) 4 V hL (by omega) (by decide) (by decide) (by decide)
  have hma := fun fb V hL => marchNo_any (n := 4) ex_march (some ⟨fb, 0, none⟩) 4 V hL (by omega) (by decide)
  have hc2 := fun fb b V hL hS => clashK_any (n := 4) ex_two (by decide) (some ⟨fb, 0, none⟩) 4 b 2 2 V hL (by omega) (by decide) hS
  have hmk := mk31
  have hcm := fun fb tb V hl hs => @clashMany_any fb tb V hl hs
  have htail := fun V p16 fb h16 hl hV => @ex23 w V (some ⟨fb, 0, none⟩) 4 p16 hV h16 hl
  dsimp only at htail
  unfold FieldPost at hfi
  unfold NoPost at hst
  unfold NoPost Sight.val zl at hse
  unfold NoPost Trek.val at hma
  unfold zs at hbd
  simp only [List.length_nil] at hse hma hbd hc2
  have HTail := Lib.hid htail
  have Hfi := Lib.hid hfi
  have Hx := Lib.hid hx
  have Hst := Lib.hid hst
  have Hbd := Lib.hid hbd
  have Hse := Lib.hid hse
  have Hma := Lib.hid hma
  have Hc2 := Lib.hid hc2
  have Hcm := Lib.hid hcm
  have Hsp := Lib.hid hsp
  have HA := Lib.hid hA
  have HB := Lib.hid hB
  clear hfi hx hst hbd hse hma hc2 hcm hsp hA hB
  clear htail
  conv => arg 2; whnf
  go_upto_region 14 with (go_at_call 35; refine (Hfi.out _).mono ?_; rintro e W1 ⟨fb, rfl, fbl, hx1, hfb⟩)
  have hx2 := hx1.alloc (.cells #[.slice (some ⟨fb, 0, none⟩) 4 4] 24)
  have hb2 := heap_alloc_new W1 (.cells #[.slice (some ⟨fb, 0, none⟩) 4 4] 24)
  have hfb2 := ((Ext.refl W1).alloc (.cells #[.slice (some ⟨fb, 0, none⟩) 4 4] 24)).heap hfb
  have hne : fb ≠ W1.heap.size := by have := heap_lt hfb; omega
  generalize W1.alloc (.cells #[.slice (some ⟨fb, 0, none⟩) 4 4] 24) = W2 at *
  generalize W1.heap.size = p15 at *
  obtain ⟨z2, _⟩ := (Ext.refl W2).box hb2
  obtain ⟨y2, y2'⟩ := (Ext.refl W2).box hfb2
  have l2 := heap_lt hfb2
  clear hx1 hfb
  go_upto_region 15 with fail
  have hx3 := hx2.setCell (p := ⟨fb, 2, none⟩) fbl (.int .i64 (-1))
  have hf3 : (W2.setCell ⟨fb, 2, none⟩ (.int .i64 (-1))).heap[fb]? = some (.cells (halfRows emptyL).flatten.toArray 47 (0, 0)) := by
    rw [heap_setCell_box, hfb2]
    rfl
  have hb3 := (Below.heap_setCell W2 ⟨fb, 2, none⟩ (.int .i64 (-1)) p15 (fun e => hne e.symm)).trans hb2
  generalize W2.setCell ⟨fb, 2, none⟩ (.int .i64 (-1)) = W3 at *
  have hE := halves_block emptyL hf3
  rw [show emptyL.length = 4 from rfl] at hE
  have Hx3 := Lib.hid (Hx.out.trans hx3)
  have HE := Lib.hid hE
  have Hb3 := Lib.hid hb3
  clear hx2 hb2 hfb2 z2 y2 y2' l2 hx3 hf3 hb3 hE fbl hne
  go_upto_region 16 with (go_at_call 35; refine (Hfi.out _).mono ?_; rintro e W4 ⟨gb, rfl, gbl, hx4, hgb⟩)
  have hx5 := hx4.alloc (.cells #[.slice (some ⟨gb, 0, none⟩) 4 4] 24)
  have hb5 := heap_alloc_new W4 (.cells #[.slice (some ⟨gb, 0, none⟩) 4 4] 24)
  have hgb5 := ((Ext.refl W4).alloc (.cells #[.slice (some ⟨gb, 0, none⟩) 4 4] 24)).heap hgb
  have hne : gb ≠ W4.heap.size := by have := heap_lt hgb; omega
  generalize W4.alloc (.cells #[.slice (some ⟨gb, 0, none⟩) 4 4] 24) = W5 at *
  generalize W4.heap.size = p16 at *
  obtain ⟨z5, _⟩ := (Ext.refl W5).box hb5
  obtain ⟨y5, y5'⟩ := (Ext.refl W5).box hgb5
  have l5 := heap_lt hgb5
  clear hx4 hgb
  go_upto_region 17 with fail
  have hx6 := hx5.setCell (p := ⟨gb, 9, none⟩) gbl (.int .i64 1)
  have hf6 : (W5.setCell ⟨gb, 9, none⟩ (.int .i64 1)).heap[gb]? = some (.cells (halfRows wildL).flatten.toArray 47 (0, 0)) := by
    rw [heap_setCell_box, hgb5]
    rfl
  have hb6 := (Below.heap_setCell W5 ⟨gb, 9, none⟩ (.int .i64 1) p16 (fun e => hne e.symm)).trans hb5
  generalize W5.setCell ⟨gb, 9, none⟩ (.int .i64 1) = W6 at *
  have hWd := halves_block wildL hf6
  rw [show wildL.length = 4 from rfl] at hWd
  have Hx6 := Lib.hid (Hx3.out.trans hx6)
  have HE6 := Lib.hid (HE.out.ext hx6)
  have Hb15 := Lib.hid (hx6.heap Hb3.out)
  have HWd := Lib.hid hWd
  have Hb16 := Lib.hid hb6
  clear hx5 hb5 hgb5 z5 y5 y5' l5 hx6 hf6 hb6 hWd gbl hne
  go_upto_region 18 with (first
    | (go_at_call 38; refine (Hsp.out _ _ _).mono ?_; rintro e W7 ⟨rfl, hx7⟩; first | (have hxs := hxq.trans hx7) | (have hxq := hx7))
    | (go_at_call 22; refine (Hst.out _).mono ?_; rintro e W8 ⟨b8, c8, rfl, hx8⟩))
  have hx9 := hxs.trans hx8
  obtain ⟨z8, _⟩ := (Ext.refl W8).box (hx9.heap Hb15.out)
  have Hx9 := Lib.hid hx9
  clear hxq hxs hx8 hx9
  go_upto_region 19 with (go_at_call 24; refine (Hbd.out _ _ (HE6.out.ext Hx9.out)).mono ?_; rintro e W10 ⟨rfl, hx10⟩)
  have Hx10 := Lib.hid (Hx9.out.trans hx10)
  clear hx10 z8
  go_upto_region 20 with (first
    | (go_at_call 35; refine (Hfi.out _).mono ?_; rintro e W11 ⟨b11, rfl, bl11, hx11, hb11⟩)
    | (go_at_call 16; refine (Hse.out _ _ (field_halves hb11)).mono ?_; rintro e W12 ⟨b12, c12, rfl, hx12⟩))
  have Hx12 := Lib.hid (Hx10.out.trans (hx11.trans hx12))
  clear hx11 hx12 hb11 bl11
  go_upto_region 21 with (first
    | (go_at_call 35; refine (Hfi.out _).mono ?_; rintro e W13 ⟨b13, rfl, bl13, hx13, hb13⟩)
    | (go_at_call 38; refine (Hsp.out _ _ _).mono ?_; rintro e W14 ⟨rfl, hx14⟩)
    | (go_at_call 30; refine (Hma.out _ _ (field_halves (hx14.heap hb13))).mono ?_; rintro e W15 ⟨b15, c15, rfl, hx15⟩))
  have Hx15 := Lib.hid (Hx12.out.trans ((hx13.trans hx14).trans hx15))
  clear hx13 hx14 hx15 hb13 bl13
  go_upto_region 22 with (first
    | (go_at_call 35; refine (Hfi.out _).mono ?_; rintro e W16 ⟨b16, rfl, bl16, hx16, hb16⟩)
    | (go_at_call 36; refine (HA.out _).mono ?_; rintro e W17 ⟨rfl, hx17⟩)
    | (go_at_call 39; refine (HB.out _).mono ?_; rintro e W18 ⟨rfl, hx18⟩)
    | (go_at_call 18; refine (Hc2.out _ _ _ (field_halves (((hx17.trans hx18).alloc _).heap hb16)) (sights_block [exA, exB] rfl (heap_alloc_new W18 _))).mono ?_; rintro e W19 ⟨b19, c19, rfl, hx19, _⟩))
  have hx20 := (hx16.trans ((hx17.trans hx18).alloc _)).trans hx19
  have Hx20 := Lib.hid (Hx15.out.trans hx20)
  clear hx16 hx17 hx18 hx19 hx20 hb16 bl16
  have HT := Lib.hid (show ∀ V, Ext W19 V → Ext w V ∧ V.heap[p16]? = some (.cells #[.slice (some ⟨gb, 0, none⟩) 4 4] 24 (0, 0)) ∧ HalvesAt V (some ⟨gb, 0, none⟩) 4 wildL from fun V hV => ⟨Hx6.out.trans (Hx20.out.trans hV), (Hx20.out.trans hV).heap Hb16.out, HWd.out.ext (Hx20.out.trans hV)⟩)
  refine wp_region_tree (.two 0 (.one 1 (.one 2 (.take [3, 4, 5] (.one 6 (.one 7 .done))))) 1 (.one 0 (.one 2 (.take [3, 4, 5] (.one 6 (.one 7 .done)))))) (Ext W19) _ (by kernel_rfl) (by kernel_rfl) rfl ((Ext.refl _).drew) ?_
  intro ι _ f hf hs
  have Hs := Lib.hid hs
  clear hf hs
  simp only [treeOf, oneOp, twoOp, opsOf, consOp, List.getElem?_toArray, List.getElem?_cons_succ, List.getElem?_cons_zero]
  refine wpOT_both ⟨?_, ?_⟩
  · go_wp2_with (go_at_call 35; refine (Hfi.out _).mono ?_; rintro e W1 ⟨fb, rfl, fbl, hx1, hfb⟩)
    have hx1' := ((Ext.refl W19).drew).trans hx1
    refine ⟨Hs.out _ hx1', ?_⟩
    refine wpOT_one ?_
    go_wp2_with fail
    refine ⟨Hs.out _ (hx1'.alloc _), ?_⟩
    have hh := (field_halves hfb).ext ((Ext.refl W1).alloc oSights)
    have ht := zSights_at W1
    have hx2 := hx1'.alloc oSights
    generalize W1.alloc oSights = W2 at *
    generalize W1.heap.size = tb at *
    have Hh := Lib.hid hh
    have Ht := Lib.hid ht
    have Hx2 := Lib.hid hx2
    clear hh ht hx2
    refine wpOT_one ?_
    go_wp2_with (go_at_call 18; refine (Hcm.out _ _ _ Hh.out Ht.out).mono ?_; rintro e W3 ⟨b3, c3, rfl, hx3⟩)
    have hx4 := Hx2.out.trans hx3
    refine ⟨Hs.out _ hx4, ?_⟩
    refine wpOT_take ?_
    repeat (go_big_quiet_step (fail))
    refine wpQuiet_nil ?_
    refine wpOT_one ?_
    go_wp2_with fail
    refine ⟨Hs.out _ hx4, ?_⟩
    refine wpOT_one ?_
    go_wp2_with fail
    refine ⟨Hs.out _ hx4, ?_⟩
    refine wpOT_done ?_
    go_step
    go_step
    obtain ⟨f1, f2, f3⟩ := HT.out _ hx4
    exact HTail.out _ _ _ f2 f3 f1
  · go_wp2_with fail
    have hx1 := ((Ext.refl W19).alloc oSights).drew
    have ht := (zSights_at W19).ext ((Ext.refl (W19.alloc oSights)).drew)
    refine ⟨Hs.out _ hx1, ?_⟩
    generalize (W19.alloc oSights).drew = W1 at *
    generalize W19.heap.size = tb at *
    refine wpOT_one ?_
    go_wp2_with (go_at_call 35; refine (Hfi.out _).mono ?_; rintro e W2 ⟨fb, rfl, fbl, hxb, hfb⟩)
    have hx2 := hx1.trans hxb
    refine ⟨Hs.out _ hx2, ?_⟩
    have hh := field_halves hfb
    have ht := ht.ext hxb
    clear hfb
    have Hh := Lib.hid hh
    have Ht := Lib.hid ht
    have Hx2 := Lib.hid hx2
    clear hh ht hx2
    refine wpOT_one ?_
    go_wp2_with (go_at_call 18; refine (Hcm.out _ _ _ Hh.out Ht.out).mono ?_; rintro e W3 ⟨b3, c3, rfl, hx3⟩)
    have hx4 := Hx2.out.trans hx3
    refine ⟨Hs.out _ hx4, ?_⟩
    refine wpOT_take ?_
    repeat (go_big_quiet_step (fail))
    refine wpQuiet_nil ?_
    refine wpOT_one ?_
    go_wp2_with fail
    refine ⟨Hs.out _ hx4, ?_⟩
    refine wpOT_one ?_
    go_wp2_with fail
    refine ⟨Hs.out _ hx4, ?_⟩
    refine wpOT_done ?_
    go_step
    go_step
    obtain ⟨f1, f2, f3⟩ := HT.out _ hx4
    exact HTail.out _ _ _ f2 f3 f1
end Go.Proofs.Ytacdndehlkaaeaa

/- The law GuideExamples: the table's values. -/
namespace Go.Proofs.Ytacdndehlkaaeaa
open Go.RowKit
set_option linter.unusedVariables false
set_option linter.unusedSimpArgs false
theorem ex_b : boundsOf exL1 = (⟨0, 10000⟩, ⟨0, 10000⟩, 0) := by decide +kernel
theorem ex_n1 : nearOf fieldL 5000 5000 5000 = (2, 0) := by decide +kernel
theorem ex_n2 : nearOf fieldL 20000 5000 9999 = (0, 0) := by decide +kernel
theorem ex_f1 : findsOf fieldL [exEast, exEast] 12000 5000 6000 = (0, -1, 0) := by decide +kernel
theorem ex_f2 : findsOf fieldL [exEast, exEast, exEast, exEast] 12000 5000 5000 = (0, -1, 0) := by decide +kernel
theorem ex_same : decide (exL1 = fieldL ++ [⟨1, 1, 12000⟩, ⟨0, -1, 0⟩]) = true := by decide +kernel
theorem findsK_any {ts : List Trek} {x y far m s e : Int} {n : Nat} (hf : findsOf fieldL ts x y far = (m, s, e)) (hn : n ≤ 1000) {fb tb : Nat} (w : World) (hl : HalvesAt w (some ⟨fb, 0, none⟩) 4 fieldL) (hs : TreksAt w (some ⟨tb, 0, none⟩) n ts) : Calls Try.prog 32 #[.agg #[.slice (some ⟨fb, 0, none⟩) 4 4], .slice (some ⟨tb, 0, none⟩) n n, .int .i64 x, .int .i64 y, .int .i64 far] w fun e' w' => e' = .returned (.tuple #[.int .i64 m, .int .i64 s, .int .i64 e]) ∧ Ext w w' :=
  (finds_any (some ⟨fb, 0, none⟩) 4 4 fieldL (some ⟨tb, 0, none⟩) n n ts x y far w hl (by omega) (by decide) hs (by omega)).mono fun e w' h => by
    unfold FindsPost at h
    rw [hf] at h
    exact h
set_option maxRecDepth 100000 in
set_option maxHeartbeats 8000000 in
theorem ex6 {w W : World} {a : Option Addr} {c p1 : Nat} (hx : Ext w W) (h1 : W.heap[p1]? = some (.cells #[.slice a 6 c] 24 (0, 0))) (hl : HalvesAt W a 6 exL1) (hc : 6 ≤ c) (hm : c ≤ maxLen) {u0 u2 u3 u4 u5 u6 u7 u8 u9 u10 u11 u12 u13 u14 u15 u16 u17 u18 u19 u20 u21 u22 u23 u24 u25 u26 u27 u28 u29 u30 u31 u32 u33 u34 u35 u36 u37 u38 u39 u40 u41 u42 u43 u44 u45 u46 u47 u48 u49 u50 u51 u52 u53 u54 u55 u56 u57 u58 u59 u60 u61 u62 u63 u64 u65 u66 u67 u68 u69 u70 u71 u72 u73 u74 u75 u76 u77 u78 u79 u80 u81 u82 u83 u84 u85 u86 u87 u88 u89 u90 u91 u92 u93 u94 u95 u96 u97 u98 u99 u100 u101 u102 u103 u104 u105 u106 u107 u108 u109 u110 u111 u112 u113 u114 u115 u116 u117 u118 u119 u120 u121 u122 u123 u124 u125 u126 u127 u128 u129 u130 u131 u132 u133 u134 u135 u136 u137 u138 u139 u140 u141 u142 u143 u144 u145 u146 u147 u148 u149 u150 u151 u152 u153 u154 u155 u156 u157 u158 u159 u160 u161 u162 u163 u164 u165 u166 u167 u168 u169 u170 u171 u172 u173 u174 u175 u176 u177 u178 u179 u180 u181 u182 u183 u184 u185 u186 u187 u188 u189 u190 u191 u192 u193 u194 u195 u196 u197 u198 u199 u200 u201 u202 u203 u204 u205 u206 u207 u208 u209 u210 u211 u212 u213 u214 u215 u216 u217 u218 u219 u220 u221 u222 u223 u224 u225 u226 u227 u228 u229 u230 u231 u232 u233 u234 u235 u236 u237 u238 u239 u240 u241 u242 u243 u244 : Value} :
    (restFrom Try.f6 6).wp Try.prog (bodyPost Try.prog Try.f6 fun e w' => e = .returned (.bool true) ∧ Ext w w')
      ⟨#[u0, .pointer (some ⟨p1, 0, none⟩), u2, u3, u4, u5, u6, u7, u8, u9, u10, u11, u12, u13, u14, u15, u16, u17, u18, u19, u20, u21, u22, u23, u24, u25, u26, u27, u28, u29, u30, u31, u32, u33, u34, u35, u36, u37, u38, u39, u40, u41, u42, u43, u44, u45, u46, u47, u48, u49, u50, u51, u52, u53, u54, u55, u56, u57, u58, u59, u60, u61, u62, u63, u64, u65, u66, u67, u68, u69, u70, u71, u72, u73, u74, u75, u76, u77, u78, u79, u80, u81, u82, u83, u84, u85, u86, u87, u88, u89, u90, u91, u92, u93, u94, u95, u96, u97, u98, u99, u100, u101, u102, u103, u104, u105, u106, u107, u108, u109, u110, u111, u112, u113, u114, u115, u116, u117, u118, u119, u120, u121, u122, u123, u124, u125, u126, u127, u128, u129, u130, u131, u132, u133, u134, u135, u136, u137, u138, u139, u140, u141, u142, u143, u144, u145, u146, u147, u148, u149, u150, u151, u152, u153, u154, u155, u156, u157, u158, u159, u160, u161, u162, u163, u164, u165, u166, u167, u168, u169, u170, u171, u172, u173, u174, u175, u176, u177, u178, u179, u180, u181, u182, u183, u184, u185, u186, u187, u188, u189, u190, u191, u192, u193, u194, u195, u196, u197, u198, u199, u200, u201, u202, u203, u204, u205, u206, u207, u208, u209, u210, u211, u212, u213, u214, u215, u216, u217, u218, u219, u220, u221, u222, u223, u224, u225, u226, u227, u228, u229, u230, u231, u232, u233, u234, u235, u236, u237, u238, u239, u240, u241, u242, u243, u244], []⟩ W := by
  have hfi := field_any
  have hea := exEast_any
  have hsp := span_any
  have hbd := boundsK_any (n := 6) ex_b a c W hl hc hm
  have hn1 := fun fb V hL => nearK_any (n := 4) ex_n1 (some ⟨fb, 0, none⟩) 4 V hL (by omega) (by decide)
  have hn2 := fun fb V hL => nearK_any (n := 4) ex_n2 (some ⟨fb, 0, none⟩) 4 V hL (by omega) (by decide)
  have hf1 := fun fb tb V hL hS => @findsK_any _ _ _ _ _ _ _ 2 ex_f1 (by omega) fb tb V hL hS
  have hf2 := fun fb tb V hL hS => @findsK_any _ _ _ _ _ _ _ 4 ex_f2 (by omega) fb tb V hL hS
  have htail := fun V hV => @ex13 w V hV
  dsimp only at htail
  unfold FieldPost at hfi
  unfold Trek.val exEast at hea
  simp only at hea
  have HT := Lib.hid htail
  obtain ⟨z0, _⟩ := (Ext.refl W).box h1
  have Hfi := Lib.hid hfi
  have Hea := Lib.hid hea
  have Hx := Lib.hid hx
  have Hbd := Lib.hid hbd
  have Hn1 := Lib.hid hn1
  have Hn2 := Lib.hid hn2
  have Hf1 := Lib.hid hf1
  have Hf2 := Lib.hid hf2
  have Hsp := Lib.hid hsp
  clear hfi hea hx hbd hn1 hn2 hf1 hf2 hsp
  clear htail hl hc hm
  conv => arg 2; whnf
  go_upto_region 7 with (go_at_call 24; refine Hbd.out.mono ?_; rintro e W1 ⟨rfl, hx1⟩)
  have g3 := ((Ext.refl _).alloc (.cells #[.int .i64 0, .int .i64 10000] 28)).heap (heap_alloc_new W1 (.cells #[.int .i64 0, .int .i64 10000] 28))
  have g4 := alloc_at (W1.alloc (.cells #[.int .i64 0, .int .i64 10000] 28)) (.cells #[.int .i64 0, .int .i64 10000] 28) (W1.heap.size + 1) (by simp)
  have hx2 := (hx1.alloc (.cells #[.int .i64 0, .int .i64 10000] 28)).alloc (.cells #[.int .i64 0, .int .i64 10000] 28)
  generalize (W1.alloc (.cells #[.int .i64 0, .int .i64 10000] 28)).alloc (.cells #[.int .i64 0, .int .i64 10000] 28) = W2 at *
  generalize W1.heap.size + 1 = p4 at *
  generalize W1.heap.size = p3 at *
  have Hx2 := Lib.hid (Hx.out.trans hx2)
  have G3 := Lib.hid g3
  have G4 := Lib.hid g4
  clear hx1 hx2 g3 g4 z0
  go_upto_region 8 with (first
    | (go_at_call 35; refine (Hfi.out _).mono ?_; rintro e W3 ⟨b3, rfl, bl3, hx3, hb3⟩)
    | (go_at_call 26; refine (Hn1.out _ _ (field_halves hb3)).mono ?_; rintro e W4 ⟨rfl, hx4⟩))
  have hx5 := hx3.trans hx4
  clear hx3 hx4 hb3 bl3
  go_upto_region 9 with (first
    | (go_at_call 35; refine (Hfi.out _).mono ?_; rintro e W6 ⟨b6, rfl, bl6, hx6, hb6⟩)
    | (go_at_call 26; refine (Hn2.out _ _ (field_halves hb6)).mono ?_; rintro e W7 ⟨rfl, hx7⟩))
  have hx8 := hx5.trans (hx6.trans hx7)
  clear hx5 hx6 hx7 hb6 bl6
  go_upto_region 10 with (first
    | (go_at_call 35; refine (Hfi.out _).mono ?_; rintro e W9 ⟨b9, rfl, bl9, hx9, hb9⟩)
    | (go_at_call 37; first | (have q := hx10; clear q; refine (Hea.out _).mono ?_; rintro e W11 ⟨rfl, hx11⟩) | (refine (Hea.out _).mono ?_; rintro e W10 ⟨rfl, hx10⟩))
    | (go_at_call 32; refine (Hf1.out _ _ _ (field_halves (((hx10.trans hx11).alloc _).heap hb9)) (treks_block [exEast, exEast] rfl (heap_alloc_new W11 _))).mono ?_; rintro e W12 ⟨rfl, hx12⟩))
  have hx13 := hx8.trans ((hx9.trans ((hx10.trans hx11).alloc _)).trans hx12)
  clear hx8 hx9 hx10 hx11 hx12 hb9 bl9
  go_upto_region 11 with (first
    | (go_at_call 35; refine (Hfi.out _).mono ?_; rintro e W14 ⟨b14, rfl, bl14, hx14, hb14⟩)
    | (go_at_call 37; first
      | (have q := hx17; clear q; refine (Hea.out _).mono ?_; rintro e W18 ⟨rfl, hx18⟩)
      | (have q := hx16; clear q; refine (Hea.out _).mono ?_; rintro e W17 ⟨rfl, hx17⟩)
      | (have q := hx15; clear q; refine (Hea.out _).mono ?_; rintro e W16 ⟨rfl, hx16⟩)
      | (refine (Hea.out _).mono ?_; rintro e W15 ⟨rfl, hx15⟩))
    | (go_at_call 32; refine (Hf2.out _ _ _ (field_halves (((((hx15.trans hx16).trans hx17).trans hx18).alloc _).heap hb14)) (treks_block [exEast, exEast, exEast, exEast] rfl (heap_alloc_new W18 _))).mono ?_; rintro e W19 ⟨rfl, hx19⟩))
  have hx20 := hx13.trans ((hx14.trans ((((hx15.trans hx16).trans hx17).trans hx18).alloc _)).trans hx19)
  have g3' := hx20.heap G3.out
  have g4' := hx20.heap G4.out
  have Hx20 := Lib.hid (Hx2.out.trans hx20)
  clear hx13 hx14 hx15 hx16 hx17 hx18 hx19 hb14 bl14 hx20
  refine wp_region_ext (by kernel_rfl) (by kernel_rfl) (fun f hf hs => ?_)
  have f0 := fun q => ((hf q).box g3').1
  have f1 := fun q => ((hf q).box g4').1
  have Hf := Lib.hid hf
  have HS := Lib.hid hs
  clear hf hs
  repeat (go_big_quiet_step ((go_at_call 38; exact Calls.ext_of (Hf.out _) HS.out (Hsp.out _ _ _))))
  refine wpQuiet_nil ?_
  intro W21 hW21
  clear f0 f1
  go_upto_if 137 with fail
  go_step
  go_step
  go_step
  go_step
  exact HT.out _ (Hx20.out.trans hW21)
end Go.Proofs.Ytacdndehlkaaeaa

/- The law GuideExamples. -/
namespace Go.Proofs.Ytacdndehlkaaeaa
open Go.RowKit
set_option linter.unusedVariables false
set_option linter.unusedSimpArgs false
theorem wpList_unguard {P : Program} {ops : Array Oper} {Q : Exit → Act → World → Prop} {o : Oper} {rest : List Oper} {a : Act} {w : World} (hw : Region.wanted o (yielded ops a.tmps) = true) (h : wpList P ops Q ({ o with guard := none } :: rest) a w) : wpList P ops Q (o :: rest) a w := by
  unfold wpList at h ⊢
  rw [if_pos hw]
  rw [if_pos (show Region.wanted { o with guard := none } (yielded ops a.tmps) = true from rfl)] at h
  exact h
theorem run_field24 (v : Value) (w : World) : (Instr.field 24 (.agg #[v]) 0).run Try.prog w = .ok v w := by kernel_rfl
set_option maxRecDepth 100000 in
set_option maxHeartbeats 8000000 in
theorem lawExamples_any (w : World) : Calls Try.prog 6 #[] w fun e w' => e = .returned (.bool true) ∧ Ext w w' := by
  have hal := alive_any
  have hfld := run_field24
  have hfi := field_any
  have hA := exA_any
  have hsA := fun fb V hl => exSee_any (n := 4) exEv1 exLen1 (some ⟨fb, 0, none⟩) 4 V hl (by omega) (by decide) (by decide) (by decide)
  have hsame := fun a b c d V hL hK => sameArea_any a b 6 6 c d exL1 (fieldL ++ [⟨1, 1, 12000⟩, ⟨0, -1, 0⟩]) V hL hK (by omega)
  rw [ex_same] at hsame
  have htail := fun V a c p1 hx h1 hl hc hm => @ex6 w V a c p1 hx h1 hl hc hm
  dsimp only at htail
  unfold FieldPost at hfi
  unfold AreaPost Sight.val exA at hsA
  simp only at hsA
  have HT := Lib.hid htail
  have Hal := Lib.hid hal
  have Hfi := Lib.hid hfi
  have HA := Lib.hid hA
  have HsA := Lib.hid hsA
  have Hsame := Lib.hid hsame
  clear hal hfi hA hsA hsame
  clear htail
  go_enter Try.func6, Try.ntmps6
  go_upto_region 4 with (first
    | (go_at_call 34; refine (Hal.out _).mono ?_; rintro e W1 ⟨rfl, hx1⟩)
    | (go_at_call 35; refine (Hfi.out _).mono ?_; rintro e W2 ⟨fb, rfl, fbl, hx2, hfb⟩)
    | (go_at_call 36; refine (HA.out _).mono ?_; rintro e W3 ⟨rfl, hx3⟩)
    | (go_at_call 16; refine (HsA.out _ _ (field_halves (hx3.heap hfb))).mono ?_; rintro e W4 ⟨a4, c4, rfl, s4, t4, hx4, hH4, _⟩))
  have hx5 := (((hx1.trans hx2).trans hx3).trans hx4).alloc (.cells #[.slice a4 6 c4] 24)
  have hb5 := heap_alloc_new W4 (.cells #[.slice a4 6 c4] 24)
  have hH5 := hH4.ext ((Ext.refl W4).alloc (.cells #[.slice a4 6 c4] 24))
  generalize W4.alloc (.cells #[.slice a4 6 c4] 24) = W5 at *
  generalize W4.heap.size = p1 at *
  have Hx5 := Lib.hid hx5
  have Hb5 := Lib.hid hb5
  have HH5 := Lib.hid hH5
  have HST := Lib.hid (And.intro s4 t4)
  clear hx1 hx2 hx3 hx4 hx5 hb5 hH5 hH4 hfb fbl s4 t4
  refine wp_region_tree (.take [0, 1, 2, 3, 6, 7] (.two 4 (.two 5 (.one 8 (.one 9 (.one 10 (.one 11 (.take [12, 13] .done))))) 8 (.one 5 (.one 9 (.one 10 (.one 11 (.take [12, 13] .done)))))) 8 (.one 4 (.one 5 (.one 9 (.one 10 (.one 11 (.take [12, 13] .done)))))))) (Ext W5) _ (by kernel_rfl) (by kernel_rfl) rfl ((Ext.refl _).drew) ?_
  intro ι _ f hf hs
  have f0 := fun q => ((hf q).box Hb5.out).1
  have Hs := Lib.hid hs
  clear hf hs
  simp only [treeOf, oneOp, twoOp, opsOf, consOp, List.getElem?_toArray, List.getElem?_cons_succ, List.getElem?_cons_zero]
  refine wpOT_take ?_
  repeat (go_big_quiet_step (fail))
  refine wpQuiet_nil ?_
  clear f0
  refine wpOT_both ⟨?_, ?_⟩
  · go_wp2_with (go_at_call 35; refine (Hfi.out _).mono ?_; rintro e W6 ⟨fb, rfl, fbl, hx6, hfb⟩)
    have hx6' := ((Ext.refl W5).drew).trans hx6
    refine ⟨Hs.out _ hx6', ?_⟩
    have hx7 := hx6'.alloc (.cells #[.int .i64 1, .int .i64 1, .int .i64 12000, .int .i64 0, .int .i64 (-1), .int .i64 0] 47)
    have hfb7 := ((Ext.refl W6).alloc (.cells #[.int .i64 1, .int .i64 1, .int .i64 12000, .int .i64 0, .int .i64 (-1), .int .i64 0] 47)).heap hfb
    have hbx7 := heap_alloc_new W6 (.cells #[.int .i64 1, .int .i64 1, .int .i64 12000, .int .i64 0, .int .i64 (-1), .int .i64 0] 47)
    have hB : W5.heap.size ≤ fb := fbl
    have Hx6 := Lib.hid hx6'
    have Hx7 := Lib.hid hx7
    have Hfb := Lib.hid hfb7
    have Hbx := Lib.hid hbx7
    have HB := Lib.hid hB
    clear hx6 hx6' hx7 hfb hfb7 hbx7 hB fbl
    refine wpOT_both ⟨?_, ?_⟩
    · go_wp2_with fail
      refine ⟨Hs.out _ Hx6.out, ?_⟩
      refine wpOT_one ?_
      go_wp2_with fail
      refine ⟨Hs.out _ Hx7.out, ?_⟩
      have HOw := Lib.hid (owns_block (B := W5.heap.size) exLen0 Hfb.out HB.out (by decide))
      refine wpOT_one ?_
      refine wpList_unguard (by rfl) ?_
      refine wpList_app elem22 _ rfl (.tmp 41) (.tmp 44) rfl W5.heap.size _ (halfRows fieldL) rfl HOw.out (some ⟨_, 0, none⟩) 2 2 (halfRows [⟨1, 1, 12000⟩, ⟨0, -1, 0⟩]) rfl rfl (slAt_block (rows := halfRows [⟨1, 1, 12000⟩, ⟨0, -1, 0⟩]) Hbx.out (fun r hr => (halfRows_row _ r hr).1)) (halfRows_row _) ?_ ?_ ?_
      · decide
      · exact Hx7.out.size
      · intro v8 W8 ho8 hg8 _
        rw [← halfRows_append] at ho8
        have hx8 := Hx7.out.app HOw.out hg8
        obtain ⟨a8, c8, hv8, _, _, _, hH8⟩ := halves_of_owns ho8
        rw [show (fieldL ++ [(⟨1, 1, 12000⟩ : Half), ⟨0, -1, 0⟩]).length = 6 from rfl] at hv8 hH8
        subst hv8
        refine ⟨rfl, Hs.out _ hx8, ?_⟩
        have Hx8 := Lib.hid hx8
        have HH8 := Lib.hid hH8
        clear hg8 ho8 hx8 hH8
        refine wpOT_one ?_
        go_wp2_with fail
        refine ⟨Hs.out _ Hx8.out, ?_⟩
        refine wpOT_one ?_
        go_wp2_with (go_at_call 20; refine (Hsame.out _ _ _ _ _ (HH5.out.ext Hx8.out) HH8.out).mono ?_; rintro e W9 ⟨rfl, hx9⟩)
        have hx10 := Hx8.out.trans hx9
        refine ⟨Hs.out _ hx10, ?_⟩
        refine wpOT_take ?_
        repeat (go_big_quiet_step (fail))
        refine wpQuiet_nil ?_
        refine wpOT_done ?_
        have Hx10 := Lib.hid hx10
        clear hx9 hx10
        go_upto_if 49 with fail
        go_step
        go_step
        go_step
        go_step
        exact HT.out _ _ _ _ (Hx5.out.trans Hx10.out) (Hx10.out.heap Hb5.out) (HH5.out.ext Hx10.out) HST.out.1 HST.out.2
    · go_wp2_with fail
      refine ⟨Hs.out _ Hx7.out, ?_⟩
      refine wpOT_one ?_
      go_wp2_with fail
      refine ⟨Hs.out _ Hx7.out, ?_⟩
      have HOw := Lib.hid (owns_block (B := W5.heap.size) exLen0 Hfb.out HB.out (by decide))
      refine wpOT_one ?_
      refine wpList_unguard (by rfl) ?_
      refine wpList_app elem22 _ rfl (.tmp 41) (.tmp 44) rfl W5.heap.size _ (halfRows fieldL) rfl HOw.out (some ⟨_, 0, none⟩) 2 2 (halfRows [⟨1, 1, 12000⟩, ⟨0, -1, 0⟩]) rfl rfl (slAt_block (rows := halfRows [⟨1, 1, 12000⟩, ⟨0, -1, 0⟩]) Hbx.out (fun r hr => (halfRows_row _ r hr).1)) (halfRows_row _) ?_ ?_ ?_
      · decide
      · exact Hx7.out.size
      · intro v8 W8 ho8 hg8 _
        rw [← halfRows_append] at ho8
        have hx8 := Hx7.out.app HOw.out hg8
        obtain ⟨a8, c8, hv8, _, _, _, hH8⟩ := halves_of_owns ho8
        rw [show (fieldL ++ [(⟨1, 1, 12000⟩ : Half), ⟨0, -1, 0⟩]).length = 6 from rfl] at hv8 hH8
        subst hv8
        refine ⟨rfl, Hs.out _ hx8, ?_⟩
        have Hx8 := Lib.hid hx8
        have HH8 := Lib.hid hH8
        clear hg8 ho8 hx8 hH8
        refine wpOT_one ?_
        go_wp2_with fail
        refine ⟨Hs.out _ Hx8.out, ?_⟩
        refine wpOT_one ?_
        go_wp2_with (go_at_call 20; refine (Hsame.out _ _ _ _ _ (HH5.out.ext Hx8.out) HH8.out).mono ?_; rintro e W9 ⟨rfl, hx9⟩)
        have hx10 := Hx8.out.trans hx9
        refine ⟨Hs.out _ hx10, ?_⟩
        refine wpOT_take ?_
        repeat (go_big_quiet_step (fail))
        refine wpQuiet_nil ?_
        refine wpOT_done ?_
        have Hx10 := Lib.hid hx10
        clear hx9 hx10
        go_upto_if 49 with fail
        go_step
        go_step
        go_step
        go_step
        exact HT.out _ _ _ _ (Hx5.out.trans Hx10.out) (Hx10.out.heap Hb5.out) (HH5.out.ext Hx10.out) HST.out.1 HST.out.2
  · go_wp2_with fail
    have hx6 := ((Ext.refl W5).alloc (.cells #[.int .i64 1, .int .i64 1, .int .i64 12000, .int .i64 0, .int .i64 (-1), .int .i64 0] 47)).drew
    have hbx : (W5.alloc (.cells #[.int .i64 1, .int .i64 1, .int .i64 12000, .int .i64 0, .int .i64 (-1), .int .i64 0] 47)).drew.heap[W5.heap.size]? = some (.cells #[.int .i64 1, .int .i64 1, .int .i64 12000, .int .i64 0, .int .i64 (-1), .int .i64 0] 47 (0, 0)) := heap_alloc_new W5 (.cells #[.int .i64 1, .int .i64 1, .int .i64 12000, .int .i64 0, .int .i64 (-1), .int .i64 0] 47)
    refine ⟨Hs.out _ hx6, ?_⟩
    generalize (W5.alloc (.cells #[.int .i64 1, .int .i64 1, .int .i64 12000, .int .i64 0, .int .i64 (-1), .int .i64 0] 47)).drew = W6 at *
    refine wpOT_one ?_
    go_wp2_with (go_at_call 35; refine (Hfi.out _).mono ?_; rintro e W7 ⟨fb, rfl, fbl, hx7, hfb⟩)
    have hx7' := hx6.trans hx7
    refine ⟨Hs.out _ hx7', ?_⟩
    have Hx7 := Lib.hid hx7'
    have Hfb := Lib.hid hfb
    have Hbx := Lib.hid (hx7.heap hbx)
    have HB := Lib.hid (Nat.le_trans hx6.size fbl)
    clear hx6 hx7 hx7' hfb hbx fbl
    refine wpOT_one ?_
    go_wp2_with fail
    refine ⟨Hs.out _ Hx7.out, ?_⟩
    have HOw := Lib.hid (owns_block (B := W5.heap.size) exLen0 Hfb.out HB.out (by decide))
    refine wpOT_one ?_
    refine wpList_unguard (by rfl) ?_
    refine wpList_app elem22 _ rfl (.tmp 41) (.tmp 44) rfl W5.heap.size _ (halfRows fieldL) rfl HOw.out (some ⟨_, 0, none⟩) 2 2 (halfRows [⟨1, 1, 12000⟩, ⟨0, -1, 0⟩]) rfl rfl (slAt_block (rows := halfRows [⟨1, 1, 12000⟩, ⟨0, -1, 0⟩]) Hbx.out (fun r hr => (halfRows_row _ r hr).1)) (halfRows_row _) ?_ ?_ ?_
    · decide
    · exact Hx7.out.size
    · intro v8 W8 ho8 hg8 _
      rw [← halfRows_append] at ho8
      have hx8 := Hx7.out.app HOw.out hg8
      obtain ⟨a8, c8, hv8, _, _, _, hH8⟩ := halves_of_owns ho8
      rw [show (fieldL ++ [(⟨1, 1, 12000⟩ : Half), ⟨0, -1, 0⟩]).length = 6 from rfl] at hv8 hH8
      subst hv8
      refine ⟨rfl, Hs.out _ hx8, ?_⟩
      have Hx8 := Lib.hid hx8
      have HH8 := Lib.hid hH8
      clear hg8 ho8 hx8 hH8
      refine wpOT_one ?_
      go_wp2_with fail
      refine ⟨Hs.out _ Hx8.out, ?_⟩
      refine wpOT_one ?_
      go_wp2_with (go_at_call 20; refine (Hsame.out _ _ _ _ _ (HH5.out.ext Hx8.out) HH8.out).mono ?_; rintro e W9 ⟨rfl, hx9⟩)
      have hx10 := Hx8.out.trans hx9
      refine ⟨Hs.out _ hx10, ?_⟩
      refine wpOT_take ?_
      repeat (go_big_quiet_step (fail))
      refine wpQuiet_nil ?_
      refine wpOT_done ?_
      have Hx10 := Lib.hid hx10
      clear hx9 hx10
      go_upto_if 49 with fail
      go_step
      go_step
      go_step
      go_step
      exact HT.out _ _ _ _ (Hx5.out.trans Hx10.out) (Hx10.out.heap Hb5.out) (HH5.out.ext Hx10.out) HST.out.1 HST.out.2
end Go.Proofs.Ytacdndehlkaaeaa

/- It is proved that GuideExamples returns true whatever the input, and that the input reads as it did. No conditions. -/
namespace Go.Proofs.Ytacdndehlkaaeaa.guideExamplesDone
open Go.ChangeShapes Go.WideShapes Go.ChangeAt Go.RowKit
open Go.ChangeMaps (open_string shut_string)
set_option linter.unusedVariables false

theorem own : ownKnob Try.prog.godebug = none := by kernel_rfl
theorem laidOut : laidOutB Try.prog = true := by kernel_rfl

set_option maxRecDepth 100000 in
theorem lifted (os : Os) (started : os.Started) (H : Type) (enc : TypeId × Value → H) :
    ReturnsInHanded {} Try.checked os 6 .any (Rows.guideExamplesSpec.pre6 enc Try.prog Try.f6 Rows.guideExamplesRow.domain false) (Rows.guideExamplesSpec.post enc Try.prog Try.f6 false true false false) := by
  refine returnsInHanded_of_change (C := Try.checked) own started (by kernel_rfl) Try.func6
    (ChangeSpec.witness6 (enc := enc) (C := Try.checked) false ⟨#[], #[], []⟩ 8 (by kernel_rfl) (by kernel_rfl) (by kernel_rfl) (by kernel_rfl)) ?_
  intro W base args ds gs before hval0 hW hcnd _
  have hval : ∀ (j : Nat) t v, Try.f6.params[j]? = some t → args[j]? = some v → Value.okWide Try.prog W .any base t v := hval0
  have hW' := hW
  obtain ⟨p, q, hA0, hV, rfl, hfz, hnd⟩ := hW
  have hA : DataW.TrodAll enc Try.prog W 0 (fun _ => true) true Try.f6.params.toList args.toList ds p := hA0
  rw [Try.params6] at hA hval
  obtain ⟨hargs, rfl, rfl⟩ := trodAll_nil hA
  obtain rfl : args = #[] := by cases args; simp_all
  obtain ⟨rfl, rfl⟩ := trodVars_none hV
  clear hA0 hval0
  refine (lawExamples_any  W ).mono fun e W' ⟨he, bel⟩ => ?_
  subst he
  exact ⟨_, rfl, _, _, _, [], _, [], hW', trodAll_mk1 (shut_bool Try.underlying4 _), trodAll_mk0, rfl, bel.frame _, fun h => by cases h⟩

theorem over : Rows.guideExamplesRow.holds Try.pinned (OpenSpec.ofChange Rows.guideExamplesSpec) :=
  OpenClaim.holds_of_wide 6 Try.f6 rfl rfl rfl rfl rfl rfl rfl ⟨rfl, rfl, rfl, rfl, rfl⟩ rfl rfl rfl rfl rfl (by kernel_rfl) Try.func6 (by kernel_rfl)
    (of_decide_eq_true (by kernel_rfl)) (by unfold Func.isWrapper; first | (rw [if_pos (by decide +kernel)]; kernel_rfl) | (rw [if_neg (by decide +kernel)]; exact ⟨rfl, rfl⟩))
    (fun os started H enc _ => lifted os started H enc)

theorem proved : Rows.GuideExamplesSaid := over
#print axioms proved
end Go.Proofs.Ytacdndehlkaaeaa.guideExamplesDone
