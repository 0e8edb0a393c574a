/- The law MarketShort: what comes of a barter that is short, and of one with half its times. -/
import Derived.Test.YtkbhmajcddmhnaaVGr14
import Derived.Test.YtkbhmajcddmhnaaVGoes
import Derived.Test.YtkbhmajcddmhnaaVGr13
import Derived.Test.YtkbhmajcddmhnaaVGr15
import Derived.Test.YtkbhmajcddmhnaaVNarTail
import Derived.Test.YtkbhmajcddmhnaaVGr10
import Derived.OpenShut
import Derived.ShutString
import Derived.ChangeOld
import Derived.Below
namespace Go.Proofs.Ytkbhmajcddmhnaa
open Go.RowKit
set_option linter.unusedVariables false
set_option linter.unusedSimpArgs false

theorem BartersAt.take {w : World} {a : Option Addr} {n k : Nat} {l : List Barter} (h : BartersAt w a n l) (hk : k ≤ n) : BartersAt w a k (l.take k) := by
  refine ⟨by rw [List.length_take, h.1]; omega, fun h0 => ?_⟩
  obtain ⟨b, off, ha, hc⟩ := h.2 (by omega)
  refine ⟨b, off, ha, fun j hj => ?_⟩
  show Cells _ _ _ ((l.take k).getD j ⟨0, 0, 0⟩).cells
  rw [getD_take hj]
  exact hc j (by omega)
theorem barters_of_block {w : World} {b : Nat} {l : List Barter} (h : RowBlock w b 46 3 (barterRows l)) : BartersAt w (some ⟨b, 0, none⟩) l.length l := by
  have := h.slAt
  rw [show (barterRows l).length = l.length by simp [barterRows]] at this
  exact ⟨rfl, this.congr fun i hi => by simp [barterRows, List.getD, List.getElem?_map, List.getElem?_eq_getElem hi]⟩
def GoesB (r : Bool) (w : World) (e : Ending) (w' : World) : Prop := ∃ v : Array Value, e = .returned (.tuple #[.agg v, .bool r]) ∧ v.size = 21 ∧ v.all (·.oneCell') = true ∧ Ext w w'
theorem goes_b (a : Option Addr) (n cap : Nat) (l : List Offer) (fa : Option Addr) (fn fc : Nat) (fs : List Fair) (sa : Option Addr) (sc : Nat) (xs : List Int) (ba : Option Addr) (bn bc : Nat) (bs : List Barter) (w : World)
    (hl : OffersAt w a n l) (hf : FairsAt w fa fn fs) (hs : IntsAt .i64 w sa 5 xs) (hp : BartersAt w ba bn bs) (ho : offersOk l = true) (ht : tripOk fs = true) (hxo : stocksOk xs = true) (hbn : bn ≤ 60) :
    Calls Try.prog 35 #[.slice a n cap, .slice fa fn fc, .slice sa 5 sc, .slice ba bn bc, .slice none 0 0] w (GoesB (goesOf l fs xs bs []).isSome w) := by
  refine (goes_any a n cap l fa fn fc fs sa sc xs ba bn bc bs none 0 0 [] w hl hf hs hp ⟨rfl, fun h => by omega⟩ (fun x hx => by cases hx) ho ht hxo hbn (by omega)).mono fun e w' h => ?_
  cases hg : goesOf l fs xs bs [] with
  | none =>
    rw [hg] at h
    obtain ⟨v, h1, h2, h3, h4⟩ := h
    exact ⟨v, h1, h2, h3, h4⟩
  | some t =>
    rw [hg] at h
    obtain ⟨ra, rc, h1, h2, _⟩ := h
    have hl5 : L5 t := by
      unfold goesOf at hg
      cases h0 : goTo l fs xs bs [] bs.length with
      | none => rw [h0] at hg; cases hg
      | some t0 =>
        rw [h0] at hg
        simp only [Option.map_some, Option.some.injEq] at hg
        subst hg
        obtain ⟨r, hr, hok⟩ := goTo_ok ho ht hxo h0
        exact (hok.to (by_ := []) ht (m := fs.length - 1) (by omega) (by omega)).l5
    exact ⟨_, h1, tru_size hl5 _, tru_one, h2⟩
theorem fewRows (bs : List Barter) (k : Nat) (hk : k < bs.length) : barterRows (fewOf bs k) = (barterRows (bs.take (k + 1))).set k ((bs.getD k ⟨0, 0, 0⟩).cells.set 2 (.int .i64 ((bs.getD k ⟨0, 0, 0⟩).times / 2))) := by
  unfold fewOf barterRows
  rw [List.map_set]
  rfl
set_option maxRecDepth 100000 in
set_option maxHeartbeats 4000000 in
theorem shortFew {w w7 : World} {a : Option Addr} {n cap : Nat} {l : List Offer} {fa : Option Addr} {fn fc : Nat} {fs : List Fair} {sa : Option Addr} {sc : Nat} {xs : List Int} {ba : Option Addr} {bn bc k : Nat} {bs : List Barter}
    (hl : OffersAt w7 a n l) (hf : FairsAt w7 fa fn fs) (hs : IntsAt .i64 w7 sa 5 xs) (hp : BartersAt w7 ba bn bs) (hc0 : checkOf l fs = 0) (hxo : stocksOk xs = true) (hbn : bn ≤ 60) (hbc : bn ≤ bc) (hbm : bc ≤ maxLen) (S : ShortFacts l fs xs bs k 63) (h2 : 2 ≤ (bs.getD k ⟨0, 0, 0⟩).times) (hx07 : Ext w w7)
    {u4 u5 u6 u7 u8 u10 u11 u14 u15 u16 u17 u18 u19 u20 u21 u22 u23 u24 u25 u26 u27 u28 u29 u30 u31 u32 u33 u34 u35 u36 u37 u38 u39 u40 u41 u42 u43 u44 u45 u46 u47 u48 u49 u50 u51 u52 u53 u54 u55 u56 u57 u58 u59 u60 u61 u62 u63 u64 u65 u66 u67 u68 u69 u70 u71 u72 u73 u74 u75 u76 u77 u78 u79 u80 u81 u82 u83 u84 u85 u86 u87 u88 u89 u90 u91 u92 u93 u94 u95 u96 u97 u98 u99 u100 u101 u102 u103 u104 u105 u106 u107 u108 u109 u110 u111 u112 u113 u114 u115 u116 u117 u118 u119 u120 u121 u122 u123 u124 u125 u126 u127 u128 u129 u130 u131 u132 u133 u134 u135 u136 u137 u138 u139 u140 u141 u142 u143 u144 u145 u146 u147 u148 u149 u150 u151 u152 u153 u154 u155 u156 u157 u158 u159 u160 u161 u162 u163 u164 u165 u166 u167 u168 u169 u170 u171 u172 u173 u174 u175 u176 u177 u178 u179 u180 u181 u182 u183 u184 u185 u186 u187 u188 u189 u190 u191 u192 u193 u194 u195 u196 u197 u198 u199 u200 u201 : Value} :
    (restFrom Try.f7 25).wp Try.prog (bodyPost Try.prog Try.f7 fun e w' => e = .returned (.bool true) ∧ Ext w w')
      ⟨#[.slice a n cap, .slice fa fn fc, .slice sa 5 sc, .slice ba bn bc, u4, u5, u6, u7, u8, .bool true, u10, u11, .int .i64 k, .int .i64 63, u14, u15, u16, u17, u18, u19, u20, u21, u22, u23, u24, u25, u26, u27, u28, u29, u30, u31, u32, u33, u34, u35, u36, u37, u38, u39, u40, u41, u42, u43, u44, u45, u46, u47, u48, u49, u50, u51, u52, u53, u54, u55, u56, u57, u58, u59, u60, u61, u62, u63, u64, u65, u66, u67, u68, u69, u70, u71, u72, u73, u74, u75, u76, u77, u78, u79, u80, u81, u82, u83, u84, u85, u86, u87, u88, u89, u90, u91, u92, u93, u94, u95, u96, u97, u98, u99, u100, u101, u102, u103, u104, u105, u106, u107, u108, u109, u110, u111, u112, u113, u114, u115, u116, u117, u118, u119, u120, u121, u122, u123, u124, u125, u126, u127, u128, u129, u130, u131, u132, u133, u134, u135, u136, u137, u138, u139, u140, u141, u142, u143, u144, u145, u146, u147, u148, u149, u150, u151, u152, u153, u154, u155, u156, u157, u158, u159, u160, u161, u162, u163, u164, u165, u166, u167, u168, u169, u170, u171, u172, u173, u174, u175, u176, u177, u178, u179, u180, u181, u182, u183, u184, u185, u186, u187, u188, u189, u190, u191, u192, u193, u194, u195, u196, u197, u198, u199, u200, u201], []⟩ w7 := by
  obtain ⟨ho, ht⟩ := checkOf_zero hc0
  have hol := offers_len ho
  have htl := trip_len ht
  have hnl := hl.1
  have hfl := hf.1
  have hbl := hp.1
  have hkb := S.lt
  obtain ⟨bb, bo, b, rfl, hbk, hbb, p0, p1, p2⟩ := hp.get k (by omega)
  have hbe : bs.getD k ⟨0, 0, 0⟩ = b := by simp [List.getD, hbk]
  have hfew := fewRows bs k hkb
  have htm := S.times rfl
  rw [hbe] at hfew h2 htm
  have hl3 : (fewOf bs k).length = k + 1 := by unfold fewOf; rw [List.length_set, List.length_take]; omega
  have hcase := S.few rfl (by rw [hbe]; exact h2)
  have htk := hp.take (k := k + 1) (by omega)
  have hemp := Owns.empty w7 w7.heap.size 46 3 (Nat.le_refl _)
  have hx78 : Ext w7 (w7.alloc (.cells #[] 46)) := (Ext.refl _).alloc _
  have hsrc := (htk.ext hx78).src
  have hrl : (barterRows (bs.take (k + 1))).length = k + 1 := by simp [barterRows]; omega
  have hrk : (barterRows (bs.take (k + 1)))[k]? = some b.cells := by
    simp only [barterRows, List.getElem?_map, List.getElem?_take, if_pos (Nat.lt_succ_self k), hbk]
    rfl
  have hrun := fun W fb fc' (hW : Ext w7 W) (hB : BartersAt W (some ⟨fb, 0, none⟩) (k + 1) (fewOf bs k)) => run_any a n cap l fa fn fc fs sa 5 sc xs (some ⟨fb, 0, none⟩) (k + 1) fc' (fewOf bs k) W (hl.ext hW) (hf.ext hW) (hs.ext hW) hB (by omega) (by omega) (by omega) (by omega)
  have hgo := fun W fb fc' (hW : Ext w7 W) (hB : BartersAt W (some ⟨fb, 0, none⟩) (k + 1) (fewOf bs k)) => goes_b a n cap l fa fn fc fs sa sc xs (some ⟨fb, 0, none⟩) (k + 1) fc' (fewOf bs k) W (hl.ext hW) (hf.ext hW) (hs.ext hW) hB ho ht hxo (by omega)
  obtain ⟨T, hT⟩ : ∃ T, runOf l fs xs (fewOf bs k) = T := ⟨_, rfl⟩
  obtain ⟨C, hC⟩ : ∃ C, (goesOf l fs xs (fewOf bs k) []).isSome = C := ⟨_, rfl⟩
  rw [hT] at hrun hcase
  rw [hC] at hgo
  obtain ⟨h', x', q', e'⟩ := T
  have hcase' : (e' = 0 ∧ C = true) ∨ e' = 9 ∨ (e' = 63 ∧ C = false) := by
    rcases hcase with ⟨h1, t, h2⟩ | h1 | ⟨h1, h2⟩
    · exact .inl ⟨h1, by rw [← hC, h2]; rfl⟩
    · exact .inr (.inl h1)
    · exact .inr (.inr ⟨h1, by rw [← hC, h2]; rfl⟩)
  have Hx07 := Lib.hid hx07
  have Hemp := Lib.hid hemp
  have Hx78 := Lib.hid hx78
  have Hsrc := Lib.hid hsrc
  have Hrl := Lib.hid hrl
  have Hrk := Lib.hid hrk
  have Hrun := Lib.hid hrun
  have Hgo := Lib.hid hgo
  have Hfew := Lib.hid hfew
  have Hl3 := Lib.hid hl3
  clear hx07 hemp hx78 hsrc hrl hrk hrun hgo hfew hl3
  clear hl hf hs hp hc0 hxo ho ht S hcase hT hC htk hbk
  conv => arg 2; whnf
  unfold maxLen at hbm
  go_wp2_with (at_builtin; refine wpList_app elem33 _ rfl (.tmp 151) (.tmp 155) rfl w7.heap.size _ [] rfl Hemp.out (some ⟨bb, bo, none⟩) (k + 1) bc (barterRows (bs.take (k + 1))) rfl Hrl.out Hsrc.out (barterRows_row _) ?_ ?_ ?_)
  · simp only [List.length_nil]; omega
  · have := Hx78.out.size; omega
  · intro v6 w6 ho6 hg6 _
    have hx16 : Ext w7 w6 := Hx78.out.app Hemp.out hg6
    obtain ⟨fb, fc', rfl, _, _, hfb, hrb⟩ := ho6.block (by rw [Hrl.out]; omega)
    rw [Hrl.out]
    have q2 : w6.cell? ⟨fb, k * 3 + 2, none⟩ = some (.int .i64 b.times) := hrb.cell (j := 2) Hrk.out rfl
    have fr := fun j => hrb.free j
    have hset := hrb.set (j := 2) Hrk.out (by omega) (.int .i64 (b.times / 2))
    rw [← Hfew.out] at hset
    have hba := barters_of_block hset
    rw [Hl3.out] at hba
    have hx7s : Ext w7 (w6.setCell ⟨fb, k * 3 + 2, none⟩ (.int .i64 (b.times / 2))) := hx16.setCell (p := ⟨fb, k * 3 + 2, none⟩) hfb _
    have Hba := Lib.hid hba
    have Hx7s := Lib.hid hx7s
    clear hba hx7s
    clear ho6 hg6 hx16 hrb hset Hfew Hemp Hsrc Hx78 Hrk
    go_upto_region 27 with fail
    clear q2 fr
    generalize w6.setCell ⟨fb, k * 3 + 2, none⟩ (.int .i64 (b.times / 2)) = w8 at *
    have hr8 := Hrun.out w8 fb fc' Hx7s.out Hba.out
    have Hr8 := Lib.hid hr8
    clear hr8
    go_upto_region 28 with (go_at_call 19; refine Hr8.out.mono ?_; rintro e w9 ⟨ha, hn9, hc9, xa, xn, xc, rfl, hx9, _, _, _, _⟩)
    have hg9 := Hgo.out w9 fb fc' (Hx7s.out.trans hx9) (Hba.out.ext hx9)
    have hx09 := Hx07.out.trans (Hx7s.out.trans hx9)
    have Hg9 := Lib.hid hg9
    have Hx09 := Lib.hid hx09
    clear hg9 hx09
    clear Hr8 Hgo Hrun hx9 Hba Hx7s
    rcases hcase' with ⟨rfl, rfl⟩ | rfl | ⟨rfl, rfl⟩
    all_goals
      go_wp2_with (first | (go_at_call 35; refine Hg9.out.mono ?_; rintro e w10 ⟨v, rfl, hv1, hv2, hx10⟩; have hz := heap_alloc_new w10 (.cells #[.int .i64 0, .int .i64 0, .int .i64 0, .int .i64 0, .int .i64 0, .int .i64 0, .int .i64 0, .int .i64 0, .int .i64 0, .int .i64 0, .int .i64 0, .int .i64 0, .int .i64 0, .int .i64 0, .int .i64 0, .int .i64 0, .int .i64 0, .int .i64 0, .int .i64 0, .int .i64 0, .slice none 0 0] 66); have cp1 : (Try.prog.info? 66).map (·.size) = some v.size := (by rw [info66, hv1]); have cp2 : (#[.int .i64 0, .int .i64 0, .int .i64 0, .int .i64 0, .int .i64 0, .int .i64 0, .int .i64 0, .int .i64 0, .int .i64 0, .int .i64 0, .int .i64 0, .int .i64 0, .int .i64 0, .int .i64 0, .int .i64 0, .int .i64 0, .int .i64 0, .int .i64 0, .int .i64 0, .int .i64 0, .slice none 0 0] : Array Value).size = v.size := (by rw [hv1]; rfl); have hxs := hx10.trans (below_setRow ((Ext.refl w10).alloc (.cells #[.int .i64 0, .int .i64 0, .int .i64 0, .int .i64 0, .int .i64 0, .int .i64 0, .int .i64 0, .int .i64 0, .int .i64 0, .int .i64 0, .int .i64 0, .int .i64 0, .int .i64 0, .int .i64 0, .int .i64 0, .int .i64 0, .int .i64 0, .int .i64 0, .int .i64 0, .int .i64 0, .slice none 0 0] 66)) (Nat.le_refl _) v)) | (refine wpList_store_row rfl 66 (.tmp 31) (.tmp 181) rfl w10.heap.size v rfl rfl 66 _ hz cp1 cp2 hv2 ?_))
      go_ret
      exact ⟨rfl, Hx09.out.trans hxs⟩
set_option maxRecDepth 100000 in
set_option maxHeartbeats 4000000 in
theorem shortTail {w w7 : World} {a : Option Addr} {n cap : Nat} {l : List Offer} {fa : Option Addr} {fn fc : Nat} {fs : List Fair} {sa : Option Addr} {sc : Nat} {xs : List Int} {ba : Option Addr} {bn bc k : Nat} {bs : List Barter}
    (hl : OffersAt w7 a n l) (hf : FairsAt w7 fa fn fs) (hs : IntsAt .i64 w7 sa 5 xs) (hp : BartersAt w7 ba bn bs) (hc0 : checkOf l fs = 0) (hxo : stocksOk xs = true) (hbn : bn ≤ 60) (hbc : bn ≤ bc) (hbm : bc ≤ maxLen) (S : ShortFacts l fs xs bs k 63) (hx07 : Ext w w7)
    {u4 u5 u6 u7 u8 u10 u11 u14 u15 u16 u17 u18 u19 u20 u21 u22 u23 u24 u25 u26 u27 u28 u29 u30 u31 u32 u33 u34 u35 u36 u37 u38 u39 u40 u41 u42 u43 u44 u45 u46 u47 u48 u49 u50 u51 u52 u53 u54 u55 u56 u57 u58 u59 u60 u61 u62 u63 u64 u65 u66 u67 u68 u69 u70 u71 u72 u73 u74 u75 u76 u77 u78 u79 u80 u81 u82 u83 u84 u85 u86 u87 u88 u89 u90 u91 u92 u93 u94 u95 u96 u97 u98 u99 u100 u101 u102 u103 u104 u105 u106 u107 u108 u109 u110 u111 u112 u113 u114 u115 u116 u117 u118 u119 u120 u121 u122 u123 u124 u125 u126 u127 u128 u129 u130 u131 u132 u133 u134 u135 u136 u137 u138 u139 u140 u141 u142 u143 u144 u145 u146 u147 u148 u149 u150 u151 u152 u153 u154 u155 u156 u157 u158 u159 u160 u161 u162 u163 u164 u165 u166 u167 u168 u169 u170 u171 u172 u173 u174 u175 u176 u177 u178 u179 u180 u181 u182 u183 u184 u185 u186 u187 u188 u189 u190 u191 u192 u193 u194 u195 u196 u197 u198 u199 u200 u201 : Value} :
    (restFrom Try.f7 17).wp Try.prog (bodyPost Try.prog Try.f7 fun e w' => e = .returned (.bool true) ∧ Ext w w')
      ⟨#[.slice a n cap, .slice fa fn fc, .slice sa 5 sc, .slice ba bn bc, u4, u5, u6, u7, u8, .bool true, u10, u11, .int .i64 k, .int .i64 63, u14, u15, u16, u17, u18, u19, u20, u21, u22, u23, u24, u25, u26, u27, u28, u29, u30, u31, u32, u33, u34, u35, u36, u37, u38, u39, u40, u41, u42, u43, u44, u45, u46, u47, u48, u49, u50, u51, u52, u53, u54, u55, u56, u57, u58, u59, u60, u61, u62, u63, u64, u65, u66, u67, u68, u69, u70, u71, u72, u73, u74, u75, u76, u77, u78, u79, u80, u81, u82, u83, u84, u85, u86, u87, u88, u89, u90, u91, u92, u93, u94, u95, u96, u97, u98, u99, u100, u101, u102, u103, u104, u105, u106, u107, u108, u109, u110, u111, u112, u113, u114, u115, u116, u117, u118, u119, u120, u121, u122, u123, u124, u125, u126, u127, u128, u129, u130, u131, u132, u133, u134, u135, u136, u137, u138, u139, u140, u141, u142, u143, u144, u145, u146, u147, u148, u149, u150, u151, u152, u153, u154, u155, u156, u157, u158, u159, u160, u161, u162, u163, u164, u165, u166, u167, u168, u169, u170, u171, u172, u173, u174, u175, u176, u177, u178, u179, u180, u181, u182, u183, u184, u185, u186, u187, u188, u189, u190, u191, u192, u193, u194, u195, u196, u197, u198, u199, u200, u201], []⟩ w7 := by
  obtain ⟨ho, ht⟩ := checkOf_zero hc0
  have hbl := hp.1
  have hkb := S.lt
  obtain ⟨bb, bo, b, rfl, hbk, hbb, p0, p1, p2⟩ := hp.get k (by omega)
  have hbe : bs.getD k ⟨0, 0, 0⟩ = b := by simp [List.getD, hbk]
  have hg1 := fun W (hW : Ext w7 W) => goes_b a n cap l fa fn fc fs sa sc xs (some ⟨bb, bo, none⟩) k bc (bs.take k) W (hl.ext hW) (hf.ext hW) (hs.ext hW) ((hp.take (by omega)).ext hW) ho ht hxo (by omega)
  have hg2 := fun W (hW : Ext w7 W) => goes_b a n cap l fa fn fc fs sa sc xs (some ⟨bb, bo, none⟩) (k + 1) bc (bs.take (k + 1)) W (hl.ext hW) (hf.ext hW) (hs.ext hW) ((hp.take (by omega)).ext hW) ho ht hxo (by omega)
  obtain ⟨t, ht1⟩ := S.can
  rw [ht1] at hg1
  rw [S.no rfl] at hg2
  simp only [Option.isSome_some, Option.isSome_none] at hg1 hg2
  have hfew := fun W (hW : Ext w7 W) (h2 : 2 ≤ (bs.getD k ⟨0, 0, 0⟩).times) => @shortFew w W a n cap l fa fn fc fs sa sc xs (some ⟨bb, bo, none⟩) bn bc k bs (hl.ext hW) (hf.ext hW) (hs.ext hW) (hp.ext hW) hc0 hxo hbn hbc hbm S h2 (hx07.trans hW)
  rw [hbe] at hfew
  have htm := S.times rfl
  rw [hbe] at htm
  unfold maxLen at hbm
  have hkn : k < bn := by omega
  have Hx07 := Lib.hid hx07
  have Hg1 := Lib.hid hg1
  have Hg2 := Lib.hid hg2
  have Hfew := Lib.hid hfew
  clear hx07 hg1 hg2 hfew
  clear hl hf hs hp hc0 hxo ho ht S ht1 hbe hbk p0 p1
  conv => arg 2; whnf
  go_upto_region 18 with (first | (go_at_call 35; refine (Hg1.out _ (Ext.refl _)).mono ?_; rintro e w1 ⟨v, rfl, hv1, hv2, hx⟩; have hz := heap_alloc_new w1 (.cells #[.int .i64 0, .int .i64 0, .int .i64 0, .int .i64 0, .int .i64 0, .int .i64 0, .int .i64 0, .int .i64 0, .int .i64 0, .int .i64 0, .int .i64 0, .int .i64 0, .int .i64 0, .int .i64 0, .int .i64 0, .int .i64 0, .int .i64 0, .int .i64 0, .int .i64 0, .int .i64 0, .slice none 0 0] 66); have cp1 : (Try.prog.info? 66).map (·.size) = some v.size := (by rw [info66, hv1]); have cp2 : (#[.int .i64 0, .int .i64 0, .int .i64 0, .int .i64 0, .int .i64 0, .int .i64 0, .int .i64 0, .int .i64 0, .int .i64 0, .int .i64 0, .int .i64 0, .int .i64 0, .int .i64 0, .int .i64 0, .int .i64 0, .int .i64 0, .int .i64 0, .int .i64 0, .int .i64 0, .int .i64 0, .slice none 0 0] : Array Value).size = v.size := (by rw [hv1]; rfl); have hxs := hx.trans (below_setRow ((Ext.refl w1).alloc (.cells #[.int .i64 0, .int .i64 0, .int .i64 0, .int .i64 0, .int .i64 0, .int .i64 0, .int .i64 0, .int .i64 0, .int .i64 0, .int .i64 0, .int .i64 0, .int .i64 0, .int .i64 0, .int .i64 0, .int .i64 0, .int .i64 0, .int .i64 0, .int .i64 0, .int .i64 0, .int .i64 0, .slice none 0 0] 66)) (Nat.le_refl _) v)) | (refine wpList_store_row rfl 66 (.tmp 22) (.tmp 128) rfl w1.heap.size v rfl rfl 66 _ hz cp1 cp2 hv2 ?_))
  have hx78 := hxs
  clear hv1 hv2 hz cp1 cp2 hx hxs
  generalize (w1.alloc (.cells #[.int .i64 0, .int .i64 0, .int .i64 0, .int .i64 0, .int .i64 0, .int .i64 0, .int .i64 0, .int .i64 0, .int .i64 0, .int .i64 0, .int .i64 0, .int .i64 0, .int .i64 0, .int .i64 0, .int .i64 0, .int .i64 0, .int .i64 0, .int .i64 0, .int .i64 0, .int .i64 0, .slice none 0 0] 66)).setRow w1.heap.size v = w8 at *
  have Hx78 := Lib.hid hx78
  clear hx78
  go_upto_region 21 with (first | (go_at_call 35; refine (Hg2.out _ Hx78.out).mono ?_; rintro e w2 ⟨v, rfl, hv1, hv2, hx⟩; have hz := heap_alloc_new w2 (.cells #[.int .i64 0, .int .i64 0, .int .i64 0, .int .i64 0, .int .i64 0, .int .i64 0, .int .i64 0, .int .i64 0, .int .i64 0, .int .i64 0, .int .i64 0, .int .i64 0, .int .i64 0, .int .i64 0, .int .i64 0, .int .i64 0, .int .i64 0, .int .i64 0, .int .i64 0, .int .i64 0, .slice none 0 0] 66); have cp1 : (Try.prog.info? 66).map (·.size) = some v.size := (by rw [info66, hv1]); have cp2 : (#[.int .i64 0, .int .i64 0, .int .i64 0, .int .i64 0, .int .i64 0, .int .i64 0, .int .i64 0, .int .i64 0, .int .i64 0, .int .i64 0, .int .i64 0, .int .i64 0, .int .i64 0, .int .i64 0, .int .i64 0, .int .i64 0, .int .i64 0, .int .i64 0, .int .i64 0, .int .i64 0, .slice none 0 0] : Array Value).size = v.size := (by rw [hv1]; rfl); have hxs := hx.trans (below_setRow ((Ext.refl w2).alloc (.cells #[.int .i64 0, .int .i64 0, .int .i64 0, .int .i64 0, .int .i64 0, .int .i64 0, .int .i64 0, .int .i64 0, .int .i64 0, .int .i64 0, .int .i64 0, .int .i64 0, .int .i64 0, .int .i64 0, .int .i64 0, .int .i64 0, .int .i64 0, .int .i64 0, .int .i64 0, .int .i64 0, .slice none 0 0] 66)) (Nat.le_refl _) v)) | (refine wpList_store_row rfl 66 (.tmp 24) (.tmp 141) rfl w2.heap.size v rfl rfl 66 _ hz cp1 cp2 hv2 ?_))
  have hx79 := Hx78.out.trans hxs
  clear hv1 hv2 hz cp1 cp2 hx hxs Hx78 Hg1 Hg2
  generalize (w2.alloc (.cells #[.int .i64 0, .int .i64 0, .int .i64 0, .int .i64 0, .int .i64 0, .int .i64 0, .int .i64 0, .int .i64 0, .int .i64 0, .int .i64 0, .int .i64 0, .int .i64 0, .int .i64 0, .int .i64 0, .int .i64 0, .int .i64 0, .int .i64 0, .int .i64 0, .int .i64 0, .int .i64 0, .slice none 0 0] 66)).setRow w2.heap.size v = w9 at *
  have p2 := hx79.cell p2
  by_cases h2 : b.times < 2
  · have h2B : decide (b.times < 2) = true := decide_eq_true h2
    have Hx79 := Lib.hid hx79
    clear hx79
    go_wp2_with fail
    go_ret
    exact ⟨rfl, Hx07.out.trans Hx79.out⟩
  · have h2B : decide (b.times < 2) = false := decide_eq_false h2
    have Hx79 := Lib.hid hx79
    clear hx79
    go_upto_if 149 with fail
    iterate 4 go_step
    exact Hfew.out _ Hx79.out (by omega)
end Go.Proofs.Ytkbhmajcddmhnaa

/- The law MarketShort. -/
namespace Go.Proofs.Ytkbhmajcddmhnaa
open Go.RowKit
set_option linter.unusedVariables false
set_option linter.unusedSimpArgs false

set_option maxRecDepth 100000 in
set_option maxHeartbeats 4000000 in
theorem lawShort_any (a : Option Addr) (n cap : Nat) (l : List Offer) (fa : Option Addr) (fn fc : Nat) (fs : List Fair) (sa : Option Addr) (sn sc : Nat) (xs : List Int) (ba : Option Addr) (bn bc : Nat) (bs : List Barter) (w : World)
    (hl : OffersAt w a n l) (hf : FairsAt w fa fn fs) (hs : IntsAt .i64 w sa sn xs) (hp : BartersAt w ba bn bs) (hn : n ≤ maxLen) (hfn : fn ≤ maxLen) (hsn : sn ≤ maxLen) (hbn : bn ≤ maxLen) (hbc : bn ≤ bc) (hbm : bc ≤ maxLen) :
    Calls Try.prog 7 #[.slice a n cap, .slice fa fn fc, .slice sa sn sc, .slice ba bn bc] w fun e w' => e = .returned (.bool true) ∧ Ext w w' := by
  have hal := fun W => alive_any W
  have hrd := fun W (hW : Ext w W) => ready_any a n cap l fa fn fc fs W (hl.ext hW) (hf.ext hW) hn hfn
  have hst := fun W (hW : Ext w W) => stocks_all sa sn sc xs W (hs.ext hW) hsn
  unfold maxLen at hn hfn hsn hbn
  cases hr : readyB l fs with
  | false =>
    rw [hr] at hrd
    have Hal := Lib.hid hal
    have Hrd := Lib.hid hrd
    clear hal hrd
    clear hl hf hr hs hp hst
    go_enter Try.func7, Try.ntmps7
    go_wp2_with (first | (go_at_call 32; refine (Hal.out _).mono ?_; rintro e w1 ⟨rfl, hx1⟩) | (go_at_call 33; refine (Hrd.out _ hx1).mono ?_; rintro e w2 ⟨rfl, hx2⟩; have hx02 := hx1.trans hx2) | (go_at_call 34; refine (Hst.out _ hx02).mono ?_; rintro e w3 ⟨rfl, hx3⟩; have hx03 := hx02.trans hx3))
    go_ret
    exact ⟨rfl, hx02⟩
  | true =>
  have hr2 := hr
  simp only [readyB, Bool.and_eq_true, Bool.not_eq_true', decide_eq_true_eq] at hr2
  obtain ⟨ho, ht⟩ := checkOf_zero hr2.2
  rw [hr] at hrd
  have hc0 := hr2.2
  clear hr hr2
  cases hxo : stocksOk xs with
  | false =>
    rw [hxo] at hst
    have Hal := Lib.hid hal
    have Hrd := Lib.hid hrd
    have Hst := Lib.hid hst
    clear hal hrd hst
    clear hl hf hs hp hxo ho ht hc0
    go_enter Try.func7, Try.ntmps7
    go_wp2_with (first | (go_at_call 32; refine (Hal.out _).mono ?_; rintro e w1 ⟨rfl, hx1⟩) | (go_at_call 33; refine (Hrd.out _ hx1).mono ?_; rintro e w2 ⟨rfl, hx2⟩; have hx02 := hx1.trans hx2) | (go_at_call 34; refine (Hst.out _ hx02).mono ?_; rintro e w3 ⟨rfl, hx3⟩; have hx03 := hx02.trans hx3))
    go_ret
    exact ⟨rfl, hx03⟩
  | true =>
  rw [hxo] at hst
  by_cases b1 : 60 < bn
  · have b1' : decide ((60 : Int) < (bn : Int)) = true := by simp; omega
    have Hal := Lib.hid hal
    have Hrd := Lib.hid hrd
    have Hst := Lib.hid hst
    clear hal hrd hst
    clear hl hf hs hp hxo ho ht hc0
    go_enter Try.func7, Try.ntmps7
    go_wp2_with (first | (go_at_call 32; refine (Hal.out _).mono ?_; rintro e w1 ⟨rfl, hx1⟩) | (go_at_call 33; refine (Hrd.out _ hx1).mono ?_; rintro e w2 ⟨rfl, hx2⟩; have hx02 := hx1.trans hx2) | (go_at_call 34; refine (Hst.out _ hx02).mono ?_; rintro e w3 ⟨rfl, hx3⟩; have hx03 := hx02.trans hx3))
    go_ret
    exact ⟨rfl, hx03⟩
  have b1' : decide ((60 : Int) < (bn : Int)) = false := by simp; omega
  have hnl := hl.1
  have hfl := hf.1
  have hsl := hs.1
  have hbl := hp.1
  have hol := offers_len ho
  have htl := trip_len ht
  have hn10 : n ≤ 10 := by omega
  have hfn5 : fn ≤ 5 := by omega
  have hs5 : xs.length = 5 := by simp only [stocksOk, Bool.and_eq_true, decide_eq_true_eq] at hxo; exact hxo.1
  have hsn5 : sn ≤ 1000000 := by omega
  have hrun := fun W (hW : Ext w W) => run_any a n cap l fa fn fc fs sa sn sc xs ba bn bc bs W (hl.ext hW) (hf.ext hW) (hs.ext hW) (hp.ext hW) (by omega) (by omega) (by omega) (by omega)
  obtain ⟨T, hT⟩ : ∃ T, runOf l fs xs bs = T := ⟨_, rfl⟩
  rw [hT] at hrun
  obtain ⟨h, x, q, e⟩ := T
  by_cases he : e = 0
  case pos =>
    subst he
    have Hal := Lib.hid hal
    have Hrd := Lib.hid hrd
    have Hst := Lib.hid hst
    have Hrun := Lib.hid hrun
    clear hal hrd hst hrun
    clear hl hf hs hp hxo ho ht hc0 hT hs5 hbl hsl hnl hfl
    go_enter Try.func7, Try.ntmps7
    go_wp2_with (first | (go_at_call 32; refine (Hal.out _).mono ?_; rintro e w1 ⟨rfl, hx1⟩) | (go_at_call 33; refine (Hrd.out _ hx1).mono ?_; rintro e w2 ⟨rfl, hx2⟩; have hx02 := hx1.trans hx2) | (go_at_call 34; refine (Hst.out _ hx02).mono ?_; rintro e w3 ⟨rfl, hx3⟩; have hx03 := hx02.trans hx3) | (go_at_call 19; refine (Hrun.out _ hx03).mono ?_; rintro e w4 ⟨ha, hn4, hc4, xa, xn, xc, rfl, hx4, _, _, _, _⟩; have hx04 := hx03.trans hx4))
    go_ret
    exact ⟨rfl, hx04⟩
  case neg =>
    have heB : (e == 0) = false := by rw [beq_eq_false_iff_ne]; exact he
    obtain ⟨rfl, rfl, k, rfl, S⟩ := short_of hc0 hxo (by omega) hT he
    obtain rfl : sn = 5 := by omega
    have hkb := S.lt
    have hkn : k < bn := by omega
    have hk1 : decide ((k : Int) < 0) = false := decide_eq_false (by omega)
    have hk2 : decide (bn ≤ k) = false := decide_eq_false (by omega)
    have hk3 : decide ((bn : Int) ≤ (k : Int)) = false := decide_eq_false (by omega)
    obtain ⟨bb, bo, b, rfl, hbk, hbb, p0, p1, p2⟩ := hp.get k hkn
    have hrun1 := fun W (hW : Ext w W) => run_any a n cap l fa fn fc fs sa 5 sc xs (some ⟨bb, bo, none⟩) k bc (bs.take k) W (hl.ext hW) (hf.ext hW) (hs.ext hW) ((hp.take (by omega)).ext hW) (by omega) (by omega) (by omega) (by omega)
    have hrun2 := fun W (hW : Ext w W) => run_any a n cap l fa fn fc fs sa 5 sc xs (some ⟨bb, bo, none⟩) (k + 1) bc (bs.take (k + 1)) W (hl.ext hW) (hf.ext hW) (hs.ext hW) ((hp.take (by omega)).ext hW) (by omega) (by omega) (by omega) (by omega)
    obtain ⟨T1, hT1⟩ : ∃ T, runOf l fs xs (bs.take k) = T := ⟨_, rfl⟩
    have hb1 := S.before
    rw [hT1] at hrun1 hb1
    obtain ⟨h1, x1, q1, e1⟩ := T1
    simp only at hb1
    subst hb1
    rw [S.upto] at hrun2
    have herr := S.err
    have hbm' := hbm
    unfold maxLen at hbm'
    have htail := fun W (hW : Ext w W) (h63 : e = 63) => @shortTail w W a n cap l fa fn fc fs sa sc xs (some ⟨bb, bo, none⟩) bn bc k bs (hl.ext hW) (hf.ext hW) (hs.ext hW) (hp.ext hW) hc0 hxo (by omega) hbc hbm (by rw [← h63]; exact S) hW
    have Hal := Lib.hid hal
    have Hrd := Lib.hid hrd
    have Hst := Lib.hid hst
    have Hrun := Lib.hid hrun
    have Hrun1 := Lib.hid hrun1
    have Hrun2 := Lib.hid hrun2
    have Htail := Lib.hid htail
    clear hal hrd hst hrun hrun1 hrun2 htail
    clear hl hf hs hp hxo ho ht hc0 hT hs5 hbl hsl hnl hfl S hbk p0 p1 p2 hT1
    go_enter Try.func7, Try.ntmps7
    go_upto_region 9 with (first | (go_at_call 32; refine (Hal.out _).mono ?_; rintro e w1 ⟨rfl, hx1⟩) | (go_at_call 33; refine (Hrd.out _ hx1).mono ?_; rintro e w2 ⟨rfl, hx2⟩; have hx02 := hx1.trans hx2) | (go_at_call 34; refine (Hst.out _ hx02).mono ?_; rintro e w3 ⟨rfl, hx3⟩; have hx03 := hx02.trans hx3) | (go_at_call 19; refine (Hrun.out _ hx03).mono ?_; rintro e w4 ⟨ha, hn4, hc4, xa, xn, xc, rfl, hx4, _, _, _, _⟩; have hx04 := hx03.trans hx4))
    clear Hrun
    go_upto_region 12 with (go_at_call 19; refine (Hrun1.out _ hx04).mono ?_; rintro e w5 ⟨ha5, hn5, hc5, xa5, xn5, xc5, rfl, hx5, _, _, _, _⟩; have hx05 := hx04.trans hx5)
    clear Hrun1
    go_upto_region 15 with (go_at_call 19; refine (Hrun2.out _ hx05).mono ?_; rintro e w6 ⟨ha6, hn6, hc6, xa6, xn6, xc6, rfl, hx6, _, _, _, _⟩; have hx06 := hx05.trans hx6)
    rcases herr with rfl | rfl | rfl
    · go_wp2_with fail
      go_ret
      exact ⟨rfl, hx06⟩
    · go_upto_if 110 with fail
      iterate 4 go_step
      exact Htail.out _ hx06 rfl
    · go_wp2_with fail
      go_ret
      exact ⟨rfl, hx06⟩
end Go.Proofs.Ytkbhmajcddmhnaa

/- It is proved that MarketShort returns true whatever the input, and that the input reads as it did. No conditions. -/
namespace Go.Proofs.Ytkbhmajcddmhnaa.marketShortDone
open Go.ChangeShapes Go.WideShapes Go.ChangeAt Go.RowKit
open Go.ChangeMaps (open_string shut_string)
set_option linter.unusedVariables false

theorem own : ownKnob Try.prog.godebug = none := by kernel_rfl
theorem laidOut : laidOutB Try.prog = true := by kernel_rfl

set_option maxRecDepth 100000 in
theorem lifted (os : Os) (started : os.Started) (H : Type) (enc : TypeId × Value → H) :
    ReturnsInHanded {} Try.checked os 7 .any (Rows.marketShortSpec.pre6 enc Try.prog Try.f7 Rows.marketShortRow.domain false) (Rows.marketShortSpec.post enc Try.prog Try.f7 false true false false) := by
  refine returnsInHanded_of_change (C := Try.checked) own started (by kernel_rfl) Try.func7
    (ChangeSpec.witness6 (enc := enc) (C := Try.checked) false ⟨#[], #[.slice none 0 0, .slice none 0 0, .slice none 0 0, .slice none 0 0], []⟩ 8 (by kernel_rfl) (by kernel_rfl) (by kernel_rfl) (by kernel_rfl)) ?_
  intro W base args ds gs before hval0 hW hcnd _
  have hval : ∀ (j : Nat) t v, Try.f7.params[j]? = some t → args[j]? = some v → Value.okWide Try.prog W .any base t v := hval0
  have hW' := hW
  obtain ⟨p, q, hA0, hV, rfl, hfz, hnd⟩ := hW
  have hA : DataW.TrodAll enc Try.prog W 0 (fun _ => true) true Try.f7.params.toList args.toList ds p := hA0
  rw [Try.params7] at hA hval
  obtain ⟨v0, vs0, d0, ds0, p0, q0, hargs, rfl, rfl, h0, r0⟩ := trodAll_cons hA
  obtain ⟨v1, vs1, d1, ds1, p1, q1, rfl, rfl, rfl, h1, r1⟩ := trodAll_cons r0
  obtain ⟨v2, vs2, d2, ds2, p2, q2, rfl, rfl, rfl, h2, r2⟩ := trodAll_cons r1
  obtain ⟨v3, vs3, d3, ds3, p3, q3, rfl, rfl, rfl, h3, r3⟩ := trodAll_cons r2
  obtain ⟨rfl, rfl, rfl⟩ := trodAll_nil r3
  obtain rfl : args = #[v0, v1, v2, v3] := by cases args; simp_all
  obtain ⟨rfl, rfl⟩ := trodVars_none hV
  obtain ⟨a0, len0, cap0, rfl⟩ := okWide_slice Try.underlying22 (hval 0 22 v0 rfl rfl)
  have k0 := h0
  have lt0 : ∀ x ∈ p0, x.block < W.heap.size := by obtain ⟨m, hm⟩ := k0; exact DataW.trod_lt m _ _ _ hm
  obtain ⟨lc0, cm0, l0, w0⟩ : len0 ≤ cap0 ∧ cap0 ≤ maxLen ∧ ∃ l, OffersAt W a0 len0 l := by
    obtain ⟨fuel, hf⟩ := h0
    exact take_offers hf
  obtain ⟨a1, len1, cap1, rfl⟩ := okWide_slice Try.underlying23 (hval 1 23 v1 rfl rfl)
  have k1 := h1
  have lt1 : ∀ x ∈ p1, x.block < W.heap.size := by obtain ⟨m, hm⟩ := k1; exact DataW.trod_lt m _ _ _ hm
  obtain ⟨lc1, cm1, l1, w1⟩ : len1 ≤ cap1 ∧ cap1 ≤ maxLen ∧ ∃ l, FairsAt W a1 len1 l := by
    obtain ⟨fuel, hf⟩ := h1
    exact take_fairs hf
  obtain ⟨a2, len2, cap2, rfl⟩ := okWide_slice Try.underlying24 (hval 2 24 v2 rfl rfl)
  have k2 := h2
  have lt2 : ∀ x ∈ p2, x.block < W.heap.size := by obtain ⟨m, hm⟩ := k2; exact DataW.trod_lt m _ _ _ hm
  obtain ⟨lc2, cm2, l2, w2⟩ : len2 ≤ cap2 ∧ cap2 ≤ maxLen ∧ ∃ l, IntsAt .i64 W a2 len2 l ∧ ∀ i ∈ l, (Lit.int .i64 i).wf = true := by
    obtain ⟨fuel, hf⟩ := h2
    exact take_ints Try.underlying24 Try.underlying3 (by kernel_rfl) hf
  obtain ⟨a3, len3, cap3, rfl⟩ := okWide_slice Try.underlying33 (hval 3 33 v3 rfl rfl)
  have k3 := h3
  have lt3 : ∀ x ∈ p3, x.block < W.heap.size := by obtain ⟨m, hm⟩ := k3; exact DataW.trod_lt m _ _ _ hm
  obtain ⟨lc3, cm3, l3, w3⟩ : len3 ≤ cap3 ∧ cap3 ≤ maxLen ∧ ∃ l, BartersAt W a3 len3 l := by
    obtain ⟨fuel, hf⟩ := h3
    exact take_barters hf
  clear hA0 hval0
  refine (lawShort_any a0 len0 cap0 l0 a1 len1 cap1 l1 a2 len2 cap2 l2 a3 len3 cap3 l3 W w0 w1 w2.1 w3 (Nat.le_trans lc0 cm0) (Nat.le_trans lc1 cm1) (Nat.le_trans lc2 cm2) (Nat.le_trans lc3 cm3) lc3 cm3).mono fun e W' ⟨he, bel⟩ => ?_
  subst he
  exact ⟨_, rfl, _, _, _, [], _, [], hW', trodAll_mk1 (shut_bool Try.underlying4 _), (trodAll_cons_mk (Below.trod laidOut (by kernel_rfl) (of_decide_eq_true (by kernel_rfl)) k0 bel lt0) (trodAll_cons_mk (Below.trod laidOut (by kernel_rfl) (of_decide_eq_true (by kernel_rfl)) k1 bel lt1) (trodAll_cons_mk (Below.trod laidOut (by kernel_rfl) (of_decide_eq_true (by kernel_rfl)) k2 bel lt2) (trodAll_cons_mk (Below.trod laidOut (by kernel_rfl) (of_decide_eq_true (by kernel_rfl)) k3 bel lt3) trodAll_mk0)))), rfl, bel.frame _, fun h => by cases h⟩

theorem over : Rows.marketShortRow.holds Try.pinned (OpenSpec.ofChange Rows.marketShortSpec) :=
  OpenClaim.holds_of_wide 7 Try.f7 rfl rfl rfl rfl rfl rfl rfl ⟨rfl, rfl, rfl, rfl, rfl⟩ rfl rfl rfl rfl rfl (by kernel_rfl) Try.func7 (by kernel_rfl)
    (of_decide_eq_true (by kernel_rfl)) (by unfold Func.isWrapper; first | (rw [if_pos (by decide +kernel)]; kernel_rfl) | (rw [if_neg (by decide +kernel)]; exact ⟨rfl, rfl⟩))
    (fun os started H enc _ => lifted os started H enc)

theorem proved : Rows.MarketShortSaid := over
#print axioms proved
end Go.Proofs.Ytkbhmajcddmhnaa.marketShortDone
