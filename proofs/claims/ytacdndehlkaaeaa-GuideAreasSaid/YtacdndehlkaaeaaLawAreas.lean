/- The law GuideAreas. -/
import Derived.Test.YtacdndehlkaaeaaBndF
import Derived.Test.YtacdndehlkaaeaaKnown
import Derived.Test.YtacdndehlkaaeaaRefSame
import Derived.Test.YtacdndehlkaaeaaLawLooks
namespace Go.Proofs.Ytacdndehlkaaeaa
open Go.RowKit
set_option linter.unusedVariables false
set_option linter.unusedSimpArgs false
theorem start_len (e n : Span) : (startOf e n).1.length ≤ 4 := by
  unfold startOf
  split
  · exact Nat.le_refl 4
  · exact Nat.zero_le _
set_option maxRecDepth 100000 in
set_option maxHeartbeats 8000000 in
theorem lawAreas_any (a : Option Addr) (len cap : Nat) (l : List Half) (e n : Span) (x y far : Int) (w : World) (hl : HalvesAt w a len l) (hc : len ≤ cap) (hm : cap ≤ maxLen) :
    Calls Try.prog 4 #[.agg #[.slice a len cap], e.val, n.val, .int .i64 x, .int .i64 y, .int .i64 far] w fun e w' => e = .returned (.bool true) ∧ Ext w w' := by
  have hgr := fun W => great_any a len cap W
  have hll := hl.1
  have hst := fun W => start_any e n W
  have hrst := fun W => rstart_any e n W
  have hbn := fun W oa oc (hO : HalvesAt W oa len l) (h1' : len ≤ oc) (h2 : oc ≤ maxLen) => boundsF_any oa len oc l W hO h1' h2
  have hrbn := fun W (hW : Ext w W) (h : len ≤ 60) => rbounds_any a len cap l W (hl.ext hW) (by omega)
  have hne := fun W oa oc (hO : HalvesAt W oa len l) (h1' : len ≤ oc) (h2 : oc ≤ maxLen) => nearF_any oa len oc l x y far W hO h1' h2
  have hrne := fun W (hW : Ext w W) (h : len ≤ 60) => rnear_any a len cap l x y far W (hl.ext hW) (by omega)
  have hck := fun W oa oc (hO : HalvesAt W oa len l) (h : len ≤ 60) => check_any oa len oc l W hO (by omega)
  have hrck := fun W (hW : Ext w W) (h : len ≤ 60) => rcheck_any a len cap l W (hl.ext hW) (by omega)
  have htw := fun W (hW : Ext w W) (h : len ≤ 60) => twin_any a len cap l W (hl.ext hW) (by omega)
  have hsaA := fun W oa oc (hW : Ext w W) (hO : HalvesAt W oa len l) (h : len ≤ 60) => sameArea_any oa a len len oc cap l l W hO (hl.ext hW) (by omega)
  have hsl := start_len e n
  unfold AreaOwn at hst hrst
  unfold BoundsPost at hbn hrbn
  unfold NearPost at hne hrne
  obtain ⟨S, hS⟩ : ∃ S, startOf e n = S := ⟨_, rfl⟩
  obtain ⟨B, hB⟩ : ∃ B, boundsOf l = B := ⟨_, rfl⟩
  obtain ⟨N, hN⟩ : ∃ N, nearOf l x y far = N := ⟨_, rfl⟩
  obtain ⟨K, hK⟩ : ∃ K, checkOf l = K := ⟨_, rfl⟩
  rw [hS] at hst hrst hsl
  rw [hB] at hbn hrbn
  rw [hN] at hne hrne
  rw [hK] at hck hrck
  obtain ⟨SL, SE⟩ := S
  obtain ⟨⟨be0, be1⟩, ⟨bn0, bn1⟩, BE⟩ := B
  obtain ⟨NK, NE⟩ := N
  obtain ⟨e0, e1⟩ := e
  obtain ⟨n0, n1⟩ := n
  unfold Span.val at *
  simp only at hst hrst hbn hrbn hne hrne hsl ⊢
  obtain ⟨M, hM⟩ : ∃ M, SL.length = M := ⟨_, rfl⟩
  rw [hM] at hsl
  have hsame := fun W (b : Option Addr) bc (c : Option Addr) cc (h1 : HalvesAt W b M SL) (h2 : HalvesAt W c M SL) => sameArea_any b c M M bc cc SL SL W h1 h2 (by omega)
  simp only [decide_true] at hsame hsaA
  obtain ⟨W0, hW0⟩ : ∃ W0, ((w.alloc (.cells #[.slice a len cap] 24)).alloc (.cells #[.int .i64 e0, .int .i64 e1] 28)).alloc (.cells #[.int .i64 n0, .int .i64 n1] 28) = W0 := ⟨_, rfl⟩
  have hx0 : Ext w W0 := by rw [← hW0]; exact (((Ext.refl w).alloc _).alloc _).alloc _
  have ha0 : W0.heap[w.heap.size]? = some (.cells #[.slice a len cap] 24 (0, 0)) := by rw [← hW0]; exact (((Ext.refl _).alloc _).alloc _).heap (heap_alloc_new w _)
  have he0 : W0.heap[w.heap.size + 1]? = some (.cells #[.int .i64 e0, .int .i64 e1] 28 (0, 0)) := by rw [← hW0]; exact ((Ext.refl _).alloc _).heap (alloc_at _ _ _ (by simp))
  have hn0 : W0.heap[w.heap.size + 1 + 1]? = some (.cells #[.int .i64 n0, .int .i64 n1] 28 (0, 0)) := by rw [← hW0]; exact alloc_at _ _ _ (by simp)
  obtain ⟨z0, _⟩ := (Ext.refl W0).box ha0
  have Hx0 := Lib.hid hx0
  have Ha0 := Lib.hid ha0
  have He0 := Lib.hid he0
  have Hn0 := Lib.hid hn0
  have Hll := Lib.hid hll
  clear hx0 ha0 he0 hn0 hll
  by_cases hg : 60 < len
  · have hgB : decide (60 < len) = true := decide_eq_true hg
    rw [hgB] at hgr
    have Hgr := Lib.hid hgr
    clear hgr
    clear hl hst hrst hbn hrbn hne hrne hck hrck htw hsaA hsame hgB
    go_enter Try.func4, Try.ntmps4
    go_wp2_with (go_at_call 14; refine (Hgr.out _).mono ?_; rintro e w1 ⟨rfl, hx1⟩)
    go_ret
    exact ⟨rfl, Hx0.out.trans hx1⟩
  have hgB : decide (60 < len) = false := decide_eq_false hg
  rw [hgB] at hgr
  replace hrbn := fun W hW => hrbn W hW (by omega)
  replace hrne := fun W hW => hrne W hW (by omega)
  replace hrck := fun W hW => hrck W hW (by omega)
  replace hck := fun W oa oc hO => hck W oa oc hO (by omega)
  replace htw := fun W hW => htw W hW (by omega)
  replace hsaA := fun W oa oc hW hO => hsaA W oa oc hW hO (by omega)
  have Hgr := Lib.hid hgr
  have Hl := Lib.hid hl
  have Hst := Lib.hid hst
  have Hrst := Lib.hid hrst
  have Hbn := Lib.hid hbn
  have Hrbn := Lib.hid hrbn
  have Hne := Lib.hid hne
  have Hrne := Lib.hid hrne
  have Hck := Lib.hid hck
  have Hrck := Lib.hid hrck
  have Htw := Lib.hid htw
  have HsaA := Lib.hid hsaA
  have Hsame := Lib.hid hsame
  have HM := Lib.hid hM
  clear hgr hl hst hrst hbn hrbn hne hrne hck hrck htw hsaA hsame hM
  clear hgB hS hB hN hK
  go_enter Try.func4, Try.ntmps4
  go_upto_region 10 with (first
    | (go_at_call 14; refine (Hgr.out _).mono ?_; rintro e w1 ⟨rfl, hx1⟩; have hx01 := Hx0.out.trans hx1; have ha1 := hx1.heap Ha0.out; obtain ⟨z1, _⟩ := (Ext.refl w1).box ha1; clear z0 hW0)
    | (go_at_call 15; refine (Htw.out _ hx01).mono ?_; rintro e w2 ⟨oa, oc, rfl, o1, o2, hx2, hO2, _⟩; have hx12 := hx1.trans hx2; have He2 := Lib.hid (hx12.heap He0.out); have Hn2 := Lib.hid (hx12.heap Hn0.out); have Ha2 := Lib.hid (hx12.heap Ha0.out); obtain ⟨ze, _⟩ := (Ext.refl w2).box He2.out; obtain ⟨zn, _⟩ := (Ext.refl w2).box Hn2.out; have l2a := heap_lt Ha2.out; have l2e := heap_lt He2.out; have l2n := heap_lt Hn2.out; have Hxw2 := Lib.hid (Hx0.out.trans hx12); have HO2 := Lib.hid hO2; clear z1 hx12 hx2 hx1 hx01 ha1 hO2)
    | (go_at_call 22; refine (Hst.out _).mono ?_; rintro e w3 ⟨v3, rfl, hx3, ho3⟩; obtain ⟨sa, sc, hv3, _, _, _, hS3⟩ := halves_of_owns ho3; rw [HM.out] at hv3 hS3; subst hv3; have Hx23 := Lib.hid (((Ext.refl w2).alloc (.cells #[.slice oa len oc] 24)).trans hx3); have Hb13 := Lib.hid (hx3.heap (heap_alloc_new w2 (.cells #[.slice oa len oc] 24))); have HS3 := Lib.hid hS3; obtain ⟨ye, _⟩ := Hx23.out.box He2.out; obtain ⟨yn, _⟩ := Hx23.out.box Hn2.out; have l3a := heap_lt (Hx23.out.heap Ha2.out); have l3e := heap_lt (Hx23.out.heap He2.out); have l3n := heap_lt (Hx23.out.heap Hn2.out); clear hx3 ho3 hS3 ze zn)
    | (go_at_call 23; refine (Hrst.out _).mono ?_; rintro e w4 ⟨v4, rfl, hx4, ho4⟩; obtain ⟨ta, tc, hv4, _, _, _, hT4⟩ := halves_of_owns ho4; rw [HM.out] at hv4 hT4; subst hv4; have Hx34 := Lib.hid (((Ext.refl w3).alloc (.cells #[.slice sa M sc] 24)).trans hx4); have Hb14 := Lib.hid (hx4.heap (heap_alloc_new w3 (.cells #[.slice sa M sc] 24))); have HT4 := Lib.hid hT4; obtain ⟨xo, _⟩ := Hx34.out.box Hb13.out; have l4o := heap_lt (Hx34.out.heap Hb13.out); clear hx4 ho4 hT4 ye yn)
    | (go_at_call 24; refine (Hbn.out _ oa oc (HO2.out.ext (Hx23.out.trans (Hx34.out.alloc _))) o1 o2).mono ?_; rintro e w5 ⟨rfl, hx5⟩; have Hx45 := Lib.hid (((Ext.refl w4).alloc (.cells #[.slice ta M tc] 24)).trans hx5); have Hb16 := Lib.hid (hx5.heap (heap_alloc_new w4 (.cells #[.slice ta M tc] 24))); obtain ⟨wa, _⟩ := (Hx23.out.trans (Hx34.out.trans Hx45.out)).box Ha2.out; have l5a := heap_lt ((Hx23.out.trans (Hx34.out.trans Hx45.out)).heap Ha2.out); clear hx5 xo)
    | (go_at_call 25; refine (Hrbn.out _ (Hxw2.out.trans (Hx23.out.trans (Hx34.out.trans (Hx45.out.trans (((Ext.refl _).alloc _).alloc _)))))).mono ?_; rintro e w6 ⟨rfl, hx6⟩; have Hx56 := Lib.hid ((((Ext.refl w5).alloc (.cells #[.int .i64 be0, .int .i64 be1] 28)).alloc (.cells #[.int .i64 bn0, .int .i64 bn1] 28)).trans hx6); have Hb18 := Lib.hid (hx6.heap (((Ext.refl _).alloc _).heap (heap_alloc_new w5 (.cells #[.int .i64 be0, .int .i64 be1] 28)))); have Hb19 := Lib.hid (hx6.heap (alloc_at (w5.alloc (.cells #[.int .i64 be0, .int .i64 be1] 28)) (.cells #[.int .i64 bn0, .int .i64 bn1] 28) (w5.heap.size + 1) (by simp))); obtain ⟨vo, _⟩ := (Hx34.out.trans (Hx45.out.trans Hx56.out)).box Hb13.out; have l6o := heap_lt ((Hx34.out.trans (Hx45.out.trans Hx56.out)).heap Hb13.out); clear hx6 wa)
    | (go_at_call 26; refine (Hne.out _ oa oc (HO2.out.ext (Hx23.out.trans (Hx34.out.trans (Hx45.out.trans (Hx56.out.trans (((Ext.refl _).alloc _).alloc _)))))) o1 o2).mono ?_; rintro e w7 ⟨rfl, hx7⟩; have Hx67 := Lib.hid ((((Ext.refl w6).alloc (.cells #[.int .i64 be0, .int .i64 be1] 28)).alloc (.cells #[.int .i64 bn0, .int .i64 bn1] 28)).trans hx7); have Hb21 := Lib.hid (hx7.heap (((Ext.refl _).alloc _).heap (heap_alloc_new w6 (.cells #[.int .i64 be0, .int .i64 be1] 28)))); have Hb22 := Lib.hid (hx7.heap (alloc_at (w6.alloc (.cells #[.int .i64 be0, .int .i64 be1] 28)) (.cells #[.int .i64 bn0, .int .i64 bn1] 28) (w6.heap.size + 1) (by simp))); obtain ⟨ua, _⟩ := (Hx23.out.trans (Hx34.out.trans (Hx45.out.trans (Hx56.out.trans Hx67.out)))).box Ha2.out; clear hx7 vo)
    | (go_at_call 27; refine (Hrne.out _ (Hxw2.out.trans (Hx23.out.trans (Hx34.out.trans (Hx45.out.trans (Hx56.out.trans Hx67.out)))))).mono ?_; rintro e w8 ⟨rfl, hx8⟩; have Hx78 := Lib.hid hx8; clear hx8 ua))
  have hx48 := Hx45.out.trans (Hx56.out.trans (Hx67.out.trans Hx78.out))
  have hx38 := Hx34.out.trans hx48
  have hx28 := Hx23.out.trans hx38
  have hxw8 := Hxw2.out.trans hx28
  have b6 := hx28.heap Ha2.out
  have b13 := hx38.heap Hb13.out
  have b14 := hx48.heap Hb14.out
  have b16 := (Hx56.out.trans (Hx67.out.trans Hx78.out)).heap Hb16.out
  have b18 := (Hx67.out.trans Hx78.out).heap Hb18.out
  have b19 := (Hx67.out.trans Hx78.out).heap Hb19.out
  have b21 := Hx78.out.heap Hb21.out
  have b22 := Hx78.out.heap Hb22.out
  have hO8 := HO2.out.ext hx28
  have hS8 := HS3.out.ext hx38
  have hT8 := HT4.out.ext hx48
  have B6 := Lib.hid b6
  have B13 := Lib.hid b13
  have B14 := Lib.hid b14
  have B16 := Lib.hid b16
  have B18 := Lib.hid b18
  have B19 := Lib.hid b19
  have B21 := Lib.hid b21
  have B22 := Lib.hid b22
  have HO8 := Lib.hid hO8
  have HS8 := Lib.hid hS8
  have HT8 := Lib.hid hT8
  have Hxw8 := Lib.hid hxw8
  clear b6 b13 b14 b16 b18 b19 b21 b22 hO8 hS8 hT8 hxw8
  clear hx28 hx38 hx48 Hx23 Hx34 Hx45 Hx56 Hx67 Hx78 Ha2 Hb13 Hb14 Hb16 Hb18 Hb19 Hb21 Hb22 HO2 HS3 HT4 Hxw2 He2 Hn2 Hst Hrst Hbn Hrbn Hne Hrne Htw Hgr
  refine wp_region_tree (.take [0, 2] (.one 1 (.one 3 (.take [4, 5, 6, 7] (.one 8 (.take [9, 10, 11, 12, 13, 14, 15, 16, 17, 18, 19, 20, 21, 22, 23, 24, 25, 26, 27, 28, 29, 30, 31, 32, 33, 34, 35, 36, 37, 38, 39, 40, 41, 42] (.one 43 (.take [44, 45] .done)))))))) (Ext w8) _ (by kernel_rfl) (by kernel_rfl) rfl ((Ext.refl _).drew) ?_
  intro ι _ f hf hs
  have f0 := fun q => ((hf q).box B6.out).1
  have f1 := fun q => ((hf q).box B13.out).1
  have f2 := fun q => ((hf q).box B14.out).1
  have f3 := fun q => ((hf q).box B16.out).1
  have f4 := fun q => ((hf q).box B18.out).1
  have f5 := fun q => ((hf q).box B19.out).1
  have f6 := fun q => ((hf q).box B21.out).1
  have f7 := fun q => ((hf q).box B22.out).1
  have HS := Lib.hid hs
  clear hf hs
  try simp only [List.append]
  simp only [treeOf, oneOp, twoOp, opsOf, consOp, List.getElem?_toArray, List.getElem?_cons_succ, List.getElem?_cons_zero]
  refine wpOT_take ?_
  repeat (go_big_quiet_step (fail))
  refine wpQuiet_nil ?_
  refine wpOT_one ?_
  go_wp2_with (go_at_call 28; refine (Hck.out _ oa oc (HO8.out.ext (Ext.refl _).drew)).mono ?_; rintro e w9 ⟨rfl, hx9⟩; have Hx9 := Lib.hid ((Ext.refl w8).drew.trans hx9); clear hx9)
  refine ⟨HS.out _ Hx9.out, ?_⟩
  refine wpOT_one ?_
  go_wp2_with (go_at_call 29; refine (Hrck.out _ (Hxw8.out.trans Hx9.out)).mono ?_; rintro e w10 ⟨rfl, hx10⟩; have Hx10 := Lib.hid (Hx9.out.trans hx10); clear hx10)
  refine ⟨HS.out _ Hx10.out, ?_⟩
  refine wpOT_take ?_
  repeat (go_big_quiet_step (fail))
  refine wpQuiet_nil ?_
  refine wpOT_one ?_
  go_wp2_with (go_at_call 20; refine (Hsame.out _ _ _ _ _ (HS8.out.ext Hx10.out) (HT8.out.ext Hx10.out)).mono ?_; rintro e w11 ⟨rfl, hx11⟩; have Hx11 := Lib.hid (Hx10.out.trans hx11); clear hx11)
  refine ⟨HS.out _ Hx11.out, ?_⟩
  refine wpOT_take ?_
  repeat (go_big_quiet_step (fail))
  refine wpQuiet_nil ?_
  refine wpOT_one ?_
  go_wp2_with (go_at_call 20; refine (HsaA.out _ oa oc (Hxw8.out.trans Hx11.out) (HO8.out.ext Hx11.out)).mono ?_; rintro e w12 ⟨rfl, hx12⟩; have Hx12 := Lib.hid (Hx11.out.trans hx12); clear hx12)
  refine ⟨HS.out _ Hx12.out, ?_⟩
  refine wpOT_take ?_
  repeat (go_big_quiet_step (fail))
  refine wpQuiet_nil ?_
  refine wpOT_done ?_
  clear f0 f1 f2 f3 f4 f5 f6 f7
  go_wp2_with fail
  go_ret
  exact ⟨rfl, Hxw8.out.trans Hx12.out⟩
end Go.Proofs.Ytacdndehlkaaeaa
