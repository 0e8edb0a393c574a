/- The law TopKnown. -/
import Derived.Test.YtcoelhpmkhimpaaGreatVKnownB
import Derived.Test.YtcoelhpmkhimpaaGreatVLandR
import Derived.Test.YtcoelhpmkhimpaaGreatVAliveE
namespace Go.Proofs.YtcoelhpmkhimpaaGreat
open Go.RowKit
set_option linter.unusedVariables false
set_option linter.unusedSimpArgs false
set_option maxRecDepth 100000 in
set_option maxHeartbeats 16000000 in
theorem known1
    (wa : Option Addr) (wn wc : Nat) (la : Option Addr) (ln lc : Nat) (ws : List Well) (ls : List Leg) (z : Int) (oa : Option Addr) (on oc : Nat) (os : List Int) (ba : Option Addr) (bn bc : Nat) (bl : List Int) (w : World)
    (hws : WellsAt w wa wn ws) (hwc : wn ≤ wc) (hwm : wc ≤ maxLen) (hls : LegsAt w la ln ls) (hlc : ln ≤ lc) (hlm : lc ≤ maxLen) (hlb : ∀ x, la = some x → x.block < w.heap.size) (hz0 : 0 ≤ z) (hz1 : z ≤ 255)
    (ho : IntsAt .u8 w oa on os) (hom : on ≤ maxLen) (hor : ∀ z ∈ os, 0 ≤ z ∧ z ≤ 255) (hb : IntsAt .u32 w ba bn bl) (hbm : bn ≤ maxLen) (hbr : ∀ z ∈ bl, 0 ≤ z ∧ z ≤ 4294967295)
    (hg : greatB ⟨ws, ls⟩ = true) :
    Calls Tryz.prog 4 #[.agg #[.slice wa wn wc, .slice la ln lc], .int .u8 z, .slice oa on oc, .slice ba bn bc] w fun e w' => e = .returned (.bool true) ∧ Ext w w' := by
  have hgr := fun W (hW : Ext w W) => rgreat_any wa wn wc la ln lc ⟨ws, ls⟩ W hws.1 hwc hwm (hls.ext hW) hlc hlm
  have hx0 : Ext w (w.alloc (.cells #[.slice wa wn wc, .slice la ln lc] 57)) := (Ext.refl _).alloc _
  have hb0 := heap_alloc_new w (.cells #[.slice wa wn wc, .slice la ln lc] 57)
  obtain ⟨W0, hW0⟩ : ∃ W0, w.alloc (.cells #[.slice wa wn wc, .slice la ln lc] 57) = W0 := ⟨_, rfl⟩
  rw [hW0] at hx0 hb0
  rw [hg] at hgr
  have Hgr := Lib.hid hgr
  have Hx0 := Lib.hid hx0
  have Hb0 := Lib.hid hb0
  clear hgr hx0 hb0
  clear hws hls ho hb hbr hor hlb
  go_enter Tryz.func4, Tryz.ntmps4
  go_wp2_with (first
    | (go_at_call 5; refine (alive04_any _).mono ?_; rintro e v1 ⟨rfl, hx1⟩; have hb1 := hx1.heap Hb0.out; have hy1 := Hx0.out.trans hx1; have Hb1 := Lib.hid hb1; have Hy1 := Lib.hid hy1; clear hx1 hb1 hy1)
    | (refine wpList_load_row rfl 57 (.tmp 4) rfl w.heap.size rfl 57 _ (0, 0) _ Hb1.out Tryz.underlying57 rfl (by kernel_rfl) ?_)
    | (go_at_call 17; refine (Hgr.out _ Hy1.out).mono ?_; rintro e v2 ⟨rfl, hx2⟩; have hb2 := hx2.heap Hb1.out; have hy2 := Hy1.out.trans hx2; obtain ⟨za, _⟩ := (Ext.refl v2).box hb2; have Hb2 := Lib.hid hb2; have Hy2 := Lib.hid hy2; clear hx2 hb2 hy2)
    )
  go_ret
  exact ⟨rfl, Hy2.out⟩
set_option maxRecDepth 100000 in
set_option maxHeartbeats 16000000 in
theorem known2
    (wa : Option Addr) (wn wc : Nat) (la : Option Addr) (ln lc : Nat) (ws : List Well) (ls : List Leg) (z : Int) (oa : Option Addr) (on oc : Nat) (os : List Int) (ba : Option Addr) (bn bc : Nat) (bl : List Int) (w : World)
    (hws : WellsAt w wa wn ws) (hwc : wn ≤ wc) (hwm : wc ≤ maxLen) (hls : LegsAt w la ln ls) (hlc : ln ≤ lc) (hlm : lc ≤ maxLen) (hlb : ∀ x, la = some x → x.block < w.heap.size) (hz0 : 0 ≤ z) (hz1 : z ≤ 255)
    (ho : IntsAt .u8 w oa on os) (hom : on ≤ maxLen) (hor : ∀ z ∈ os, 0 ≤ z ∧ z ≤ 255) (hb : IntsAt .u32 w ba bn bl) (hbm : bn ≤ maxLen) (hbr : ∀ z ∈ bl, 0 ≤ z ∧ z ≤ 4294967295)
    (hg : greatB ⟨ws, ls⟩ = false) (hn : wn ≤ 1000000000 ∧ ln ≤ 1000000000) (hok : landOk ⟨ws, ls⟩ = false) :
    Calls Tryz.prog 4 #[.agg #[.slice wa wn wc, .slice la ln lc], .int .u8 z, .slice oa on oc, .slice ba bn bc] w fun e w' => e = .returned (.bool true) ∧ Ext w w' := by
  have hgr := fun W (hW : Ext w W) => rgreat_any wa wn wc la ln lc ⟨ws, ls⟩ W hws.1 hwc hwm (hls.ext hW) hlc hlm
  have hx0 : Ext w (w.alloc (.cells #[.slice wa wn wc, .slice la ln lc] 57)) := (Ext.refl _).alloc _
  have hb0 := heap_alloc_new w (.cells #[.slice wa wn wc, .slice la ln lc] 57)
  obtain ⟨W0, hW0⟩ : ∃ W0, w.alloc (.cells #[.slice wa wn wc, .slice la ln lc] 57) = W0 := ⟨_, rfl⟩
  rw [hW0] at hx0 hb0
  have hck := fun W (hW : Ext w W) => check3_any wa wn wc la ln lc ⟨ws, ls⟩ W ⟨hws.ext hW, hls.ext hW, hwc, hwm, hlc, hlm, hn.1, hn.2⟩
  rw [show checkErr3 ⟨ws, ls⟩ = 30 by unfold checkErr3; rw [hok]; rfl] at hck
  rw [hg] at hgr
  have Hgr := Lib.hid hgr
  have Hx0 := Lib.hid hx0
  have Hb0 := Lib.hid hb0
  have Hck := Lib.hid hck
  clear hgr hx0 hb0 hck
  clear hws hls ho hb hbr hor hlb
  go_enter Tryz.func4, Tryz.ntmps4
  go_wp2_with (first
    | (go_at_call 5; refine (alive04_any _).mono ?_; rintro e v1 ⟨rfl, hx1⟩; have hb1 := hx1.heap Hb0.out; have hy1 := Hx0.out.trans hx1; have Hb1 := Lib.hid hb1; have Hy1 := Lib.hid hy1; clear hx1 hb1 hy1)
    | (refine wpList_load_row rfl 57 (.tmp 4) rfl w.heap.size rfl 57 _ (0, 0) _ Hb1.out Tryz.underlying57 rfl (by kernel_rfl) ?_)
    | (go_at_call 17; refine (Hgr.out _ Hy1.out).mono ?_; rintro e v2 ⟨rfl, hx2⟩; have hb2 := hx2.heap Hb1.out; have hy2 := Hy1.out.trans hx2; obtain ⟨za, _⟩ := (Ext.refl v2).box hb2; have Hb2 := Lib.hid hb2; have Hy2 := Lib.hid hy2; clear hx2 hb2 hy2)
    | (go_at_call 18; refine (Hck.out _ Hy2.out).mono ?_; rintro e v3 ⟨rfl, hx3⟩; clear za; have hb3 := hx3.heap Hb2.out; have hy3 := Hy2.out.trans hx3; have Hb3 := Lib.hid hb3; have Hy3 := Lib.hid hy3; clear hx3 hb3 hy3)
    )
  go_ret
  exact ⟨rfl, Hy3.out⟩
set_option maxRecDepth 100000 in
set_option maxHeartbeats 16000000 in
theorem known3
    (wa : Option Addr) (wn wc : Nat) (la : Option Addr) (ln lc : Nat) (ws : List Well) (ls : List Leg) (z : Int) (oa : Option Addr) (on oc : Nat) (os : List Int) (ba : Option Addr) (bn bc : Nat) (bl : List Int) (w : World)
    (hws : WellsAt w wa wn ws) (hwc : wn ≤ wc) (hwm : wc ≤ maxLen) (hls : LegsAt w la ln ls) (hlc : ln ≤ lc) (hlm : lc ≤ maxLen) (hlb : ∀ x, la = some x → x.block < w.heap.size) (hz0 : 0 ≤ z) (hz1 : z ≤ 255)
    (ho : IntsAt .u8 w oa on os) (hom : on ≤ maxLen) (hor : ∀ z ∈ os, 0 ≤ z ∧ z ≤ 255) (hb : IntsAt .u32 w ba bn bl) (hbm : bn ≤ maxLen) (hbr : ∀ z ∈ bl, 0 ≤ z ∧ z ≤ 4294967295)
    (hg : greatB ⟨ws, ls⟩ = false) (hn : wn ≤ 1000000000 ∧ ln ≤ 1000000000) (hok : landOk ⟨ws, ls⟩ = true) (hwn : 1 ≤ wn ∧ wn ≤ 12) (hwk : ws.all wellOk = true) :
    Calls Tryz.prog 4 #[.agg #[.slice wa wn wc, .slice la ln lc], .int .u8 z, .slice oa on oc, .slice ba bn bc] w fun e w' => e = .returned (.bool true) ∧ Ext w w' := by
  have hgr := fun W (hW : Ext w W) => rgreat_any wa wn wc la ln lc ⟨ws, ls⟩ W hws.1 hwc hwm (hls.ext hW) hlc hlm
  have hx0 : Ext w (w.alloc (.cells #[.slice wa wn wc, .slice la ln lc] 57)) := (Ext.refl _).alloc _
  have hb0 := heap_alloc_new w (.cells #[.slice wa wn wc, .slice la ln lc] 57)
  obtain ⟨W0, hW0⟩ : ∃ W0, w.alloc (.cells #[.slice wa wn wc, .slice la ln lc] 57) = W0 := ⟨_, rfl⟩
  rw [hW0] at hx0 hb0
  have hck := fun W (hW : Ext w W) => check3_any wa wn wc la ln lc ⟨ws, ls⟩ W ⟨hws.ext hW, hls.ext hW, hwc, hwm, hlc, hlm, hn.1, hn.2⟩
  rw [show checkErr3 ⟨ws, ls⟩ = 0 by unfold checkErr3; rw [hok]; rfl] at hck
  rw [hg] at hgr
  have hwl := fun W (hW : Ext w W) => hws.ext hW
  have hoa := fun W (hW : Ext w W) => ho.ext hW
  have hby := fun W (hW : Ext w W) => hb.ext hW
  obtain ⟨R, hR⟩ : ∃ R : Nat, z.tmod wn = R := ⟨(z.tmod wn).toNat, by
    rw [Int.tmod_eq_emod_of_nonneg hz0]
    have := Int.emod_nonneg z (show (wn : Int) ≠ 0 by omega)
    omega⟩
  have hRn : R < wn := by
    have := Int.emod_lt_of_pos z (show (0 : Int) < wn by omega)
    rw [Int.tmod_eq_emod_of_nonneg hz0] at hR
    omega
  obtain ⟨wb, wo, o, rfl, hok', hwb, d0, d1, d2, d3, d4, d5, d6, d7, d8⟩ := hws.get R hRn
  have hwo := List.all_eq_true.1 hwk o (List.mem_of_getElem? hok')
  obtain ⟨ox, oy, od, ⟨oy0, oy1⟩, orm, ⟨os0, os1⟩, oow⟩ := o
  have hoxy : (-10000000 ≤ ox ∧ ox ≤ 10000000) ∧ (-10000000 ≤ oy ∧ oy ≤ 10000000) := by
    simp only [wellOk, inB, Bool.and_eq_true, decide_eq_true_eq] at hwo
    omega
  simp only at d0 d1 d2 d3 d4 d5 d6 d7 d8
  have hnz : ((wn : Int) == 0) = false := by simp; omega
  have hnz' : (wn : Int) ≠ 0 := by omega
  have hltR : decide ((R : Int) < (wn : Int)) = true := by simp; omega
  have hbw := heap_lt hb0
  clear hwb hwo hok' hok hws hls ho hb hlb
  have Hgr := Lib.hid hgr
  have Hx0 := Lib.hid hx0
  have Hb0 := Lib.hid hb0
  have Hck := Lib.hid hck
  have Hwl := Lib.hid hwl
  have Hoa := Lib.hid hoa
  have Hby := Lib.hid hby
  have Hwk := Lib.hid hwk
  have Hor := Lib.hid hor
  have Hbr := Lib.hid hbr
  have Hoxy := Lib.hid hoxy
  have D0 := Lib.hid d0
  have D1 := Lib.hid d1
  have D2 := Lib.hid d2
  have D3 := Lib.hid d3
  have D4 := Lib.hid d4
  have D5 := Lib.hid d5
  have D6 := Lib.hid d6
  have D7 := Lib.hid d7
  have D8 := Lib.hid d8
  clear hgr hx0 hb0 hck hwl hoa hby hwk hor hbr hoxy d0 d1 d2 d3 d4 d5 d6 d7 d8
  go_enter Tryz.func4, Tryz.ntmps4
  go_upto_region 6 with (first
    | (go_at_call 5; refine (alive04_any _).mono ?_; rintro e v1 ⟨rfl, hx1⟩; have hb1 := hx1.heap Hb0.out; have hy1 := Hx0.out.trans hx1; have Hb1 := Lib.hid hb1; have Hy1 := Lib.hid hy1; clear hx1 hb1 hy1)
    | (refine wpList_load_row rfl 57 (.tmp 4) rfl w.heap.size rfl 57 _ (0, 0) _ Hb1.out Tryz.underlying57 rfl (by kernel_rfl) ?_)
    | (go_at_call 17; refine (Hgr.out _ Hy1.out).mono ?_; rintro e v2 ⟨rfl, hx2⟩; have hb2 := hx2.heap Hb1.out; have hy2 := Hy1.out.trans hx2; obtain ⟨za, _⟩ := (Ext.refl v2).box hb2; have Hb2 := Lib.hid hb2; have Hy2 := Lib.hid hy2; clear hx2 hb2 hy2)
    | (go_at_call 18; refine (Hck.out _ Hy2.out).mono ?_; rintro e v3 ⟨rfl, hx3⟩; clear za; have hb3 := hx3.heap Hb2.out; have hy3 := Hy2.out.trans hx3; have Hb3 := Lib.hid hb3; have Hy3 := Lib.hid hy3; clear hx3 hb3 hy3)
    )
  have d0 := Hy3.out.cell D0.out
  have d1 := Hy3.out.cell D1.out
  have d2 := Hy3.out.cell D2.out
  have d3 := Hy3.out.cell D3.out
  have d4 := Hy3.out.cell D4.out
  have d5 := Hy3.out.cell D5.out
  have d6 := Hy3.out.cell D6.out
  have d7 := Hy3.out.cell D7.out
  have d8 := Hy3.out.cell D8.out
  have D0 := Lib.hid d0
  have D1 := Lib.hid d1
  have D2 := Lib.hid d2
  have D3 := Lib.hid d3
  have D4 := Lib.hid d4
  have D5 := Lib.hid d5
  have D6 := Lib.hid d6
  have D7 := Lib.hid d7
  have D8 := Lib.hid d8
  clear d0 d1 d2 d3 d4 d5 d6 d7 d8
  rename_i K hk
  have HK := Lib.hid hk
  clear hk
  refine wp_region_tree (.take [0, 1, 2, 3, 4, 5, 6, 7, 8, 9] (.one 10 (.one 11 .done))) (Ext v3) _ (by kernel_rfl) (by kernel_rfl) rfl ((Ext.refl _).drew) ?_
  intro ι _ f hf hs
  have f0 := fun q => ((hf q).box Hb3.out).1
  have g0 := fun q => (hf q).cell D0.out
  have g1 := fun q => (hf q).cell D1.out
  have g2 := fun q => (hf q).cell D2.out
  have g3 := fun q => (hf q).cell D3.out
  have g4 := fun q => (hf q).cell D4.out
  have g5 := fun q => (hf q).cell D5.out
  have g6 := fun q => (hf q).cell D6.out
  have g7 := fun q => (hf q).cell D7.out
  have g8 := fun q => (hf q).cell D8.out
  have HS := Lib.hid hs
  clear hf hs
  simp only [treeOf, oneOp, twoOp, opsOf, consOp, List.getElem?_toArray, List.getElem?_cons_succ, List.getElem?_cons_zero]
  refine wpOT_take ?_
  repeat (go_big_quiet_step (fail))
  refine wpQuiet_nil ?_
  clear f0 g0 g1 g2 g3 g4 g5 g6 g7 g8
  refine wpOT_one ?_
  go_wp2_with fail
  refine ⟨HS.out _ ((Ext.refl _).drew.alloc _), ?_⟩
  have hn6 := heap_alloc_new v3.drew (.cells #[.int .i64 0, .int .i64 0, .int .i64 0, .int .i64 0, .int .i64 0, .int .i64 0, .int .i64 0, .int .i64 0, .int .i64 0] 62)
  refine wpOT_one ?_
  go_wp2_with (refine wpList_store_row rfl 62 (.tmp 10) (.tmp 47) rfl v3.heap.size #[.int .i64 ox, .int .i64 oy, .int .i64 od, .int .i64 oy0, .int .i64 oy1, .int .i64 orm, .int .i64 os0, .int .i64 os1, .int .i64 oow] rfl rfl 62 _ hn6 (by kernel_rfl) (by kernel_rfl) (by kernel_rfl) ?_)
  have hx6 : Ext v3 ((v3.alloc (.cells #[.int .i64 0, .int .i64 0, .int .i64 0, .int .i64 0, .int .i64 0, .int .i64 0, .int .i64 0, .int .i64 0, .int .i64 0] 62)).drew.setRow v3.heap.size #[.int .i64 ox, .int .i64 oy, .int .i64 od, .int .i64 oy0, .int .i64 oy1, .int .i64 orm, .int .i64 os0, .int .i64 os1, .int .i64 oow]) := below_setRow ((Ext.refl v3).alloc _).drew (Nat.le_refl _) _
  have hp15 := setRow_heap (v3.alloc (.cells #[.int .i64 0, .int .i64 0, .int .i64 0, .int .i64 0, .int .i64 0, .int .i64 0, .int .i64 0, .int .i64 0, .int .i64 0] 62)).drew v3.heap.size _ #[.int .i64 ox, .int .i64 oy, .int .i64 od, .int .i64 oy0, .int .i64 oy1, .int .i64 orm, .int .i64 os0, .int .i64 os1, .int .i64 oow] 62 (0, 0) (heap_alloc_new v3 (.cells #[.int .i64 0, .int .i64 0, .int .i64 0, .int .i64 0, .int .i64 0, .int .i64 0, .int .i64 0, .int .i64 0, .int .i64 0] 62))
  have hbz := heap_lt Hb3.out
  generalize (v3.alloc (.cells #[.int .i64 0, .int .i64 0, .int .i64 0, .int .i64 0, .int .i64 0, .int .i64 0, .int .i64 0, .int .i64 0, .int .i64 0] 62)).drew.setRow v3.heap.size #[.int .i64 ox, .int .i64 oy, .int .i64 od, .int .i64 oy0, .int .i64 oy1, .int .i64 orm, .int .i64 os0, .int .i64 os1, .int .i64 oow] = W6 at *
  generalize v3.heap.size = p15 at *
  refine ⟨HS.out _ hx6, ?_⟩
  refine wpOT_done ?_
  clear HS hn6
  refine HK.out _ _ ?_
  exact knownBegin (Hy3.out.trans hx6) (hx6.heap Hb3.out) Hwl.out hwn hwc hwm Hwk.out hp15 hbz Hoxy.out.1 Hoxy.out.2 Hoa.out hom Hor.out Hby.out hbm Hbr.out
theorem lawKnown_any
    (wa : Option Addr) (wn wc : Nat) (la : Option Addr) (ln lc : Nat) (ws : List Well) (ls : List Leg) (z : Int) (oa : Option Addr) (on oc : Nat) (os : List Int) (ba : Option Addr) (bn bc : Nat) (bl : List Int) (w : World)
    (hws : WellsAt w wa wn ws) (hwc : wn ≤ wc) (hwm : wc ≤ maxLen) (hls : LegsAt w la ln ls) (hlc : ln ≤ lc) (hlm : lc ≤ maxLen) (hlb : ∀ x, la = some x → x.block < w.heap.size) (hz0 : 0 ≤ z) (hz1 : z ≤ 255)
    (ho : IntsAt .u8 w oa on os) (hom : on ≤ maxLen) (hor : ∀ z ∈ os, 0 ≤ z ∧ z ≤ 255) (hb : IntsAt .u32 w ba bn bl) (hbm : bn ≤ maxLen) (hbr : ∀ z ∈ bl, 0 ≤ z ∧ z ≤ 4294967295)
    :
    Calls Tryz.prog 4 #[.agg #[.slice wa wn wc, .slice la ln lc], .int .u8 z, .slice oa on oc, .slice ba bn bc] w fun e w' => e = .returned (.bool true) ∧ Ext w w' := by
  cases hg : greatB ⟨ws, ls⟩ with
  | true => exact known1 wa wn wc la ln lc ws ls z oa on oc os ba bn bc bl w hws hwc hwm hls hlc hlm hlb hz0 hz1 ho hom hor hb hbm hbr hg
  | false =>
    have hn : wn ≤ 20 ∧ ln ≤ 40 := by
      unfold greatB at hg
      simp only [Bool.or_eq_false_iff, decide_eq_false_iff_not] at hg
      have h1 := hws.1
      have h2 := hls.1
      omega
    have hn' : wn ≤ 1000000000 ∧ ln ≤ 1000000000 := by omega
    cases hok : landOk ⟨ws, ls⟩ with
    | false => exact known2 wa wn wc la ln lc ws ls z oa on oc os ba bn bc bl w hws hwc hwm hls hlc hlm hlb hz0 hz1 ho hom hor hb hbm hbr hg hn' hok
    | true =>
      have hk := hok
      unfold landOk at hk
      simp only [Bool.and_eq_true, decide_eq_true_eq] at hk
      have h1 := hws.1
      exact known3 wa wn wc la ln lc ws ls z oa on oc os ba bn bc bl w hws hwc hwm hls hlc hlm hlb hz0 hz1 ho hom hor hb hbm hbr hg hn' hok (by omega) hk.1.2
end Go.Proofs.YtcoelhpmkhimpaaGreat
