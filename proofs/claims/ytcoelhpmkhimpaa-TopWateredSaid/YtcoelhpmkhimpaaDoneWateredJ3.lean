/- It is proved that TopWatered returns true whatever the input, and that the input reads as it did. No conditions. -/
import Derived.Test.YtcoelhpmkhimpaaDoneWateredJ1
import Derived.Test.YtcoelhpmkhimpaaDoneWateredJ2
import Derived.Test.YtcoelhpmkhimpaaLandR
import Derived.Test.YtcoelhpmkhimpaaFrom
import Derived.Test.YtcoelhpmkhimpaaInv
import Derived.Test.YtcoelhpmkhimpaaTake
import Derived.OpenShut
import Derived.ShutString
import Derived.ChangeOld
import Derived.Below
namespace Go.Proofs.Ytcoelhpmkhimpaa
open Go.RowKit
set_option linter.unusedVariables false
set_option linter.unusedSimpArgs false
set_option maxRecDepth 100000 in
set_option maxHeartbeats 16000000 in
theorem watered1
    (fu fe r0 r1 q0 q1 t0 t1 n0 n1 u0 u1 m0 m1 hz s0 s1 : Int) (ha : Option Addr) (hn hc : Nat) (herd : List Camel) (e0 e1 : Int) (wa : Option Addr) (wn wc : Nat) (la : Option Addr) (ln lc : Nat) (ws : List Well) (ls : List Leg) (we : Int) (da : Option Addr) (dn dc : Nat) (ds : List Draw) (day : Int) (w : World)
    (hh : CamelsAt w ha hn herd) (hhc : hn ≤ hc) (hhm : hc ≤ maxLen) (hws : WellsAt w wa wn ws) (hwc : wn ≤ wc) (hwm : wc ≤ maxLen) (hls : LegsAt w la ln ls) (hlc : ln ≤ lc) (hlm : lc ≤ maxLen) (hd : DrawsAt w da dn ds) (hdc : dn ≤ dc) (hdm : dc ≤ maxLen)
    (hbk : breedOk ⟨fu, fe, ⟨r0, r1⟩, ⟨q0, q1⟩, ⟨t0, t1⟩, ⟨n0, n1⟩, ⟨u0, u1⟩, ⟨m0, m1⟩, hz, ⟨s0, s1⟩⟩ = false) :
    Calls Try.prog 7 #[.agg #[.int .i64 fu, .int .i64 fe, .int .i64 r0, .int .i64 r1, .int .i64 q0, .int .i64 q1, .int .i64 t0, .int .i64 t1, .int .i64 n0, .int .i64 n1, .int .i64 u0, .int .i64 u1, .int .i64 m0, .int .i64 m1, .int .i64 hz, .int .i64 s0, .int .i64 s1], .slice ha hn hc, .agg #[.int .i64 e0, .int .i64 e1], .agg #[.slice wa wn wc, .slice la ln lc], .int .i64 we, .slice da dn dc, .int .i64 day] w fun e w' => e = .returned (.bool true) ∧ Ext w w' := by
  have hal := alive03d_any
  have hbr := fun W => rcheckBreed_any ⟨fu, fe, ⟨r0, r1⟩, ⟨q0, q1⟩, ⟨t0, t1⟩, ⟨n0, n1⟩, ⟨u0, u1⟩, ⟨m0, m1⟩, hz, ⟨s0, s1⟩⟩ W
  have hma := fun W => rmarch_any (restDay ⟨e0, e1⟩ 0) W
  unfold Breed.val at hbr
  unfold March.val restDay at hma
  simp only at hbr hma
  have hgr := fun W (hW : Ext w W) => rgreat_any wa wn wc la ln lc ⟨ws, ls⟩ W hws.1 hwc hwm (hls.ext hW) hlc hlm
  have hx0 : Ext w (((w.alloc (.cells #[.int .i64 fu, .int .i64 fe, .int .i64 r0, .int .i64 r1, .int .i64 q0, .int .i64 q1, .int .i64 t0, .int .i64 t1, .int .i64 n0, .int .i64 n1, .int .i64 u0, .int .i64 u1, .int .i64 m0, .int .i64 m1, .int .i64 hz, .int .i64 s0, .int .i64 s1] 25)).alloc (.cells #[.int .i64 e0, .int .i64 e1] 23)).alloc (.cells #[.slice wa wn wc, .slice la ln lc] 33)) := (((Ext.refl w).alloc _).alloc _).alloc _
  have gb0 := alloc_heap (alloc_heap (heap_alloc_new w (.cells #[.int .i64 fu, .int .i64 fe, .int .i64 r0, .int .i64 r1, .int .i64 q0, .int .i64 q1, .int .i64 t0, .int .i64 t1, .int .i64 n0, .int .i64 n1, .int .i64 u0, .int .i64 u1, .int .i64 m0, .int .i64 m1, .int .i64 hz, .int .i64 s0, .int .i64 s1] 25)) (.cells #[.int .i64 e0, .int .i64 e1] 23)) (.cells #[.slice wa wn wc, .slice la ln lc] 33)
  have gh0 := alloc_heap (alloc_at (w.alloc (.cells #[.int .i64 fu, .int .i64 fe, .int .i64 r0, .int .i64 r1, .int .i64 q0, .int .i64 q1, .int .i64 t0, .int .i64 t1, .int .i64 n0, .int .i64 n1, .int .i64 u0, .int .i64 u1, .int .i64 m0, .int .i64 m1, .int .i64 hz, .int .i64 s0, .int .i64 s1] 25)) (.cells #[.int .i64 e0, .int .i64 e1] 23) (w.heap.size + 1) (by simp)) (.cells #[.slice wa wn wc, .slice la ln lc] 33)
  have gl0 := alloc_at ((w.alloc (.cells #[.int .i64 fu, .int .i64 fe, .int .i64 r0, .int .i64 r1, .int .i64 q0, .int .i64 q1, .int .i64 t0, .int .i64 t1, .int .i64 n0, .int .i64 n1, .int .i64 u0, .int .i64 u1, .int .i64 m0, .int .i64 m1, .int .i64 hz, .int .i64 s0, .int .i64 s1] 25)).alloc (.cells #[.int .i64 e0, .int .i64 e1] 23)) (.cells #[.slice wa wn wc, .slice la ln lc] 33) (w.heap.size + 1 + 1) (by simp)
  generalize hW0 : ((w.alloc (.cells #[.int .i64 fu, .int .i64 fe, .int .i64 r0, .int .i64 r1, .int .i64 q0, .int .i64 q1, .int .i64 t0, .int .i64 t1, .int .i64 n0, .int .i64 n1, .int .i64 u0, .int .i64 u1, .int .i64 m0, .int .i64 m1, .int .i64 hz, .int .i64 s0, .int .i64 s1] 25)).alloc (.cells #[.int .i64 e0, .int .i64 e1] 23)).alloc (.cells #[.slice wa wn wc, .slice la ln lc] 33) = W0 at *
  rw [show breedErr ⟨fu, fe, ⟨r0, r1⟩, ⟨q0, q1⟩, ⟨t0, t1⟩, ⟨n0, n1⟩, ⟨u0, u1⟩, ⟨m0, m1⟩, hz, ⟨s0, s1⟩⟩ = 10 by unfold breedErr; rw [hbk]; rfl] at hbr
  have hck := trivial
  have hdw := trivial
  have Hal := Lib.hid hal
  have Hbr := Lib.hid hbr
  have Hma := Lib.hid hma
  have Hgr := Lib.hid hgr
  have Hx0 := Lib.hid hx0
  have Gb0 := Lib.hid gb0
  have Gh0 := Lib.hid gh0
  have Gl0 := Lib.hid gl0
  have Hck := Lib.hid hck
  have Hdw := Lib.hid hdw
  clear hal hbr hma hgr hx0 gb0 gh0 gl0 hck hdw
  clear hh hws hls hd hbk
  go_enter Try.func7, Try.ntmps7
  go_upto_region 2 with (go_at_call 31; refine (Hal.out _).mono ?_; rintro e v1 ⟨rfl, hx1⟩)
  have gh1 := hx1.heap Gh0.out
  obtain ⟨y0, _⟩ := (Ext.refl v1).box gh1
  have hl1 := heap_lt gh1
  have Gh1 := Lib.hid gh1
  clear gh1
  go_upto_region 3 with fail
  have hx2 := hx1.alloc (.cells #[.int .i64 0, .int .i64 0, .int .i64 e0, .int .i64 e1, .int .i64 0, .int .i64 0, .int .i64 0, .int .i64 0] 29)
  have gm2 := heap_alloc_new v1 (.cells #[.int .i64 0, .int .i64 0, .int .i64 e0, .int .i64 e1, .int .i64 0, .int .i64 0, .int .i64 0, .int .i64 0] 29)
  have hp16 : w.heap.size + 1 + 1 < v1.heap.size := heap_lt (hx1.heap Gl0.out)
  generalize v1.alloc (.cells #[.int .i64 0, .int .i64 0, .int .i64 e0, .int .i64 e1, .int .i64 0, .int .i64 0, .int .i64 0, .int .i64 0] 29) = W2 at *
  generalize v1.heap.size = p16 at *
  have gb2 := hx2.heap Gb0.out
  have gl2 := hx2.heap Gl0.out
  have hx02 := Hx0.out.trans hx2
  clear y0 hl1 hx1 hx2 Gb0 Gh0 Gl0 Hx0 Hal Gh1 hW0
  have Gm2 := Lib.hid gm2
  have Gb2 := Lib.hid gb2
  have Gl2 := Lib.hid gl2
  have Hx02 := Lib.hid hx02
  clear gm2 gb2 gl2 hx02
  refine wp_region_lit ?_
  refine wpList_load_row rfl 25 (.tmp 7) rfl w.heap.size rfl 25 _ (0, 0) _ Gb2.out Try.underlying25 rfl (by kernel_rfl) ?_
  simp only [Act.put, List.setIfInBounds_toArray, List.set_cons_succ, List.set_cons_zero]
  refine wpList_seq (fun f hf hs => ?_)
  have f1 := fun q => ((hf q).box Gm2.out).1
  have f2 := fun q => ((hf q).box Gl2.out).1
  have Hf := Lib.hid hf
  have HS := Lib.hid hs
  clear hf hs
  repeat (go_big_quiet_step ((first | (go_at_call 32; exact Calls.ext_of (Hf.out _) HS.out (Hbr.out _)) | (go_at_call 10; exact Calls.ext_of (Hf.out _) HS.out (Hma.out _)) | (go_at_call 11; exact Calls.ext_of (Hf.out _) HS.out (Hgr.out _ (Hx02.out.trans (Hf.out _)))) | (go_at_call 33; exact Calls.ext_of (Hf.out _) HS.out (Hck.out _ (Hx02.out.trans (Hf.out _)))) | (go_at_call 34; exact Calls.ext_of (Hf.out _) HS.out (Hdw.out _ (Hx02.out.trans (Hf.out _)))))))
  refine wpQuiet_nil ?_
  intro W3 hW3
  clear f1 f2
  have hx3 := Hx02.out.trans hW3
  have Hx3 := Lib.hid hx3
  clear hx3
  clear hW3
  go_wp2_with fail
  go_ret
  exact ⟨rfl, Hx3.out⟩
set_option maxRecDepth 100000 in
set_option maxHeartbeats 16000000 in
theorem watered2
    (fu fe r0 r1 q0 q1 t0 t1 n0 n1 u0 u1 m0 m1 hz s0 s1 : Int) (ha : Option Addr) (hn hc : Nat) (herd : List Camel) (e0 e1 : Int) (wa : Option Addr) (wn wc : Nat) (la : Option Addr) (ln lc : Nat) (ws : List Well) (ls : List Leg) (we : Int) (da : Option Addr) (dn dc : Nat) (ds : List Draw) (day : Int) (w : World)
    (hh : CamelsAt w ha hn herd) (hhc : hn ≤ hc) (hhm : hc ≤ maxLen) (hws : WellsAt w wa wn ws) (hwc : wn ≤ wc) (hwm : wc ≤ maxLen) (hls : LegsAt w la ln ls) (hlc : ln ≤ lc) (hlm : lc ≤ maxLen) (hd : DrawsAt w da dn ds) (hdc : dn ≤ dc) (hdm : dc ≤ maxLen)
    (hbk : breedOk ⟨fu, fe, ⟨r0, r1⟩, ⟨q0, q1⟩, ⟨t0, t1⟩, ⟨n0, n1⟩, ⟨u0, u1⟩, ⟨m0, m1⟩, hz, ⟨s0, s1⟩⟩ = true) (hdk : dayOk (restDay ⟨e0, e1⟩ 0) = false) :
    Calls Try.prog 7 #[.agg #[.int .i64 fu, .int .i64 fe, .int .i64 r0, .int .i64 r1, .int .i64 q0, .int .i64 q1, .int .i64 t0, .int .i64 t1, .int .i64 n0, .int .i64 n1, .int .i64 u0, .int .i64 u1, .int .i64 m0, .int .i64 m1, .int .i64 hz, .int .i64 s0, .int .i64 s1], .slice ha hn hc, .agg #[.int .i64 e0, .int .i64 e1], .agg #[.slice wa wn wc, .slice la ln lc], .int .i64 we, .slice da dn dc, .int .i64 day] w fun e w' => e = .returned (.bool true) ∧ Ext w w' := by
  have hal := alive03d_any
  have hbr := fun W => rcheckBreed_any ⟨fu, fe, ⟨r0, r1⟩, ⟨q0, q1⟩, ⟨t0, t1⟩, ⟨n0, n1⟩, ⟨u0, u1⟩, ⟨m0, m1⟩, hz, ⟨s0, s1⟩⟩ W
  have hma := fun W => rmarch_any (restDay ⟨e0, e1⟩ 0) W
  unfold Breed.val at hbr
  unfold March.val restDay at hma
  simp only at hbr hma
  have hgr := fun W (hW : Ext w W) => rgreat_any wa wn wc la ln lc ⟨ws, ls⟩ W hws.1 hwc hwm (hls.ext hW) hlc hlm
  have hx0 : Ext w (((w.alloc (.cells #[.int .i64 fu, .int .i64 fe, .int .i64 r0, .int .i64 r1, .int .i64 q0, .int .i64 q1, .int .i64 t0, .int .i64 t1, .int .i64 n0, .int .i64 n1, .int .i64 u0, .int .i64 u1, .int .i64 m0, .int .i64 m1, .int .i64 hz, .int .i64 s0, .int .i64 s1] 25)).alloc (.cells #[.int .i64 e0, .int .i64 e1] 23)).alloc (.cells #[.slice wa wn wc, .slice la ln lc] 33)) := (((Ext.refl w).alloc _).alloc _).alloc _
  have gb0 := alloc_heap (alloc_heap (heap_alloc_new w (.cells #[.int .i64 fu, .int .i64 fe, .int .i64 r0, .int .i64 r1, .int .i64 q0, .int .i64 q1, .int .i64 t0, .int .i64 t1, .int .i64 n0, .int .i64 n1, .int .i64 u0, .int .i64 u1, .int .i64 m0, .int .i64 m1, .int .i64 hz, .int .i64 s0, .int .i64 s1] 25)) (.cells #[.int .i64 e0, .int .i64 e1] 23)) (.cells #[.slice wa wn wc, .slice la ln lc] 33)
  have gh0 := alloc_heap (alloc_at (w.alloc (.cells #[.int .i64 fu, .int .i64 fe, .int .i64 r0, .int .i64 r1, .int .i64 q0, .int .i64 q1, .int .i64 t0, .int .i64 t1, .int .i64 n0, .int .i64 n1, .int .i64 u0, .int .i64 u1, .int .i64 m0, .int .i64 m1, .int .i64 hz, .int .i64 s0, .int .i64 s1] 25)) (.cells #[.int .i64 e0, .int .i64 e1] 23) (w.heap.size + 1) (by simp)) (.cells #[.slice wa wn wc, .slice la ln lc] 33)
  have gl0 := alloc_at ((w.alloc (.cells #[.int .i64 fu, .int .i64 fe, .int .i64 r0, .int .i64 r1, .int .i64 q0, .int .i64 q1, .int .i64 t0, .int .i64 t1, .int .i64 n0, .int .i64 n1, .int .i64 u0, .int .i64 u1, .int .i64 m0, .int .i64 m1, .int .i64 hz, .int .i64 s0, .int .i64 s1] 25)).alloc (.cells #[.int .i64 e0, .int .i64 e1] 23)) (.cells #[.slice wa wn wc, .slice la ln lc] 33) (w.heap.size + 1 + 1) (by simp)
  generalize hW0 : ((w.alloc (.cells #[.int .i64 fu, .int .i64 fe, .int .i64 r0, .int .i64 r1, .int .i64 q0, .int .i64 q1, .int .i64 t0, .int .i64 t1, .int .i64 n0, .int .i64 n1, .int .i64 u0, .int .i64 u1, .int .i64 m0, .int .i64 m1, .int .i64 hz, .int .i64 s0, .int .i64 s1] 25)).alloc (.cells #[.int .i64 e0, .int .i64 e1] 23)).alloc (.cells #[.slice wa wn wc, .slice la ln lc] 33) = W0 at *
  rw [show breedErr ⟨fu, fe, ⟨r0, r1⟩, ⟨q0, q1⟩, ⟨t0, t1⟩, ⟨n0, n1⟩, ⟨u0, u1⟩, ⟨m0, m1⟩, hz, ⟨s0, s1⟩⟩ = 0 by unfold breedErr; rw [hbk]; rfl] at hbr
  rw [show dayOk ⟨0, 0, ⟨e0, e1⟩, ⟨0, 0⟩, ⟨0, 0⟩⟩ = false from hdk] at hma
  have hck := trivial
  have hdw := trivial
  have Hal := Lib.hid hal
  have Hbr := Lib.hid hbr
  have Hma := Lib.hid hma
  have Hgr := Lib.hid hgr
  have Hx0 := Lib.hid hx0
  have Gb0 := Lib.hid gb0
  have Gh0 := Lib.hid gh0
  have Gl0 := Lib.hid gl0
  have Hck := Lib.hid hck
  have Hdw := Lib.hid hdw
  clear hal hbr hma hgr hx0 gb0 gh0 gl0 hck hdw
  clear hh hws hls hd hbk hdk
  go_enter Try.func7, Try.ntmps7
  go_upto_region 2 with (go_at_call 31; refine (Hal.out _).mono ?_; rintro e v1 ⟨rfl, hx1⟩)
  have gh1 := hx1.heap Gh0.out
  obtain ⟨y0, _⟩ := (Ext.refl v1).box gh1
  have hl1 := heap_lt gh1
  have Gh1 := Lib.hid gh1
  clear gh1
  go_upto_region 3 with fail
  have hx2 := hx1.alloc (.cells #[.int .i64 0, .int .i64 0, .int .i64 e0, .int .i64 e1, .int .i64 0, .int .i64 0, .int .i64 0, .int .i64 0] 29)
  have gm2 := heap_alloc_new v1 (.cells #[.int .i64 0, .int .i64 0, .int .i64 e0, .int .i64 e1, .int .i64 0, .int .i64 0, .int .i64 0, .int .i64 0] 29)
  have hp16 : w.heap.size + 1 + 1 < v1.heap.size := heap_lt (hx1.heap Gl0.out)
  generalize v1.alloc (.cells #[.int .i64 0, .int .i64 0, .int .i64 e0, .int .i64 e1, .int .i64 0, .int .i64 0, .int .i64 0, .int .i64 0] 29) = W2 at *
  generalize v1.heap.size = p16 at *
  have gb2 := hx2.heap Gb0.out
  have gl2 := hx2.heap Gl0.out
  have hx02 := Hx0.out.trans hx2
  clear y0 hl1 hx1 hx2 Gb0 Gh0 Gl0 Hx0 Hal Gh1 hW0
  have Gm2 := Lib.hid gm2
  have Gb2 := Lib.hid gb2
  have Gl2 := Lib.hid gl2
  have Hx02 := Lib.hid hx02
  clear gm2 gb2 gl2 hx02
  refine wp_region_lit ?_
  refine wpList_load_row rfl 25 (.tmp 7) rfl w.heap.size rfl 25 _ (0, 0) _ Gb2.out Try.underlying25 rfl (by kernel_rfl) ?_
  simp only [Act.put, List.setIfInBounds_toArray, List.set_cons_succ, List.set_cons_zero]
  refine wpList_seq (fun f hf hs => ?_)
  have f1 := fun q => ((hf q).box Gm2.out).1
  have f2 := fun q => ((hf q).box Gl2.out).1
  have Hf := Lib.hid hf
  have HS := Lib.hid hs
  clear hf hs
  repeat (go_big_quiet_step ((first | (go_at_call 32; exact Calls.ext_of (Hf.out _) HS.out (Hbr.out _)) | (go_at_call 10; exact Calls.ext_of (Hf.out _) HS.out (Hma.out _)) | (go_at_call 11; exact Calls.ext_of (Hf.out _) HS.out (Hgr.out _ (Hx02.out.trans (Hf.out _)))) | (go_at_call 33; exact Calls.ext_of (Hf.out _) HS.out (Hck.out _ (Hx02.out.trans (Hf.out _)))) | (go_at_call 34; exact Calls.ext_of (Hf.out _) HS.out (Hdw.out _ (Hx02.out.trans (Hf.out _)))))))
  refine wpQuiet_nil ?_
  intro W3 hW3
  clear f1 f2
  have hx3 := Hx02.out.trans hW3
  have Hx3 := Lib.hid hx3
  clear hx3
  clear hW3
  go_wp2_with fail
  go_ret
  exact ⟨rfl, Hx3.out⟩
set_option maxRecDepth 100000 in
set_option maxHeartbeats 16000000 in
theorem watered3
    (fu fe r0 r1 q0 q1 t0 t1 n0 n1 u0 u1 m0 m1 hz s0 s1 : Int) (ha : Option Addr) (hn hc : Nat) (herd : List Camel) (e0 e1 : Int) (wa : Option Addr) (wn wc : Nat) (la : Option Addr) (ln lc : Nat) (ws : List Well) (ls : List Leg) (we : Int) (da : Option Addr) (dn dc : Nat) (ds : List Draw) (day : Int) (w : World)
    (hh : CamelsAt w ha hn herd) (hhc : hn ≤ hc) (hhm : hc ≤ maxLen) (hws : WellsAt w wa wn ws) (hwc : wn ≤ wc) (hwm : wc ≤ maxLen) (hls : LegsAt w la ln ls) (hlc : ln ≤ lc) (hlm : lc ≤ maxLen) (hd : DrawsAt w da dn ds) (hdc : dn ≤ dc) (hdm : dc ≤ maxLen)
    (hbk : breedOk ⟨fu, fe, ⟨r0, r1⟩, ⟨q0, q1⟩, ⟨t0, t1⟩, ⟨n0, n1⟩, ⟨u0, u1⟩, ⟨m0, m1⟩, hz, ⟨s0, s1⟩⟩ = true) (hdk : dayOk (restDay ⟨e0, e1⟩ 0) = true) (h30 : 30 < (hn : Int)) :
    Calls Try.prog 7 #[.agg #[.int .i64 fu, .int .i64 fe, .int .i64 r0, .int .i64 r1, .int .i64 q0, .int .i64 q1, .int .i64 t0, .int .i64 t1, .int .i64 n0, .int .i64 n1, .int .i64 u0, .int .i64 u1, .int .i64 m0, .int .i64 m1, .int .i64 hz, .int .i64 s0, .int .i64 s1], .slice ha hn hc, .agg #[.int .i64 e0, .int .i64 e1], .agg #[.slice wa wn wc, .slice la ln lc], .int .i64 we, .slice da dn dc, .int .i64 day] w fun e w' => e = .returned (.bool true) ∧ Ext w w' := by
  have hal := alive03d_any
  have hbr := fun W => rcheckBreed_any ⟨fu, fe, ⟨r0, r1⟩, ⟨q0, q1⟩, ⟨t0, t1⟩, ⟨n0, n1⟩, ⟨u0, u1⟩, ⟨m0, m1⟩, hz, ⟨s0, s1⟩⟩ W
  have hma := fun W => rmarch_any (restDay ⟨e0, e1⟩ 0) W
  unfold Breed.val at hbr
  unfold March.val restDay at hma
  simp only at hbr hma
  have hgr := fun W (hW : Ext w W) => rgreat_any wa wn wc la ln lc ⟨ws, ls⟩ W hws.1 hwc hwm (hls.ext hW) hlc hlm
  have hx0 : Ext w (((w.alloc (.cells #[.int .i64 fu, .int .i64 fe, .int .i64 r0, .int .i64 r1, .int .i64 q0, .int .i64 q1, .int .i64 t0, .int .i64 t1, .int .i64 n0, .int .i64 n1, .int .i64 u0, .int .i64 u1, .int .i64 m0, .int .i64 m1, .int .i64 hz, .int .i64 s0, .int .i64 s1] 25)).alloc (.cells #[.int .i64 e0, .int .i64 e1] 23)).alloc (.cells #[.slice wa wn wc, .slice la ln lc] 33)) := (((Ext.refl w).alloc _).alloc _).alloc _
  have gb0 := alloc_heap (alloc_heap (heap_alloc_new w (.cells #[.int .i64 fu, .int .i64 fe, .int .i64 r0, .int .i64 r1, .int .i64 q0, .int .i64 q1, .int .i64 t0, .int .i64 t1, .int .i64 n0, .int .i64 n1, .int .i64 u0, .int .i64 u1, .int .i64 m0, .int .i64 m1, .int .i64 hz, .int .i64 s0, .int .i64 s1] 25)) (.cells #[.int .i64 e0, .int .i64 e1] 23)) (.cells #[.slice wa wn wc, .slice la ln lc] 33)
  have gh0 := alloc_heap (alloc_at (w.alloc (.cells #[.int .i64 fu, .int .i64 fe, .int .i64 r0, .int .i64 r1, .int .i64 q0, .int .i64 q1, .int .i64 t0, .int .i64 t1, .int .i64 n0, .int .i64 n1, .int .i64 u0, .int .i64 u1, .int .i64 m0, .int .i64 m1, .int .i64 hz, .int .i64 s0, .int .i64 s1] 25)) (.cells #[.int .i64 e0, .int .i64 e1] 23) (w.heap.size + 1) (by simp)) (.cells #[.slice wa wn wc, .slice la ln lc] 33)
  have gl0 := alloc_at ((w.alloc (.cells #[.int .i64 fu, .int .i64 fe, .int .i64 r0, .int .i64 r1, .int .i64 q0, .int .i64 q1, .int .i64 t0, .int .i64 t1, .int .i64 n0, .int .i64 n1, .int .i64 u0, .int .i64 u1, .int .i64 m0, .int .i64 m1, .int .i64 hz, .int .i64 s0, .int .i64 s1] 25)).alloc (.cells #[.int .i64 e0, .int .i64 e1] 23)) (.cells #[.slice wa wn wc, .slice la ln lc] 33) (w.heap.size + 1 + 1) (by simp)
  generalize hW0 : ((w.alloc (.cells #[.int .i64 fu, .int .i64 fe, .int .i64 r0, .int .i64 r1, .int .i64 q0, .int .i64 q1, .int .i64 t0, .int .i64 t1, .int .i64 n0, .int .i64 n1, .int .i64 u0, .int .i64 u1, .int .i64 m0, .int .i64 m1, .int .i64 hz, .int .i64 s0, .int .i64 s1] 25)).alloc (.cells #[.int .i64 e0, .int .i64 e1] 23)).alloc (.cells #[.slice wa wn wc, .slice la ln lc] 33) = W0 at *
  rw [show breedErr ⟨fu, fe, ⟨r0, r1⟩, ⟨q0, q1⟩, ⟨t0, t1⟩, ⟨n0, n1⟩, ⟨u0, u1⟩, ⟨m0, m1⟩, hz, ⟨s0, s1⟩⟩ = 0 by unfold breedErr; rw [hbk]; rfl] at hbr
  rw [show dayOk ⟨0, 0, ⟨e0, e1⟩, ⟨0, 0⟩, ⟨0, 0⟩⟩ = true from hdk] at hma
  have h30B : decide (30 < (hn : Int)) = true := decide_eq_true h30
  have hck := trivial
  have hdw := trivial
  have Hal := Lib.hid hal
  have Hbr := Lib.hid hbr
  have Hma := Lib.hid hma
  have Hgr := Lib.hid hgr
  have Hx0 := Lib.hid hx0
  have Gb0 := Lib.hid gb0
  have Gh0 := Lib.hid gh0
  have Gl0 := Lib.hid gl0
  have Hck := Lib.hid hck
  have Hdw := Lib.hid hdw
  clear hal hbr hma hgr hx0 gb0 gh0 gl0 hck hdw
  clear hh hws hls hd hbk hdk
  go_enter Try.func7, Try.ntmps7
  go_upto_region 2 with (go_at_call 31; refine (Hal.out _).mono ?_; rintro e v1 ⟨rfl, hx1⟩)
  have gh1 := hx1.heap Gh0.out
  obtain ⟨y0, _⟩ := (Ext.refl v1).box gh1
  have hl1 := heap_lt gh1
  have Gh1 := Lib.hid gh1
  clear gh1
  go_upto_region 3 with fail
  have hx2 := hx1.alloc (.cells #[.int .i64 0, .int .i64 0, .int .i64 e0, .int .i64 e1, .int .i64 0, .int .i64 0, .int .i64 0, .int .i64 0] 29)
  have gm2 := heap_alloc_new v1 (.cells #[.int .i64 0, .int .i64 0, .int .i64 e0, .int .i64 e1, .int .i64 0, .int .i64 0, .int .i64 0, .int .i64 0] 29)
  have hp16 : w.heap.size + 1 + 1 < v1.heap.size := heap_lt (hx1.heap Gl0.out)
  generalize v1.alloc (.cells #[.int .i64 0, .int .i64 0, .int .i64 e0, .int .i64 e1, .int .i64 0, .int .i64 0, .int .i64 0, .int .i64 0] 29) = W2 at *
  generalize v1.heap.size = p16 at *
  have gb2 := hx2.heap Gb0.out
  have gl2 := hx2.heap Gl0.out
  have hx02 := Hx0.out.trans hx2
  clear y0 hl1 hx1 hx2 Gb0 Gh0 Gl0 Hx0 Hal Gh1 hW0
  have Gm2 := Lib.hid gm2
  have Gb2 := Lib.hid gb2
  have Gl2 := Lib.hid gl2
  have Hx02 := Lib.hid hx02
  clear gm2 gb2 gl2 hx02
  refine wp_region_lit ?_
  refine wpList_load_row rfl 25 (.tmp 7) rfl w.heap.size rfl 25 _ (0, 0) _ Gb2.out Try.underlying25 rfl (by kernel_rfl) ?_
  simp only [Act.put, List.setIfInBounds_toArray, List.set_cons_succ, List.set_cons_zero]
  refine wpList_seq (fun f hf hs => ?_)
  have f1 := fun q => ((hf q).box Gm2.out).1
  have f2 := fun q => ((hf q).box Gl2.out).1
  have Hf := Lib.hid hf
  have HS := Lib.hid hs
  clear hf hs
  repeat (go_big_quiet_step ((first | (go_at_call 32; exact Calls.ext_of (Hf.out _) HS.out (Hbr.out _)) | (go_at_call 10; exact Calls.ext_of (Hf.out _) HS.out (Hma.out _)) | (go_at_call 11; exact Calls.ext_of (Hf.out _) HS.out (Hgr.out _ (Hx02.out.trans (Hf.out _)))) | (go_at_call 33; exact Calls.ext_of (Hf.out _) HS.out (Hck.out _ (Hx02.out.trans (Hf.out _)))) | (go_at_call 34; exact Calls.ext_of (Hf.out _) HS.out (Hdw.out _ (Hx02.out.trans (Hf.out _)))))))
  refine wpQuiet_nil ?_
  intro W3 hW3
  clear f1 f2
  have hx3 := Hx02.out.trans hW3
  have Hx3 := Lib.hid hx3
  clear hx3
  clear hW3
  go_wp2_with fail
  go_ret
  exact ⟨rfl, Hx3.out⟩
set_option maxRecDepth 100000 in
set_option maxHeartbeats 16000000 in
theorem watered4
    (fu fe r0 r1 q0 q1 t0 t1 n0 n1 u0 u1 m0 m1 hz s0 s1 : Int) (ha : Option Addr) (hn hc : Nat) (herd : List Camel) (e0 e1 : Int) (wa : Option Addr) (wn wc : Nat) (la : Option Addr) (ln lc : Nat) (ws : List Well) (ls : List Leg) (we : Int) (da : Option Addr) (dn dc : Nat) (ds : List Draw) (day : Int) (w : World)
    (hh : CamelsAt w ha hn herd) (hhc : hn ≤ hc) (hhm : hc ≤ maxLen) (hws : WellsAt w wa wn ws) (hwc : wn ≤ wc) (hwm : wc ≤ maxLen) (hls : LegsAt w la ln ls) (hlc : ln ≤ lc) (hlm : lc ≤ maxLen) (hd : DrawsAt w da dn ds) (hdc : dn ≤ dc) (hdm : dc ≤ maxLen)
    (hbk : breedOk ⟨fu, fe, ⟨r0, r1⟩, ⟨q0, q1⟩, ⟨t0, t1⟩, ⟨n0, n1⟩, ⟨u0, u1⟩, ⟨m0, m1⟩, hz, ⟨s0, s1⟩⟩ = true) (hdk : dayOk (restDay ⟨e0, e1⟩ 0) = true) (h30 : ¬30 < (hn : Int)) (hgk : greatB ⟨ws, ls⟩ = true) :
    Calls Try.prog 7 #[.agg #[.int .i64 fu, .int .i64 fe, .int .i64 r0, .int .i64 r1, .int .i64 q0, .int .i64 q1, .int .i64 t0, .int .i64 t1, .int .i64 n0, .int .i64 n1, .int .i64 u0, .int .i64 u1, .int .i64 m0, .int .i64 m1, .int .i64 hz, .int .i64 s0, .int .i64 s1], .slice ha hn hc, .agg #[.int .i64 e0, .int .i64 e1], .agg #[.slice wa wn wc, .slice la ln lc], .int .i64 we, .slice da dn dc, .int .i64 day] w fun e w' => e = .returned (.bool true) ∧ Ext w w' := by
  have hal := alive03d_any
  have hbr := fun W => rcheckBreed_any ⟨fu, fe, ⟨r0, r1⟩, ⟨q0, q1⟩, ⟨t0, t1⟩, ⟨n0, n1⟩, ⟨u0, u1⟩, ⟨m0, m1⟩, hz, ⟨s0, s1⟩⟩ W
  have hma := fun W => rmarch_any (restDay ⟨e0, e1⟩ 0) W
  unfold Breed.val at hbr
  unfold March.val restDay at hma
  simp only at hbr hma
  have hgr := fun W (hW : Ext w W) => rgreat_any wa wn wc la ln lc ⟨ws, ls⟩ W hws.1 hwc hwm (hls.ext hW) hlc hlm
  have hx0 : Ext w (((w.alloc (.cells #[.int .i64 fu, .int .i64 fe, .int .i64 r0, .int .i64 r1, .int .i64 q0, .int .i64 q1, .int .i64 t0, .int .i64 t1, .int .i64 n0, .int .i64 n1, .int .i64 u0, .int .i64 u1, .int .i64 m0, .int .i64 m1, .int .i64 hz, .int .i64 s0, .int .i64 s1] 25)).alloc (.cells #[.int .i64 e0, .int .i64 e1] 23)).alloc (.cells #[.slice wa wn wc, .slice la ln lc] 33)) := (((Ext.refl w).alloc _).alloc _).alloc _
  have gb0 := alloc_heap (alloc_heap (heap_alloc_new w (.cells #[.int .i64 fu, .int .i64 fe, .int .i64 r0, .int .i64 r1, .int .i64 q0, .int .i64 q1, .int .i64 t0, .int .i64 t1, .int .i64 n0, .int .i64 n1, .int .i64 u0, .int .i64 u1, .int .i64 m0, .int .i64 m1, .int .i64 hz, .int .i64 s0, .int .i64 s1] 25)) (.cells #[.int .i64 e0, .int .i64 e1] 23)) (.cells #[.slice wa wn wc, .slice la ln lc] 33)
  have gh0 := alloc_heap (alloc_at (w.alloc (.cells #[.int .i64 fu, .int .i64 fe, .int .i64 r0, .int .i64 r1, .int .i64 q0, .int .i64 q1, .int .i64 t0, .int .i64 t1, .int .i64 n0, .int .i64 n1, .int .i64 u0, .int .i64 u1, .int .i64 m0, .int .i64 m1, .int .i64 hz, .int .i64 s0, .int .i64 s1] 25)) (.cells #[.int .i64 e0, .int .i64 e1] 23) (w.heap.size + 1) (by simp)) (.cells #[.slice wa wn wc, .slice la ln lc] 33)
  have gl0 := alloc_at ((w.alloc (.cells #[.int .i64 fu, .int .i64 fe, .int .i64 r0, .int .i64 r1, .int .i64 q0, .int .i64 q1, .int .i64 t0, .int .i64 t1, .int .i64 n0, .int .i64 n1, .int .i64 u0, .int .i64 u1, .int .i64 m0, .int .i64 m1, .int .i64 hz, .int .i64 s0, .int .i64 s1] 25)).alloc (.cells #[.int .i64 e0, .int .i64 e1] 23)) (.cells #[.slice wa wn wc, .slice la ln lc] 33) (w.heap.size + 1 + 1) (by simp)
  generalize hW0 : ((w.alloc (.cells #[.int .i64 fu, .int .i64 fe, .int .i64 r0, .int .i64 r1, .int .i64 q0, .int .i64 q1, .int .i64 t0, .int .i64 t1, .int .i64 n0, .int .i64 n1, .int .i64 u0, .int .i64 u1, .int .i64 m0, .int .i64 m1, .int .i64 hz, .int .i64 s0, .int .i64 s1] 25)).alloc (.cells #[.int .i64 e0, .int .i64 e1] 23)).alloc (.cells #[.slice wa wn wc, .slice la ln lc] 33) = W0 at *
  rw [show breedErr ⟨fu, fe, ⟨r0, r1⟩, ⟨q0, q1⟩, ⟨t0, t1⟩, ⟨n0, n1⟩, ⟨u0, u1⟩, ⟨m0, m1⟩, hz, ⟨s0, s1⟩⟩ = 0 by unfold breedErr; rw [hbk]; rfl] at hbr
  rw [show dayOk ⟨0, 0, ⟨e0, e1⟩, ⟨0, 0⟩, ⟨0, 0⟩⟩ = true from hdk] at hma
  have h30B : decide (30 < (hn : Int)) = false := decide_eq_false h30
  rw [hgk] at hgr
  have hck := trivial
  have hdw := trivial
  have Hal := Lib.hid hal
  have Hbr := Lib.hid hbr
  have Hma := Lib.hid hma
  have Hgr := Lib.hid hgr
  have Hx0 := Lib.hid hx0
  have Gb0 := Lib.hid gb0
  have Gh0 := Lib.hid gh0
  have Gl0 := Lib.hid gl0
  have Hck := Lib.hid hck
  have Hdw := Lib.hid hdw
  clear hal hbr hma hgr hx0 gb0 gh0 gl0 hck hdw
  clear hh hws hls hd hbk hdk hgk
  go_enter Try.func7, Try.ntmps7
  go_upto_region 2 with (go_at_call 31; refine (Hal.out _).mono ?_; rintro e v1 ⟨rfl, hx1⟩)
  have gh1 := hx1.heap Gh0.out
  obtain ⟨y0, _⟩ := (Ext.refl v1).box gh1
  have hl1 := heap_lt gh1
  have Gh1 := Lib.hid gh1
  clear gh1
  go_upto_region 3 with fail
  have hx2 := hx1.alloc (.cells #[.int .i64 0, .int .i64 0, .int .i64 e0, .int .i64 e1, .int .i64 0, .int .i64 0, .int .i64 0, .int .i64 0] 29)
  have gm2 := heap_alloc_new v1 (.cells #[.int .i64 0, .int .i64 0, .int .i64 e0, .int .i64 e1, .int .i64 0, .int .i64 0, .int .i64 0, .int .i64 0] 29)
  have hp16 : w.heap.size + 1 + 1 < v1.heap.size := heap_lt (hx1.heap Gl0.out)
  generalize v1.alloc (.cells #[.int .i64 0, .int .i64 0, .int .i64 e0, .int .i64 e1, .int .i64 0, .int .i64 0, .int .i64 0, .int .i64 0] 29) = W2 at *
  generalize v1.heap.size = p16 at *
  have gb2 := hx2.heap Gb0.out
  have gl2 := hx2.heap Gl0.out
  have hx02 := Hx0.out.trans hx2
  clear y0 hl1 hx1 hx2 Gb0 Gh0 Gl0 Hx0 Hal Gh1 hW0
  have Gm2 := Lib.hid gm2
  have Gb2 := Lib.hid gb2
  have Gl2 := Lib.hid gl2
  have Hx02 := Lib.hid hx02
  clear gm2 gb2 gl2 hx02
  refine wp_region_lit ?_
  refine wpList_load_row rfl 25 (.tmp 7) rfl w.heap.size rfl 25 _ (0, 0) _ Gb2.out Try.underlying25 rfl (by kernel_rfl) ?_
  simp only [Act.put, List.setIfInBounds_toArray, List.set_cons_succ, List.set_cons_zero]
  refine wpList_seq (fun f hf hs => ?_)
  have f1 := fun q => ((hf q).box Gm2.out).1
  have f2 := fun q => ((hf q).box Gl2.out).1
  have Hf := Lib.hid hf
  have HS := Lib.hid hs
  clear hf hs
  repeat (go_big_quiet_step ((first | (go_at_call 32; exact Calls.ext_of (Hf.out _) HS.out (Hbr.out _)) | (go_at_call 10; exact Calls.ext_of (Hf.out _) HS.out (Hma.out _)) | (go_at_call 11; exact Calls.ext_of (Hf.out _) HS.out (Hgr.out _ (Hx02.out.trans (Hf.out _)))) | (go_at_call 33; exact Calls.ext_of (Hf.out _) HS.out (Hck.out _ (Hx02.out.trans (Hf.out _)))) | (go_at_call 34; exact Calls.ext_of (Hf.out _) HS.out (Hdw.out _ (Hx02.out.trans (Hf.out _)))))))
  refine wpQuiet_nil ?_
  intro W3 hW3
  clear f1 f2
  have hx3 := Hx02.out.trans hW3
  have Hx3 := Lib.hid hx3
  clear hx3
  clear hW3
  go_wp2_with fail
  go_ret
  exact ⟨rfl, Hx3.out⟩
set_option maxRecDepth 100000 in
set_option maxHeartbeats 16000000 in
theorem watered5
    (fu fe r0 r1 q0 q1 t0 t1 n0 n1 u0 u1 m0 m1 hz s0 s1 : Int) (ha : Option Addr) (hn hc : Nat) (herd : List Camel) (e0 e1 : Int) (wa : Option Addr) (wn wc : Nat) (la : Option Addr) (ln lc : Nat) (ws : List Well) (ls : List Leg) (we : Int) (da : Option Addr) (dn dc : Nat) (ds : List Draw) (day : Int) (w : World)
    (hh : CamelsAt w ha hn herd) (hhc : hn ≤ hc) (hhm : hc ≤ maxLen) (hws : WellsAt w wa wn ws) (hwc : wn ≤ wc) (hwm : wc ≤ maxLen) (hls : LegsAt w la ln ls) (hlc : ln ≤ lc) (hlm : lc ≤ maxLen) (hd : DrawsAt w da dn ds) (hdc : dn ≤ dc) (hdm : dc ≤ maxLen)
    (hbk : breedOk ⟨fu, fe, ⟨r0, r1⟩, ⟨q0, q1⟩, ⟨t0, t1⟩, ⟨n0, n1⟩, ⟨u0, u1⟩, ⟨m0, m1⟩, hz, ⟨s0, s1⟩⟩ = true) (hdk : dayOk (restDay ⟨e0, e1⟩ 0) = true) (h30 : ¬30 < (hn : Int)) (hgk : greatB ⟨ws, ls⟩ = false) (hlk : landOk ⟨ws, ls⟩ = false) :
    Calls Try.prog 7 #[.agg #[.int .i64 fu, .int .i64 fe, .int .i64 r0, .int .i64 r1, .int .i64 q0, .int .i64 q1, .int .i64 t0, .int .i64 t1, .int .i64 n0, .int .i64 n1, .int .i64 u0, .int .i64 u1, .int .i64 m0, .int .i64 m1, .int .i64 hz, .int .i64 s0, .int .i64 s1], .slice ha hn hc, .agg #[.int .i64 e0, .int .i64 e1], .agg #[.slice wa wn wc, .slice la ln lc], .int .i64 we, .slice da dn dc, .int .i64 day] w fun e w' => e = .returned (.bool true) ∧ Ext w w' := by
  have hal := alive03d_any
  have hbr := fun W => rcheckBreed_any ⟨fu, fe, ⟨r0, r1⟩, ⟨q0, q1⟩, ⟨t0, t1⟩, ⟨n0, n1⟩, ⟨u0, u1⟩, ⟨m0, m1⟩, hz, ⟨s0, s1⟩⟩ W
  have hma := fun W => rmarch_any (restDay ⟨e0, e1⟩ 0) W
  unfold Breed.val at hbr
  unfold March.val restDay at hma
  simp only at hbr hma
  have hgr := fun W (hW : Ext w W) => rgreat_any wa wn wc la ln lc ⟨ws, ls⟩ W hws.1 hwc hwm (hls.ext hW) hlc hlm
  have hx0 : Ext w (((w.alloc (.cells #[.int .i64 fu, .int .i64 fe, .int .i64 r0, .int .i64 r1, .int .i64 q0, .int .i64 q1, .int .i64 t0, .int .i64 t1, .int .i64 n0, .int .i64 n1, .int .i64 u0, .int .i64 u1, .int .i64 m0, .int .i64 m1, .int .i64 hz, .int .i64 s0, .int .i64 s1] 25)).alloc (.cells #[.int .i64 e0, .int .i64 e1] 23)).alloc (.cells #[.slice wa wn wc, .slice la ln lc] 33)) := (((Ext.refl w).alloc _).alloc _).alloc _
  have gb0 := alloc_heap (alloc_heap (heap_alloc_new w (.cells #[.int .i64 fu, .int .i64 fe, .int .i64 r0, .int .i64 r1, .int .i64 q0, .int .i64 q1, .int .i64 t0, .int .i64 t1, .int .i64 n0, .int .i64 n1, .int .i64 u0, .int .i64 u1, .int .i64 m0, .int .i64 m1, .int .i64 hz, .int .i64 s0, .int .i64 s1] 25)) (.cells #[.int .i64 e0, .int .i64 e1] 23)) (.cells #[.slice wa wn wc, .slice la ln lc] 33)
  have gh0 := alloc_heap (alloc_at (w.alloc (.cells #[.int .i64 fu, .int .i64 fe, .int .i64 r0, .int .i64 r1, .int .i64 q0, .int .i64 q1, .int .i64 t0, .int .i64 t1, .int .i64 n0, .int .i64 n1, .int .i64 u0, .int .i64 u1, .int .i64 m0, .int .i64 m1, .int .i64 hz, .int .i64 s0, .int .i64 s1] 25)) (.cells #[.int .i64 e0, .int .i64 e1] 23) (w.heap.size + 1) (by simp)) (.cells #[.slice wa wn wc, .slice la ln lc] 33)
  have gl0 := alloc_at ((w.alloc (.cells #[.int .i64 fu, .int .i64 fe, .int .i64 r0, .int .i64 r1, .int .i64 q0, .int .i64 q1, .int .i64 t0, .int .i64 t1, .int .i64 n0, .int .i64 n1, .int .i64 u0, .int .i64 u1, .int .i64 m0, .int .i64 m1, .int .i64 hz, .int .i64 s0, .int .i64 s1] 25)).alloc (.cells #[.int .i64 e0, .int .i64 e1] 23)) (.cells #[.slice wa wn wc, .slice la ln lc] 33) (w.heap.size + 1 + 1) (by simp)
  generalize hW0 : ((w.alloc (.cells #[.int .i64 fu, .int .i64 fe, .int .i64 r0, .int .i64 r1, .int .i64 q0, .int .i64 q1, .int .i64 t0, .int .i64 t1, .int .i64 n0, .int .i64 n1, .int .i64 u0, .int .i64 u1, .int .i64 m0, .int .i64 m1, .int .i64 hz, .int .i64 s0, .int .i64 s1] 25)).alloc (.cells #[.int .i64 e0, .int .i64 e1] 23)).alloc (.cells #[.slice wa wn wc, .slice la ln lc] 33) = W0 at *
  rw [show breedErr ⟨fu, fe, ⟨r0, r1⟩, ⟨q0, q1⟩, ⟨t0, t1⟩, ⟨n0, n1⟩, ⟨u0, u1⟩, ⟨m0, m1⟩, hz, ⟨s0, s1⟩⟩ = 0 by unfold breedErr; rw [hbk]; rfl] at hbr
  rw [show dayOk ⟨0, 0, ⟨e0, e1⟩, ⟨0, 0⟩, ⟨0, 0⟩⟩ = true from hdk] at hma
  have h30B : decide (30 < (hn : Int)) = false := decide_eq_false h30
  rw [hgk] at hgr
  have hsm := great_small hgk
  have hck := fun W (hW : Ext w W) => check3_any wa wn wc la ln lc ⟨ws, ls⟩ W ⟨hws.ext hW, hls.ext hW, hwc, hwm, hlc, hlm, by have := hws.1; simp only at hsm; omega, by have := hls.1; simp only at hsm; omega⟩
  rw [show checkErr3 ⟨ws, ls⟩ = 30 by unfold checkErr3; rw [hlk]; rfl] at hck
  have hdw := trivial
  have Hal := Lib.hid hal
  have Hbr := Lib.hid hbr
  have Hma := Lib.hid hma
  have Hgr := Lib.hid hgr
  have Hx0 := Lib.hid hx0
  have Gb0 := Lib.hid gb0
  have Gh0 := Lib.hid gh0
  have Gl0 := Lib.hid gl0
  have Hck := Lib.hid hck
  have Hdw := Lib.hid hdw
  clear hal hbr hma hgr hx0 gb0 gh0 gl0 hck hdw
  clear hh hws hls hd hbk hdk hgk hlk hsm
  go_enter Try.func7, Try.ntmps7
  go_upto_region 2 with (go_at_call 31; refine (Hal.out _).mono ?_; rintro e v1 ⟨rfl, hx1⟩)
  have gh1 := hx1.heap Gh0.out
  obtain ⟨y0, _⟩ := (Ext.refl v1).box gh1
  have hl1 := heap_lt gh1
  have Gh1 := Lib.hid gh1
  clear gh1
  go_upto_region 3 with fail
  have hx2 := hx1.alloc (.cells #[.int .i64 0, .int .i64 0, .int .i64 e0, .int .i64 e1, .int .i64 0, .int .i64 0, .int .i64 0, .int .i64 0] 29)
  have gm2 := heap_alloc_new v1 (.cells #[.int .i64 0, .int .i64 0, .int .i64 e0, .int .i64 e1, .int .i64 0, .int .i64 0, .int .i64 0, .int .i64 0] 29)
  have hp16 : w.heap.size + 1 + 1 < v1.heap.size := heap_lt (hx1.heap Gl0.out)
  generalize v1.alloc (.cells #[.int .i64 0, .int .i64 0, .int .i64 e0, .int .i64 e1, .int .i64 0, .int .i64 0, .int .i64 0, .int .i64 0] 29) = W2 at *
  generalize v1.heap.size = p16 at *
  have gb2 := hx2.heap Gb0.out
  have gl2 := hx2.heap Gl0.out
  have hx02 := Hx0.out.trans hx2
  clear y0 hl1 hx1 hx2 Gb0 Gh0 Gl0 Hx0 Hal Gh1 hW0
  have Gm2 := Lib.hid gm2
  have Gb2 := Lib.hid gb2
  have Gl2 := Lib.hid gl2
  have Hx02 := Lib.hid hx02
  clear gm2 gb2 gl2 hx02
  refine wp_region_lit ?_
  refine wpList_load_row rfl 25 (.tmp 7) rfl w.heap.size rfl 25 _ (0, 0) _ Gb2.out Try.underlying25 rfl (by kernel_rfl) ?_
  simp only [Act.put, List.setIfInBounds_toArray, List.set_cons_succ, List.set_cons_zero]
  refine wpList_seq (fun f hf hs => ?_)
  have f1 := fun q => ((hf q).box Gm2.out).1
  have f2 := fun q => ((hf q).box Gl2.out).1
  have Hf := Lib.hid hf
  have HS := Lib.hid hs
  clear hf hs
  repeat (go_big_quiet_step ((first | (go_at_call 32; exact Calls.ext_of (Hf.out _) HS.out (Hbr.out _)) | (go_at_call 10; exact Calls.ext_of (Hf.out _) HS.out (Hma.out _)) | (go_at_call 11; exact Calls.ext_of (Hf.out _) HS.out (Hgr.out _ (Hx02.out.trans (Hf.out _)))) | (go_at_call 33; exact Calls.ext_of (Hf.out _) HS.out (Hck.out _ (Hx02.out.trans (Hf.out _)))) | (go_at_call 34; exact Calls.ext_of (Hf.out _) HS.out (Hdw.out _ (Hx02.out.trans (Hf.out _)))))))
  refine wpQuiet_nil ?_
  intro W3 hW3
  clear f1 f2
  have hx3 := Hx02.out.trans hW3
  have Hx3 := Lib.hid hx3
  clear hx3
  clear hW3
  go_wp2_with fail
  go_ret
  exact ⟨rfl, Hx3.out⟩
set_option maxRecDepth 100000 in
set_option maxHeartbeats 16000000 in
theorem watered6
    (fu fe r0 r1 q0 q1 t0 t1 n0 n1 u0 u1 m0 m1 hz s0 s1 : Int) (ha : Option Addr) (hn hc : Nat) (herd : List Camel) (e0 e1 : Int) (wa : Option Addr) (wn wc : Nat) (la : Option Addr) (ln lc : Nat) (ws : List Well) (ls : List Leg) (we : Int) (da : Option Addr) (dn dc : Nat) (ds : List Draw) (day : Int) (w : World)
    (hh : CamelsAt w ha hn herd) (hhc : hn ≤ hc) (hhm : hc ≤ maxLen) (hws : WellsAt w wa wn ws) (hwc : wn ≤ wc) (hwm : wc ≤ maxLen) (hls : LegsAt w la ln ls) (hlc : ln ≤ lc) (hlm : lc ≤ maxLen) (hd : DrawsAt w da dn ds) (hdc : dn ≤ dc) (hdm : dc ≤ maxLen)
    (hbk : breedOk ⟨fu, fe, ⟨r0, r1⟩, ⟨q0, q1⟩, ⟨t0, t1⟩, ⟨n0, n1⟩, ⟨u0, u1⟩, ⟨m0, m1⟩, hz, ⟨s0, s1⟩⟩ = true) (hdk : dayOk (restDay ⟨e0, e1⟩ 0) = true) (h30 : ¬30 < (hn : Int)) (hgk : greatB ⟨ws, ls⟩ = false) (hlk : landOk ⟨ws, ls⟩ = true) (hw0 : we < 0) :
    Calls Try.prog 7 #[.agg #[.int .i64 fu, .int .i64 fe, .int .i64 r0, .int .i64 r1, .int .i64 q0, .int .i64 q1, .int .i64 t0, .int .i64 t1, .int .i64 n0, .int .i64 n1, .int .i64 u0, .int .i64 u1, .int .i64 m0, .int .i64 m1, .int .i64 hz, .int .i64 s0, .int .i64 s1], .slice ha hn hc, .agg #[.int .i64 e0, .int .i64 e1], .agg #[.slice wa wn wc, .slice la ln lc], .int .i64 we, .slice da dn dc, .int .i64 day] w fun e w' => e = .returned (.bool true) ∧ Ext w w' := by
  have hal := alive03d_any
  have hbr := fun W => rcheckBreed_any ⟨fu, fe, ⟨r0, r1⟩, ⟨q0, q1⟩, ⟨t0, t1⟩, ⟨n0, n1⟩, ⟨u0, u1⟩, ⟨m0, m1⟩, hz, ⟨s0, s1⟩⟩ W
  have hma := fun W => rmarch_any (restDay ⟨e0, e1⟩ 0) W
  unfold Breed.val at hbr
  unfold March.val restDay at hma
  simp only at hbr hma
  have hgr := fun W (hW : Ext w W) => rgreat_any wa wn wc la ln lc ⟨ws, ls⟩ W hws.1 hwc hwm (hls.ext hW) hlc hlm
  have hx0 : Ext w (((w.alloc (.cells #[.int .i64 fu, .int .i64 fe, .int .i64 r0, .int .i64 r1, .int .i64 q0, .int .i64 q1, .int .i64 t0, .int .i64 t1, .int .i64 n0, .int .i64 n1, .int .i64 u0, .int .i64 u1, .int .i64 m0, .int .i64 m1, .int .i64 hz, .int .i64 s0, .int .i64 s1] 25)).alloc (.cells #[.int .i64 e0, .int .i64 e1] 23)).alloc (.cells #[.slice wa wn wc, .slice la ln lc] 33)) := (((Ext.refl w).alloc _).alloc _).alloc _
  have gb0 := alloc_heap (alloc_heap (heap_alloc_new w (.cells #[.int .i64 fu, .int .i64 fe, .int .i64 r0, .int .i64 r1, .int .i64 q0, .int .i64 q1, .int .i64 t0, .int .i64 t1, .int .i64 n0, .int .i64 n1, .int .i64 u0, .int .i64 u1, .int .i64 m0, .int .i64 m1, .int .i64 hz, .int .i64 s0, .int .i64 s1] 25)) (.cells #[.int .i64 e0, .int .i64 e1] 23)) (.cells #[.slice wa wn wc, .slice la ln lc] 33)
  have gh0 := alloc_heap (alloc_at (w.alloc (.cells #[.int .i64 fu, .int .i64 fe, .int .i64 r0, .int .i64 r1, .int .i64 q0, .int .i64 q1, .int .i64 t0, .int .i64 t1, .int .i64 n0, .int .i64 n1, .int .i64 u0, .int .i64 u1, .int .i64 m0, .int .i64 m1, .int .i64 hz, .int .i64 s0, .int .i64 s1] 25)) (.cells #[.int .i64 e0, .int .i64 e1] 23) (w.heap.size + 1) (by simp)) (.cells #[.slice wa wn wc, .slice la ln lc] 33)
  have gl0 := alloc_at ((w.alloc (.cells #[.int .i64 fu, .int .i64 fe, .int .i64 r0, .int .i64 r1, .int .i64 q0, .int .i64 q1, .int .i64 t0, .int .i64 t1, .int .i64 n0, .int .i64 n1, .int .i64 u0, .int .i64 u1, .int .i64 m0, .int .i64 m1, .int .i64 hz, .int .i64 s0, .int .i64 s1] 25)).alloc (.cells #[.int .i64 e0, .int .i64 e1] 23)) (.cells #[.slice wa wn wc, .slice la ln lc] 33) (w.heap.size + 1 + 1) (by simp)
  generalize hW0 : ((w.alloc (.cells #[.int .i64 fu, .int .i64 fe, .int .i64 r0, .int .i64 r1, .int .i64 q0, .int .i64 q1, .int .i64 t0, .int .i64 t1, .int .i64 n0, .int .i64 n1, .int .i64 u0, .int .i64 u1, .int .i64 m0, .int .i64 m1, .int .i64 hz, .int .i64 s0, .int .i64 s1] 25)).alloc (.cells #[.int .i64 e0, .int .i64 e1] 23)).alloc (.cells #[.slice wa wn wc, .slice la ln lc] 33) = W0 at *
  rw [show breedErr ⟨fu, fe, ⟨r0, r1⟩, ⟨q0, q1⟩, ⟨t0, t1⟩, ⟨n0, n1⟩, ⟨u0, u1⟩, ⟨m0, m1⟩, hz, ⟨s0, s1⟩⟩ = 0 by unfold breedErr; rw [hbk]; rfl] at hbr
  rw [show dayOk ⟨0, 0, ⟨e0, e1⟩, ⟨0, 0⟩, ⟨0, 0⟩⟩ = true from hdk] at hma
  have h30B : decide (30 < (hn : Int)) = false := decide_eq_false h30
  rw [hgk] at hgr
  have hsm := great_small hgk
  have hck := fun W (hW : Ext w W) => check3_any wa wn wc la ln lc ⟨ws, ls⟩ W ⟨hws.ext hW, hls.ext hW, hwc, hwm, hlc, hlm, by have := hws.1; simp only at hsm; omega, by have := hls.1; simp only at hsm; omega⟩
  rw [show checkErr3 ⟨ws, ls⟩ = 0 by unfold checkErr3; rw [hlk]; rfl] at hck
  have hw0B : decide (we < 0) = true := decide_eq_true hw0
  have hdw := trivial
  have Hal := Lib.hid hal
  have Hbr := Lib.hid hbr
  have Hma := Lib.hid hma
  have Hgr := Lib.hid hgr
  have Hx0 := Lib.hid hx0
  have Gb0 := Lib.hid gb0
  have Gh0 := Lib.hid gh0
  have Gl0 := Lib.hid gl0
  have Hck := Lib.hid hck
  have Hdw := Lib.hid hdw
  clear hal hbr hma hgr hx0 gb0 gh0 gl0 hck hdw
  clear hh hws hls hd hbk hdk hgk hlk hsm
  go_enter Try.func7, Try.ntmps7
  go_upto_region 2 with (go_at_call 31; refine (Hal.out _).mono ?_; rintro e v1 ⟨rfl, hx1⟩)
  have gh1 := hx1.heap Gh0.out
  obtain ⟨y0, _⟩ := (Ext.refl v1).box gh1
  have hl1 := heap_lt gh1
  have Gh1 := Lib.hid gh1
  clear gh1
  go_upto_region 3 with fail
  have hx2 := hx1.alloc (.cells #[.int .i64 0, .int .i64 0, .int .i64 e0, .int .i64 e1, .int .i64 0, .int .i64 0, .int .i64 0, .int .i64 0] 29)
  have gm2 := heap_alloc_new v1 (.cells #[.int .i64 0, .int .i64 0, .int .i64 e0, .int .i64 e1, .int .i64 0, .int .i64 0, .int .i64 0, .int .i64 0] 29)
  have hp16 : w.heap.size + 1 + 1 < v1.heap.size := heap_lt (hx1.heap Gl0.out)
  generalize v1.alloc (.cells #[.int .i64 0, .int .i64 0, .int .i64 e0, .int .i64 e1, .int .i64 0, .int .i64 0, .int .i64 0, .int .i64 0] 29) = W2 at *
  generalize v1.heap.size = p16 at *
  have gb2 := hx2.heap Gb0.out
  have gl2 := hx2.heap Gl0.out
  have hx02 := Hx0.out.trans hx2
  clear y0 hl1 hx1 hx2 Gb0 Gh0 Gl0 Hx0 Hal Gh1 hW0
  have Gm2 := Lib.hid gm2
  have Gb2 := Lib.hid gb2
  have Gl2 := Lib.hid gl2
  have Hx02 := Lib.hid hx02
  clear gm2 gb2 gl2 hx02
  refine wp_region_lit ?_
  refine wpList_load_row rfl 25 (.tmp 7) rfl w.heap.size rfl 25 _ (0, 0) _ Gb2.out Try.underlying25 rfl (by kernel_rfl) ?_
  simp only [Act.put, List.setIfInBounds_toArray, List.set_cons_succ, List.set_cons_zero]
  refine wpList_seq (fun f hf hs => ?_)
  have f1 := fun q => ((hf q).box Gm2.out).1
  have f2 := fun q => ((hf q).box Gl2.out).1
  have Hf := Lib.hid hf
  have HS := Lib.hid hs
  clear hf hs
  repeat (go_big_quiet_step ((first | (go_at_call 32; exact Calls.ext_of (Hf.out _) HS.out (Hbr.out _)) | (go_at_call 10; exact Calls.ext_of (Hf.out _) HS.out (Hma.out _)) | (go_at_call 11; exact Calls.ext_of (Hf.out _) HS.out (Hgr.out _ (Hx02.out.trans (Hf.out _)))) | (go_at_call 33; exact Calls.ext_of (Hf.out _) HS.out (Hck.out _ (Hx02.out.trans (Hf.out _)))) | (go_at_call 34; exact Calls.ext_of (Hf.out _) HS.out (Hdw.out _ (Hx02.out.trans (Hf.out _)))))))
  refine wpQuiet_nil ?_
  intro W3 hW3
  clear f1 f2
  have hx3 := Hx02.out.trans hW3
  have Hx3 := Lib.hid hx3
  clear hx3
  clear hW3
  go_wp2_with fail
  go_ret
  exact ⟨rfl, Hx3.out⟩
set_option maxRecDepth 100000 in
set_option maxHeartbeats 16000000 in
theorem watered7
    (fu fe r0 r1 q0 q1 t0 t1 n0 n1 u0 u1 m0 m1 hz s0 s1 : Int) (ha : Option Addr) (hn hc : Nat) (herd : List Camel) (e0 e1 : Int) (wa : Option Addr) (wn wc : Nat) (la : Option Addr) (ln lc : Nat) (ws : List Well) (ls : List Leg) (we : Int) (da : Option Addr) (dn dc : Nat) (ds : List Draw) (day : Int) (w : World)
    (hh : CamelsAt w ha hn herd) (hhc : hn ≤ hc) (hhm : hc ≤ maxLen) (hws : WellsAt w wa wn ws) (hwc : wn ≤ wc) (hwm : wc ≤ maxLen) (hls : LegsAt w la ln ls) (hlc : ln ≤ lc) (hlm : lc ≤ maxLen) (hd : DrawsAt w da dn ds) (hdc : dn ≤ dc) (hdm : dc ≤ maxLen)
    (hbk : breedOk ⟨fu, fe, ⟨r0, r1⟩, ⟨q0, q1⟩, ⟨t0, t1⟩, ⟨n0, n1⟩, ⟨u0, u1⟩, ⟨m0, m1⟩, hz, ⟨s0, s1⟩⟩ = true) (hdk : dayOk (restDay ⟨e0, e1⟩ 0) = true) (h30 : ¬30 < (hn : Int)) (hgk : greatB ⟨ws, ls⟩ = false) (hlk : landOk ⟨ws, ls⟩ = true) (hw0 : ¬we < 0) (hw1 : (wn : Int) ≤ we) :
    Calls Try.prog 7 #[.agg #[.int .i64 fu, .int .i64 fe, .int .i64 r0, .int .i64 r1, .int .i64 q0, .int .i64 q1, .int .i64 t0, .int .i64 t1, .int .i64 n0, .int .i64 n1, .int .i64 u0, .int .i64 u1, .int .i64 m0, .int .i64 m1, .int .i64 hz, .int .i64 s0, .int .i64 s1], .slice ha hn hc, .agg #[.int .i64 e0, .int .i64 e1], .agg #[.slice wa wn wc, .slice la ln lc], .int .i64 we, .slice da dn dc, .int .i64 day] w fun e w' => e = .returned (.bool true) ∧ Ext w w' := by
  have hal := alive03d_any
  have hbr := fun W => rcheckBreed_any ⟨fu, fe, ⟨r0, r1⟩, ⟨q0, q1⟩, ⟨t0, t1⟩, ⟨n0, n1⟩, ⟨u0, u1⟩, ⟨m0, m1⟩, hz, ⟨s0, s1⟩⟩ W
  have hma := fun W => rmarch_any (restDay ⟨e0, e1⟩ 0) W
  unfold Breed.val at hbr
  unfold March.val restDay at hma
  simp only at hbr hma
  have hgr := fun W (hW : Ext w W) => rgreat_any wa wn wc la ln lc ⟨ws, ls⟩ W hws.1 hwc hwm (hls.ext hW) hlc hlm
  have hx0 : Ext w (((w.alloc (.cells #[.int .i64 fu, .int .i64 fe, .int .i64 r0, .int .i64 r1, .int .i64 q0, .int .i64 q1, .int .i64 t0, .int .i64 t1, .int .i64 n0, .int .i64 n1, .int .i64 u0, .int .i64 u1, .int .i64 m0, .int .i64 m1, .int .i64 hz, .int .i64 s0, .int .i64 s1] 25)).alloc (.cells #[.int .i64 e0, .int .i64 e1] 23)).alloc (.cells #[.slice wa wn wc, .slice la ln lc] 33)) := (((Ext.refl w).alloc _).alloc _).alloc _
  have gb0 := alloc_heap (alloc_heap (heap_alloc_new w (.cells #[.int .i64 fu, .int .i64 fe, .int .i64 r0, .int .i64 r1, .int .i64 q0, .int .i64 q1, .int .i64 t0, .int .i64 t1, .int .i64 n0, .int .i64 n1, .int .i64 u0, .int .i64 u1, .int .i64 m0, .int .i64 m1, .int .i64 hz, .int .i64 s0, .int .i64 s1] 25)) (.cells #[.int .i64 e0, .int .i64 e1] 23)) (.cells #[.slice wa wn wc, .slice la ln lc] 33)
  have gh0 := alloc_heap (alloc_at (w.alloc (.cells #[.int .i64 fu, .int .i64 fe, .int .i64 r0, .int .i64 r1, .int .i64 q0, .int .i64 q1, .int .i64 t0, .int .i64 t1, .int .i64 n0, .int .i64 n1, .int .i64 u0, .int .i64 u1, .int .i64 m0, .int .i64 m1, .int .i64 hz, .int .i64 s0, .int .i64 s1] 25)) (.cells #[.int .i64 e0, .int .i64 e1] 23) (w.heap.size + 1) (by simp)) (.cells #[.slice wa wn wc, .slice la ln lc] 33)
  have gl0 := alloc_at ((w.alloc (.cells #[.int .i64 fu, .int .i64 fe, .int .i64 r0, .int .i64 r1, .int .i64 q0, .int .i64 q1, .int .i64 t0, .int .i64 t1, .int .i64 n0, .int .i64 n1, .int .i64 u0, .int .i64 u1, .int .i64 m0, .int .i64 m1, .int .i64 hz, .int .i64 s0, .int .i64 s1] 25)).alloc (.cells #[.int .i64 e0, .int .i64 e1] 23)) (.cells #[.slice wa wn wc, .slice la ln lc] 33) (w.heap.size + 1 + 1) (by simp)
  generalize hW0 : ((w.alloc (.cells #[.int .i64 fu, .int .i64 fe, .int .i64 r0, .int .i64 r1, .int .i64 q0, .int .i64 q1, .int .i64 t0, .int .i64 t1, .int .i64 n0, .int .i64 n1, .int .i64 u0, .int .i64 u1, .int .i64 m0, .int .i64 m1, .int .i64 hz, .int .i64 s0, .int .i64 s1] 25)).alloc (.cells #[.int .i64 e0, .int .i64 e1] 23)).alloc (.cells #[.slice wa wn wc, .slice la ln lc] 33) = W0 at *
  rw [show breedErr ⟨fu, fe, ⟨r0, r1⟩, ⟨q0, q1⟩, ⟨t0, t1⟩, ⟨n0, n1⟩, ⟨u0, u1⟩, ⟨m0, m1⟩, hz, ⟨s0, s1⟩⟩ = 0 by unfold breedErr; rw [hbk]; rfl] at hbr
  rw [show dayOk ⟨0, 0, ⟨e0, e1⟩, ⟨0, 0⟩, ⟨0, 0⟩⟩ = true from hdk] at hma
  have h30B : decide (30 < (hn : Int)) = false := decide_eq_false h30
  rw [hgk] at hgr
  have hsm := great_small hgk
  have hck := fun W (hW : Ext w W) => check3_any wa wn wc la ln lc ⟨ws, ls⟩ W ⟨hws.ext hW, hls.ext hW, hwc, hwm, hlc, hlm, by have := hws.1; simp only at hsm; omega, by have := hls.1; simp only at hsm; omega⟩
  rw [show checkErr3 ⟨ws, ls⟩ = 0 by unfold checkErr3; rw [hlk]; rfl] at hck
  have hw0B : decide (we < 0) = false := decide_eq_false hw0
  have hw1B : decide ((wn : Int) ≤ we) = true := decide_eq_true hw1
  have hdw := trivial
  have Hal := Lib.hid hal
  have Hbr := Lib.hid hbr
  have Hma := Lib.hid hma
  have Hgr := Lib.hid hgr
  have Hx0 := Lib.hid hx0
  have Gb0 := Lib.hid gb0
  have Gh0 := Lib.hid gh0
  have Gl0 := Lib.hid gl0
  have Hck := Lib.hid hck
  have Hdw := Lib.hid hdw
  clear hal hbr hma hgr hx0 gb0 gh0 gl0 hck hdw
  clear hh hws hls hd hbk hdk hgk hlk hsm
  go_enter Try.func7, Try.ntmps7
  go_upto_region 2 with (go_at_call 31; refine (Hal.out _).mono ?_; rintro e v1 ⟨rfl, hx1⟩)
  have gh1 := hx1.heap Gh0.out
  obtain ⟨y0, _⟩ := (Ext.refl v1).box gh1
  have hl1 := heap_lt gh1
  have Gh1 := Lib.hid gh1
  clear gh1
  go_upto_region 3 with fail
  have hx2 := hx1.alloc (.cells #[.int .i64 0, .int .i64 0, .int .i64 e0, .int .i64 e1, .int .i64 0, .int .i64 0, .int .i64 0, .int .i64 0] 29)
  have gm2 := heap_alloc_new v1 (.cells #[.int .i64 0, .int .i64 0, .int .i64 e0, .int .i64 e1, .int .i64 0, .int .i64 0, .int .i64 0, .int .i64 0] 29)
  have hp16 : w.heap.size + 1 + 1 < v1.heap.size := heap_lt (hx1.heap Gl0.out)
  generalize v1.alloc (.cells #[.int .i64 0, .int .i64 0, .int .i64 e0, .int .i64 e1, .int .i64 0, .int .i64 0, .int .i64 0, .int .i64 0] 29) = W2 at *
  generalize v1.heap.size = p16 at *
  have gb2 := hx2.heap Gb0.out
  have gl2 := hx2.heap Gl0.out
  have hx02 := Hx0.out.trans hx2
  clear y0 hl1 hx1 hx2 Gb0 Gh0 Gl0 Hx0 Hal Gh1 hW0
  have Gm2 := Lib.hid gm2
  have Gb2 := Lib.hid gb2
  have Gl2 := Lib.hid gl2
  have Hx02 := Lib.hid hx02
  clear gm2 gb2 gl2 hx02
  refine wp_region_lit ?_
  refine wpList_load_row rfl 25 (.tmp 7) rfl w.heap.size rfl 25 _ (0, 0) _ Gb2.out Try.underlying25 rfl (by kernel_rfl) ?_
  simp only [Act.put, List.setIfInBounds_toArray, List.set_cons_succ, List.set_cons_zero]
  refine wpList_seq (fun f hf hs => ?_)
  have f1 := fun q => ((hf q).box Gm2.out).1
  have f2 := fun q => ((hf q).box Gl2.out).1
  have Hf := Lib.hid hf
  have HS := Lib.hid hs
  clear hf hs
  repeat (go_big_quiet_step ((first | (go_at_call 32; exact Calls.ext_of (Hf.out _) HS.out (Hbr.out _)) | (go_at_call 10; exact Calls.ext_of (Hf.out _) HS.out (Hma.out _)) | (go_at_call 11; exact Calls.ext_of (Hf.out _) HS.out (Hgr.out _ (Hx02.out.trans (Hf.out _)))) | (go_at_call 33; exact Calls.ext_of (Hf.out _) HS.out (Hck.out _ (Hx02.out.trans (Hf.out _)))) | (go_at_call 34; exact Calls.ext_of (Hf.out _) HS.out (Hdw.out _ (Hx02.out.trans (Hf.out _)))))))
  refine wpQuiet_nil ?_
  intro W3 hW3
  clear f1 f2
  have hx3 := Hx02.out.trans hW3
  have Hx3 := Lib.hid hx3
  clear hx3
  clear hW3
  go_wp2_with fail
  go_ret
  exact ⟨rfl, Hx3.out⟩
set_option maxRecDepth 100000 in
set_option maxHeartbeats 16000000 in
theorem watered8
    (fu fe r0 r1 q0 q1 t0 t1 n0 n1 u0 u1 m0 m1 hz s0 s1 : Int) (ha : Option Addr) (hn hc : Nat) (herd : List Camel) (e0 e1 : Int) (wa : Option Addr) (wn wc : Nat) (la : Option Addr) (ln lc : Nat) (ws : List Well) (ls : List Leg) (we : Int) (da : Option Addr) (dn dc : Nat) (ds : List Draw) (day : Int) (w : World)
    (hh : CamelsAt w ha hn herd) (hhc : hn ≤ hc) (hhm : hc ≤ maxLen) (hws : WellsAt w wa wn ws) (hwc : wn ≤ wc) (hwm : wc ≤ maxLen) (hls : LegsAt w la ln ls) (hlc : ln ≤ lc) (hlm : lc ≤ maxLen) (hd : DrawsAt w da dn ds) (hdc : dn ≤ dc) (hdm : dc ≤ maxLen)
    (hbk : breedOk ⟨fu, fe, ⟨r0, r1⟩, ⟨q0, q1⟩, ⟨t0, t1⟩, ⟨n0, n1⟩, ⟨u0, u1⟩, ⟨m0, m1⟩, hz, ⟨s0, s1⟩⟩ = true) (hdk : dayOk (restDay ⟨e0, e1⟩ 0) = true) (h30 : ¬30 < (hn : Int)) (hgk : greatB ⟨ws, ls⟩ = false) (hlk : landOk ⟨ws, ls⟩ = true) (hw0 : ¬we < 0) (hw1 : ¬(wn : Int) ≤ we) (hd0 : day < 1) :
    Calls Try.prog 7 #[.agg #[.int .i64 fu, .int .i64 fe, .int .i64 r0, .int .i64 r1, .int .i64 q0, .int .i64 q1, .int .i64 t0, .int .i64 t1, .int .i64 n0, .int .i64 n1, .int .i64 u0, .int .i64 u1, .int .i64 m0, .int .i64 m1, .int .i64 hz, .int .i64 s0, .int .i64 s1], .slice ha hn hc, .agg #[.int .i64 e0, .int .i64 e1], .agg #[.slice wa wn wc, .slice la ln lc], .int .i64 we, .slice da dn dc, .int .i64 day] w fun e w' => e = .returned (.bool true) ∧ Ext w w' := by
  have hal := alive03d_any
  have hbr := fun W => rcheckBreed_any ⟨fu, fe, ⟨r0, r1⟩, ⟨q0, q1⟩, ⟨t0, t1⟩, ⟨n0, n1⟩, ⟨u0, u1⟩, ⟨m0, m1⟩, hz, ⟨s0, s1⟩⟩ W
  have hma := fun W => rmarch_any (restDay ⟨e0, e1⟩ 0) W
  unfold Breed.val at hbr
  unfold March.val restDay at hma
  simp only at hbr hma
  have hgr := fun W (hW : Ext w W) => rgreat_any wa wn wc la ln lc ⟨ws, ls⟩ W hws.1 hwc hwm (hls.ext hW) hlc hlm
  have hx0 : Ext w (((w.alloc (.cells #[.int .i64 fu, .int .i64 fe, .int .i64 r0, .int .i64 r1, .int .i64 q0, .int .i64 q1, .int .i64 t0, .int .i64 t1, .int .i64 n0, .int .i64 n1, .int .i64 u0, .int .i64 u1, .int .i64 m0, .int .i64 m1, .int .i64 hz, .int .i64 s0, .int .i64 s1] 25)).alloc (.cells #[.int .i64 e0, .int .i64 e1] 23)).alloc (.cells #[.slice wa wn wc, .slice la ln lc] 33)) := (((Ext.refl w).alloc _).alloc _).alloc _
  have gb0 := alloc_heap (alloc_heap (heap_alloc_new w (.cells #[.int .i64 fu, .int .i64 fe, .int .i64 r0, .int .i64 r1, .int .i64 q0, .int .i64 q1, .int .i64 t0, .int .i64 t1, .int .i64 n0, .int .i64 n1, .int .i64 u0, .int .i64 u1, .int .i64 m0, .int .i64 m1, .int .i64 hz, .int .i64 s0, .int .i64 s1] 25)) (.cells #[.int .i64 e0, .int .i64 e1] 23)) (.cells #[.slice wa wn wc, .slice la ln lc] 33)
  have gh0 := alloc_heap (alloc_at (w.alloc (.cells #[.int .i64 fu, .int .i64 fe, .int .i64 r0, .int .i64 r1, .int .i64 q0, .int .i64 q1, .int .i64 t0, .int .i64 t1, .int .i64 n0, .int .i64 n1, .int .i64 u0, .int .i64 u1, .int .i64 m0, .int .i64 m1, .int .i64 hz, .int .i64 s0, .int .i64 s1] 25)) (.cells #[.int .i64 e0, .int .i64 e1] 23) (w.heap.size + 1) (by simp)) (.cells #[.slice wa wn wc, .slice la ln lc] 33)
  have gl0 := alloc_at ((w.alloc (.cells #[.int .i64 fu, .int .i64 fe, .int .i64 r0, .int .i64 r1, .int .i64 q0, .int .i64 q1, .int .i64 t0, .int .i64 t1, .int .i64 n0, .int .i64 n1, .int .i64 u0, .int .i64 u1, .int .i64 m0, .int .i64 m1, .int .i64 hz, .int .i64 s0, .int .i64 s1] 25)).alloc (.cells #[.int .i64 e0, .int .i64 e1] 23)) (.cells #[.slice wa wn wc, .slice la ln lc] 33) (w.heap.size + 1 + 1) (by simp)
  generalize hW0 : ((w.alloc (.cells #[.int .i64 fu, .int .i64 fe, .int .i64 r0, .int .i64 r1, .int .i64 q0, .int .i64 q1, .int .i64 t0, .int .i64 t1, .int .i64 n0, .int .i64 n1, .int .i64 u0, .int .i64 u1, .int .i64 m0, .int .i64 m1, .int .i64 hz, .int .i64 s0, .int .i64 s1] 25)).alloc (.cells #[.int .i64 e0, .int .i64 e1] 23)).alloc (.cells #[.slice wa wn wc, .slice la ln lc] 33) = W0 at *
  rw [show breedErr ⟨fu, fe, ⟨r0, r1⟩, ⟨q0, q1⟩, ⟨t0, t1⟩, ⟨n0, n1⟩, ⟨u0, u1⟩, ⟨m0, m1⟩, hz, ⟨s0, s1⟩⟩ = 0 by unfold breedErr; rw [hbk]; rfl] at hbr
  rw [show dayOk ⟨0, 0, ⟨e0, e1⟩, ⟨0, 0⟩, ⟨0, 0⟩⟩ = true from hdk] at hma
  have h30B : decide (30 < (hn : Int)) = false := decide_eq_false h30
  rw [hgk] at hgr
  have hsm := great_small hgk
  have hck := fun W (hW : Ext w W) => check3_any wa wn wc la ln lc ⟨ws, ls⟩ W ⟨hws.ext hW, hls.ext hW, hwc, hwm, hlc, hlm, by have := hws.1; simp only at hsm; omega, by have := hls.1; simp only at hsm; omega⟩
  rw [show checkErr3 ⟨ws, ls⟩ = 0 by unfold checkErr3; rw [hlk]; rfl] at hck
  have hw0B : decide (we < 0) = false := decide_eq_false hw0
  have hw1B : decide ((wn : Int) ≤ we) = false := decide_eq_false hw1
  have hd0B : decide (day < 1) = true := decide_eq_true hd0
  have hdw := trivial
  have Hal := Lib.hid hal
  have Hbr := Lib.hid hbr
  have Hma := Lib.hid hma
  have Hgr := Lib.hid hgr
  have Hx0 := Lib.hid hx0
  have Gb0 := Lib.hid gb0
  have Gh0 := Lib.hid gh0
  have Gl0 := Lib.hid gl0
  have Hck := Lib.hid hck
  have Hdw := Lib.hid hdw
  clear hal hbr hma hgr hx0 gb0 gh0 gl0 hck hdw
  clear hh hws hls hd hbk hdk hgk hlk hsm
  go_enter Try.func7, Try.ntmps7
  go_upto_region 2 with (go_at_call 31; refine (Hal.out _).mono ?_; rintro e v1 ⟨rfl, hx1⟩)
  have gh1 := hx1.heap Gh0.out
  obtain ⟨y0, _⟩ := (Ext.refl v1).box gh1
  have hl1 := heap_lt gh1
  have Gh1 := Lib.hid gh1
  clear gh1
  go_upto_region 3 with fail
  have hx2 := hx1.alloc (.cells #[.int .i64 0, .int .i64 0, .int .i64 e0, .int .i64 e1, .int .i64 0, .int .i64 0, .int .i64 0, .int .i64 0] 29)
  have gm2 := heap_alloc_new v1 (.cells #[.int .i64 0, .int .i64 0, .int .i64 e0, .int .i64 e1, .int .i64 0, .int .i64 0, .int .i64 0, .int .i64 0] 29)
  have hp16 : w.heap.size + 1 + 1 < v1.heap.size := heap_lt (hx1.heap Gl0.out)
  generalize v1.alloc (.cells #[.int .i64 0, .int .i64 0, .int .i64 e0, .int .i64 e1, .int .i64 0, .int .i64 0, .int .i64 0, .int .i64 0] 29) = W2 at *
  generalize v1.heap.size = p16 at *
  have gb2 := hx2.heap Gb0.out
  have gl2 := hx2.heap Gl0.out
  have hx02 := Hx0.out.trans hx2
  clear y0 hl1 hx1 hx2 Gb0 Gh0 Gl0 Hx0 Hal Gh1 hW0
  have Gm2 := Lib.hid gm2
  have Gb2 := Lib.hid gb2
  have Gl2 := Lib.hid gl2
  have Hx02 := Lib.hid hx02
  clear gm2 gb2 gl2 hx02
  refine wp_region_lit ?_
  refine wpList_load_row rfl 25 (.tmp 7) rfl w.heap.size rfl 25 _ (0, 0) _ Gb2.out Try.underlying25 rfl (by kernel_rfl) ?_
  simp only [Act.put, List.setIfInBounds_toArray, List.set_cons_succ, List.set_cons_zero]
  refine wpList_seq (fun f hf hs => ?_)
  have f1 := fun q => ((hf q).box Gm2.out).1
  have f2 := fun q => ((hf q).box Gl2.out).1
  have Hf := Lib.hid hf
  have HS := Lib.hid hs
  clear hf hs
  repeat (go_big_quiet_step ((first | (go_at_call 32; exact Calls.ext_of (Hf.out _) HS.out (Hbr.out _)) | (go_at_call 10; exact Calls.ext_of (Hf.out _) HS.out (Hma.out _)) | (go_at_call 11; exact Calls.ext_of (Hf.out _) HS.out (Hgr.out _ (Hx02.out.trans (Hf.out _)))) | (go_at_call 33; exact Calls.ext_of (Hf.out _) HS.out (Hck.out _ (Hx02.out.trans (Hf.out _)))) | (go_at_call 34; exact Calls.ext_of (Hf.out _) HS.out (Hdw.out _ (Hx02.out.trans (Hf.out _)))))))
  refine wpQuiet_nil ?_
  intro W3 hW3
  clear f1 f2
  have hx3 := Hx02.out.trans hW3
  have Hx3 := Lib.hid hx3
  clear hx3
  clear hW3
  go_wp2_with fail
  go_ret
  exact ⟨rfl, Hx3.out⟩
set_option maxRecDepth 100000 in
set_option maxHeartbeats 16000000 in
theorem watered9
    (fu fe r0 r1 q0 q1 t0 t1 n0 n1 u0 u1 m0 m1 hz s0 s1 : Int) (ha : Option Addr) (hn hc : Nat) (herd : List Camel) (e0 e1 : Int) (wa : Option Addr) (wn wc : Nat) (la : Option Addr) (ln lc : Nat) (ws : List Well) (ls : List Leg) (we : Int) (da : Option Addr) (dn dc : Nat) (ds : List Draw) (day : Int) (w : World)
    (hh : CamelsAt w ha hn herd) (hhc : hn ≤ hc) (hhm : hc ≤ maxLen) (hws : WellsAt w wa wn ws) (hwc : wn ≤ wc) (hwm : wc ≤ maxLen) (hls : LegsAt w la ln ls) (hlc : ln ≤ lc) (hlm : lc ≤ maxLen) (hd : DrawsAt w da dn ds) (hdc : dn ≤ dc) (hdm : dc ≤ maxLen)
    (hbk : breedOk ⟨fu, fe, ⟨r0, r1⟩, ⟨q0, q1⟩, ⟨t0, t1⟩, ⟨n0, n1⟩, ⟨u0, u1⟩, ⟨m0, m1⟩, hz, ⟨s0, s1⟩⟩ = true) (hdk : dayOk (restDay ⟨e0, e1⟩ 0) = true) (h30 : ¬30 < (hn : Int)) (hgk : greatB ⟨ws, ls⟩ = false) (hlk : landOk ⟨ws, ls⟩ = true) (hw0 : ¬we < 0) (hw1 : ¬(wn : Int) ≤ we) (hd0 : ¬day < 1) (hd1 : 100000 < day) :
    Calls Try.prog 7 #[.agg #[.int .i64 fu, .int .i64 fe, .int .i64 r0, .int .i64 r1, .int .i64 q0, .int .i64 q1, .int .i64 t0, .int .i64 t1, .int .i64 n0, .int .i64 n1, .int .i64 u0, .int .i64 u1, .int .i64 m0, .int .i64 m1, .int .i64 hz, .int .i64 s0, .int .i64 s1], .slice ha hn hc, .agg #[.int .i64 e0, .int .i64 e1], .agg #[.slice wa wn wc, .slice la ln lc], .int .i64 we, .slice da dn dc, .int .i64 day] w fun e w' => e = .returned (.bool true) ∧ Ext w w' := by
  have hal := alive03d_any
  have hbr := fun W => rcheckBreed_any ⟨fu, fe, ⟨r0, r1⟩, ⟨q0, q1⟩, ⟨t0, t1⟩, ⟨n0, n1⟩, ⟨u0, u1⟩, ⟨m0, m1⟩, hz, ⟨s0, s1⟩⟩ W
  have hma := fun W => rmarch_any (restDay ⟨e0, e1⟩ 0) W
  unfold Breed.val at hbr
  unfold March.val restDay at hma
  simp only at hbr hma
  have hgr := fun W (hW : Ext w W) => rgreat_any wa wn wc la ln lc ⟨ws, ls⟩ W hws.1 hwc hwm (hls.ext hW) hlc hlm
  have hx0 : Ext w (((w.alloc (.cells #[.int .i64 fu, .int .i64 fe, .int .i64 r0, .int .i64 r1, .int .i64 q0, .int .i64 q1, .int .i64 t0, .int .i64 t1, .int .i64 n0, .int .i64 n1, .int .i64 u0, .int .i64 u1, .int .i64 m0, .int .i64 m1, .int .i64 hz, .int .i64 s0, .int .i64 s1] 25)).alloc (.cells #[.int .i64 e0, .int .i64 e1] 23)).alloc (.cells #[.slice wa wn wc, .slice la ln lc] 33)) := (((Ext.refl w).alloc _).alloc _).alloc _
  have gb0 := alloc_heap (alloc_heap (heap_alloc_new w (.cells #[.int .i64 fu, .int .i64 fe, .int .i64 r0, .int .i64 r1, .int .i64 q0, .int .i64 q1, .int .i64 t0, .int .i64 t1, .int .i64 n0, .int .i64 n1, .int .i64 u0, .int .i64 u1, .int .i64 m0, .int .i64 m1, .int .i64 hz, .int .i64 s0, .int .i64 s1] 25)) (.cells #[.int .i64 e0, .int .i64 e1] 23)) (.cells #[.slice wa wn wc, .slice la ln lc] 33)
  have gh0 := alloc_heap (alloc_at (w.alloc (.cells #[.int .i64 fu, .int .i64 fe, .int .i64 r0, .int .i64 r1, .int .i64 q0, .int .i64 q1, .int .i64 t0, .int .i64 t1, .int .i64 n0, .int .i64 n1, .int .i64 u0, .int .i64 u1, .int .i64 m0, .int .i64 m1, .int .i64 hz, .int .i64 s0, .int .i64 s1] 25)) (.cells #[.int .i64 e0, .int .i64 e1] 23) (w.heap.size + 1) (by simp)) (.cells #[.slice wa wn wc, .slice la ln lc] 33)
  have gl0 := alloc_at ((w.alloc (.cells #[.int .i64 fu, .int .i64 fe, .int .i64 r0, .int .i64 r1, .int .i64 q0, .int .i64 q1, .int .i64 t0, .int .i64 t1, .int .i64 n0, .int .i64 n1, .int .i64 u0, .int .i64 u1, .int .i64 m0, .int .i64 m1, .int .i64 hz, .int .i64 s0, .int .i64 s1] 25)).alloc (.cells #[.int .i64 e0, .int .i64 e1] 23)) (.cells #[.slice wa wn wc, .slice la ln lc] 33) (w.heap.size + 1 + 1) (by simp)
  generalize hW0 : ((w.alloc (.cells #[.int .i64 fu, .int .i64 fe, .int .i64 r0, .int .i64 r1, .int .i64 q0, .int .i64 q1, .int .i64 t0, .int .i64 t1, .int .i64 n0, .int .i64 n1, .int .i64 u0, .int .i64 u1, .int .i64 m0, .int .i64 m1, .int .i64 hz, .int .i64 s0, .int .i64 s1] 25)).alloc (.cells #[.int .i64 e0, .int .i64 e1] 23)).alloc (.cells #[.slice wa wn wc, .slice la ln lc] 33) = W0 at *
  rw [show breedErr ⟨fu, fe, ⟨r0, r1⟩, ⟨q0, q1⟩, ⟨t0, t1⟩, ⟨n0, n1⟩, ⟨u0, u1⟩, ⟨m0, m1⟩, hz, ⟨s0, s1⟩⟩ = 0 by unfold breedErr; rw [hbk]; rfl] at hbr
  rw [show dayOk ⟨0, 0, ⟨e0, e1⟩, ⟨0, 0⟩, ⟨0, 0⟩⟩ = true from hdk] at hma
  have h30B : decide (30 < (hn : Int)) = false := decide_eq_false h30
  rw [hgk] at hgr
  have hsm := great_small hgk
  have hck := fun W (hW : Ext w W) => check3_any wa wn wc la ln lc ⟨ws, ls⟩ W ⟨hws.ext hW, hls.ext hW, hwc, hwm, hlc, hlm, by have := hws.1; simp only at hsm; omega, by have := hls.1; simp only at hsm; omega⟩
  rw [show checkErr3 ⟨ws, ls⟩ = 0 by unfold checkErr3; rw [hlk]; rfl] at hck
  have hw0B : decide (we < 0) = false := decide_eq_false hw0
  have hw1B : decide ((wn : Int) ≤ we) = false := decide_eq_false hw1
  have hd0B : decide (day < 1) = false := decide_eq_false hd0
  have hd1B : decide (100000 < day) = true := decide_eq_true hd1
  have hdw := trivial
  have Hal := Lib.hid hal
  have Hbr := Lib.hid hbr
  have Hma := Lib.hid hma
  have Hgr := Lib.hid hgr
  have Hx0 := Lib.hid hx0
  have Gb0 := Lib.hid gb0
  have Gh0 := Lib.hid gh0
  have Gl0 := Lib.hid gl0
  have Hck := Lib.hid hck
  have Hdw := Lib.hid hdw
  clear hal hbr hma hgr hx0 gb0 gh0 gl0 hck hdw
  clear hh hws hls hd hbk hdk hgk hlk hsm
  go_enter Try.func7, Try.ntmps7
  go_upto_region 2 with (go_at_call 31; refine (Hal.out _).mono ?_; rintro e v1 ⟨rfl, hx1⟩)
  have gh1 := hx1.heap Gh0.out
  obtain ⟨y0, _⟩ := (Ext.refl v1).box gh1
  have hl1 := heap_lt gh1
  have Gh1 := Lib.hid gh1
  clear gh1
  go_upto_region 3 with fail
  have hx2 := hx1.alloc (.cells #[.int .i64 0, .int .i64 0, .int .i64 e0, .int .i64 e1, .int .i64 0, .int .i64 0, .int .i64 0, .int .i64 0] 29)
  have gm2 := heap_alloc_new v1 (.cells #[.int .i64 0, .int .i64 0, .int .i64 e0, .int .i64 e1, .int .i64 0, .int .i64 0, .int .i64 0, .int .i64 0] 29)
  have hp16 : w.heap.size + 1 + 1 < v1.heap.size := heap_lt (hx1.heap Gl0.out)
  generalize v1.alloc (.cells #[.int .i64 0, .int .i64 0, .int .i64 e0, .int .i64 e1, .int .i64 0, .int .i64 0, .int .i64 0, .int .i64 0] 29) = W2 at *
  generalize v1.heap.size = p16 at *
  have gb2 := hx2.heap Gb0.out
  have gl2 := hx2.heap Gl0.out
  have hx02 := Hx0.out.trans hx2
  clear y0 hl1 hx1 hx2 Gb0 Gh0 Gl0 Hx0 Hal Gh1 hW0
  have Gm2 := Lib.hid gm2
  have Gb2 := Lib.hid gb2
  have Gl2 := Lib.hid gl2
  have Hx02 := Lib.hid hx02
  clear gm2 gb2 gl2 hx02
  refine wp_region_lit ?_
  refine wpList_load_row rfl 25 (.tmp 7) rfl w.heap.size rfl 25 _ (0, 0) _ Gb2.out Try.underlying25 rfl (by kernel_rfl) ?_
  simp only [Act.put, List.setIfInBounds_toArray, List.set_cons_succ, List.set_cons_zero]
  refine wpList_seq (fun f hf hs => ?_)
  have f1 := fun q => ((hf q).box Gm2.out).1
  have f2 := fun q => ((hf q).box Gl2.out).1
  have Hf := Lib.hid hf
  have HS := Lib.hid hs
  clear hf hs
  repeat (go_big_quiet_step ((first | (go_at_call 32; exact Calls.ext_of (Hf.out _) HS.out (Hbr.out _)) | (go_at_call 10; exact Calls.ext_of (Hf.out _) HS.out (Hma.out _)) | (go_at_call 11; exact Calls.ext_of (Hf.out _) HS.out (Hgr.out _ (Hx02.out.trans (Hf.out _)))) | (go_at_call 33; exact Calls.ext_of (Hf.out _) HS.out (Hck.out _ (Hx02.out.trans (Hf.out _)))) | (go_at_call 34; exact Calls.ext_of (Hf.out _) HS.out (Hdw.out _ (Hx02.out.trans (Hf.out _)))))))
  refine wpQuiet_nil ?_
  intro W3 hW3
  clear f1 f2
  have hx3 := Hx02.out.trans hW3
  have Hx3 := Lib.hid hx3
  clear hx3
  clear hW3
  go_wp2_with fail
  go_ret
  exact ⟨rfl, Hx3.out⟩
set_option maxRecDepth 100000 in
set_option maxHeartbeats 16000000 in
theorem watered10
    (fu fe r0 r1 q0 q1 t0 t1 n0 n1 u0 u1 m0 m1 hz s0 s1 : Int) (ha : Option Addr) (hn hc : Nat) (herd : List Camel) (e0 e1 : Int) (wa : Option Addr) (wn wc : Nat) (la : Option Addr) (ln lc : Nat) (ws : List Well) (ls : List Leg) (we : Int) (da : Option Addr) (dn dc : Nat) (ds : List Draw) (day : Int) (w : World)
    (hh : CamelsAt w ha hn herd) (hhc : hn ≤ hc) (hhm : hc ≤ maxLen) (hws : WellsAt w wa wn ws) (hwc : wn ≤ wc) (hwm : wc ≤ maxLen) (hls : LegsAt w la ln ls) (hlc : ln ≤ lc) (hlm : lc ≤ maxLen) (hd : DrawsAt w da dn ds) (hdc : dn ≤ dc) (hdm : dc ≤ maxLen)
    (hbk : breedOk ⟨fu, fe, ⟨r0, r1⟩, ⟨q0, q1⟩, ⟨t0, t1⟩, ⟨n0, n1⟩, ⟨u0, u1⟩, ⟨m0, m1⟩, hz, ⟨s0, s1⟩⟩ = true) (hdk : dayOk (restDay ⟨e0, e1⟩ 0) = true) (h30 : ¬30 < (hn : Int)) (hgk : greatB ⟨ws, ls⟩ = false) (hlk : landOk ⟨ws, ls⟩ = true) (hw0 : ¬we < 0) (hw1 : ¬(wn : Int) ≤ we) (hd0 : ¬day < 1) (hd1 : ¬100000 < day) (hdn : 200 ≤ (dn : Int)) :
    Calls Try.prog 7 #[.agg #[.int .i64 fu, .int .i64 fe, .int .i64 r0, .int .i64 r1, .int .i64 q0, .int .i64 q1, .int .i64 t0, .int .i64 t1, .int .i64 n0, .int .i64 n1, .int .i64 u0, .int .i64 u1, .int .i64 m0, .int .i64 m1, .int .i64 hz, .int .i64 s0, .int .i64 s1], .slice ha hn hc, .agg #[.int .i64 e0, .int .i64 e1], .agg #[.slice wa wn wc, .slice la ln lc], .int .i64 we, .slice da dn dc, .int .i64 day] w fun e w' => e = .returned (.bool true) ∧ Ext w w' := by
  have hal := alive03d_any
  have hbr := fun W => rcheckBreed_any ⟨fu, fe, ⟨r0, r1⟩, ⟨q0, q1⟩, ⟨t0, t1⟩, ⟨n0, n1⟩, ⟨u0, u1⟩, ⟨m0, m1⟩, hz, ⟨s0, s1⟩⟩ W
  have hma := fun W => rmarch_any (restDay ⟨e0, e1⟩ 0) W
  unfold Breed.val at hbr
  unfold March.val restDay at hma
  simp only at hbr hma
  have hgr := fun W (hW : Ext w W) => rgreat_any wa wn wc la ln lc ⟨ws, ls⟩ W hws.1 hwc hwm (hls.ext hW) hlc hlm
  have hx0 : Ext w (((w.alloc (.cells #[.int .i64 fu, .int .i64 fe, .int .i64 r0, .int .i64 r1, .int .i64 q0, .int .i64 q1, .int .i64 t0, .int .i64 t1, .int .i64 n0, .int .i64 n1, .int .i64 u0, .int .i64 u1, .int .i64 m0, .int .i64 m1, .int .i64 hz, .int .i64 s0, .int .i64 s1] 25)).alloc (.cells #[.int .i64 e0, .int .i64 e1] 23)).alloc (.cells #[.slice wa wn wc, .slice la ln lc] 33)) := (((Ext.refl w).alloc _).alloc _).alloc _
  have gb0 := alloc_heap (alloc_heap (heap_alloc_new w (.cells #[.int .i64 fu, .int .i64 fe, .int .i64 r0, .int .i64 r1, .int .i64 q0, .int .i64 q1, .int .i64 t0, .int .i64 t1, .int .i64 n0, .int .i64 n1, .int .i64 u0, .int .i64 u1, .int .i64 m0, .int .i64 m1, .int .i64 hz, .int .i64 s0, .int .i64 s1] 25)) (.cells #[.int .i64 e0, .int .i64 e1] 23)) (.cells #[.slice wa wn wc, .slice la ln lc] 33)
  have gh0 := alloc_heap (alloc_at (w.alloc (.cells #[.int .i64 fu, .int .i64 fe, .int .i64 r0, .int .i64 r1, .int .i64 q0, .int .i64 q1, .int .i64 t0, .int .i64 t1, .int .i64 n0, .int .i64 n1, .int .i64 u0, .int .i64 u1, .int .i64 m0, .int .i64 m1, .int .i64 hz, .int .i64 s0, .int .i64 s1] 25)) (.cells #[.int .i64 e0, .int .i64 e1] 23) (w.heap.size + 1) (by simp)) (.cells #[.slice wa wn wc, .slice la ln lc] 33)
  have gl0 := alloc_at ((w.alloc (.cells #[.int .i64 fu, .int .i64 fe, .int .i64 r0, .int .i64 r1, .int .i64 q0, .int .i64 q1, .int .i64 t0, .int .i64 t1, .int .i64 n0, .int .i64 n1, .int .i64 u0, .int .i64 u1, .int .i64 m0, .int .i64 m1, .int .i64 hz, .int .i64 s0, .int .i64 s1] 25)).alloc (.cells #[.int .i64 e0, .int .i64 e1] 23)) (.cells #[.slice wa wn wc, .slice la ln lc] 33) (w.heap.size + 1 + 1) (by simp)
  generalize hW0 : ((w.alloc (.cells #[.int .i64 fu, .int .i64 fe, .int .i64 r0, .int .i64 r1, .int .i64 q0, .int .i64 q1, .int .i64 t0, .int .i64 t1, .int .i64 n0, .int .i64 n1, .int .i64 u0, .int .i64 u1, .int .i64 m0, .int .i64 m1, .int .i64 hz, .int .i64 s0, .int .i64 s1] 25)).alloc (.cells #[.int .i64 e0, .int .i64 e1] 23)).alloc (.cells #[.slice wa wn wc, .slice la ln lc] 33) = W0 at *
  rw [show breedErr ⟨fu, fe, ⟨r0, r1⟩, ⟨q0, q1⟩, ⟨t0, t1⟩, ⟨n0, n1⟩, ⟨u0, u1⟩, ⟨m0, m1⟩, hz, ⟨s0, s1⟩⟩ = 0 by unfold breedErr; rw [hbk]; rfl] at hbr
  rw [show dayOk ⟨0, 0, ⟨e0, e1⟩, ⟨0, 0⟩, ⟨0, 0⟩⟩ = true from hdk] at hma
  have h30B : decide (30 < (hn : Int)) = false := decide_eq_false h30
  rw [hgk] at hgr
  have hsm := great_small hgk
  have hck := fun W (hW : Ext w W) => check3_any wa wn wc la ln lc ⟨ws, ls⟩ W ⟨hws.ext hW, hls.ext hW, hwc, hwm, hlc, hlm, by have := hws.1; simp only at hsm; omega, by have := hls.1; simp only at hsm; omega⟩
  rw [show checkErr3 ⟨ws, ls⟩ = 0 by unfold checkErr3; rw [hlk]; rfl] at hck
  have hw0B : decide (we < 0) = false := decide_eq_false hw0
  have hw1B : decide ((wn : Int) ≤ we) = false := decide_eq_false hw1
  have hd0B : decide (day < 1) = false := decide_eq_false hd0
  have hd1B : decide (100000 < day) = false := decide_eq_false hd1
  have hdnB : decide (200 ≤ (dn : Int)) = true := decide_eq_true hdn
  have hdw := trivial
  have Hal := Lib.hid hal
  have Hbr := Lib.hid hbr
  have Hma := Lib.hid hma
  have Hgr := Lib.hid hgr
  have Hx0 := Lib.hid hx0
  have Gb0 := Lib.hid gb0
  have Gh0 := Lib.hid gh0
  have Gl0 := Lib.hid gl0
  have Hck := Lib.hid hck
  have Hdw := Lib.hid hdw
  clear hal hbr hma hgr hx0 gb0 gh0 gl0 hck hdw
  clear hh hws hls hd hbk hdk hgk hlk hsm
  go_enter Try.func7, Try.ntmps7
  go_upto_region 2 with (go_at_call 31; refine (Hal.out _).mono ?_; rintro e v1 ⟨rfl, hx1⟩)
  have gh1 := hx1.heap Gh0.out
  obtain ⟨y0, _⟩ := (Ext.refl v1).box gh1
  have hl1 := heap_lt gh1
  have Gh1 := Lib.hid gh1
  clear gh1
  go_upto_region 3 with fail
  have hx2 := hx1.alloc (.cells #[.int .i64 0, .int .i64 0, .int .i64 e0, .int .i64 e1, .int .i64 0, .int .i64 0, .int .i64 0, .int .i64 0] 29)
  have gm2 := heap_alloc_new v1 (.cells #[.int .i64 0, .int .i64 0, .int .i64 e0, .int .i64 e1, .int .i64 0, .int .i64 0, .int .i64 0, .int .i64 0] 29)
  have hp16 : w.heap.size + 1 + 1 < v1.heap.size := heap_lt (hx1.heap Gl0.out)
  generalize v1.alloc (.cells #[.int .i64 0, .int .i64 0, .int .i64 e0, .int .i64 e1, .int .i64 0, .int .i64 0, .int .i64 0, .int .i64 0] 29) = W2 at *
  generalize v1.heap.size = p16 at *
  have gb2 := hx2.heap Gb0.out
  have gl2 := hx2.heap Gl0.out
  have hx02 := Hx0.out.trans hx2
  clear y0 hl1 hx1 hx2 Gb0 Gh0 Gl0 Hx0 Hal Gh1 hW0
  have Gm2 := Lib.hid gm2
  have Gb2 := Lib.hid gb2
  have Gl2 := Lib.hid gl2
  have Hx02 := Lib.hid hx02
  clear gm2 gb2 gl2 hx02
  refine wp_region_lit ?_
  refine wpList_load_row rfl 25 (.tmp 7) rfl w.heap.size rfl 25 _ (0, 0) _ Gb2.out Try.underlying25 rfl (by kernel_rfl) ?_
  simp only [Act.put, List.setIfInBounds_toArray, List.set_cons_succ, List.set_cons_zero]
  refine wpList_seq (fun f hf hs => ?_)
  have f1 := fun q => ((hf q).box Gm2.out).1
  have f2 := fun q => ((hf q).box Gl2.out).1
  have Hf := Lib.hid hf
  have HS := Lib.hid hs
  clear hf hs
  repeat (go_big_quiet_step ((first | (go_at_call 32; exact Calls.ext_of (Hf.out _) HS.out (Hbr.out _)) | (go_at_call 10; exact Calls.ext_of (Hf.out _) HS.out (Hma.out _)) | (go_at_call 11; exact Calls.ext_of (Hf.out _) HS.out (Hgr.out _ (Hx02.out.trans (Hf.out _)))) | (go_at_call 33; exact Calls.ext_of (Hf.out _) HS.out (Hck.out _ (Hx02.out.trans (Hf.out _)))) | (go_at_call 34; exact Calls.ext_of (Hf.out _) HS.out (Hdw.out _ (Hx02.out.trans (Hf.out _)))))))
  refine wpQuiet_nil ?_
  intro W3 hW3
  clear f1 f2
  have hx3 := Hx02.out.trans hW3
  have Hx3 := Lib.hid hx3
  clear hx3
  clear hW3
  go_wp2_with fail
  go_ret
  exact ⟨rfl, Hx3.out⟩
set_option maxRecDepth 100000 in
set_option maxHeartbeats 16000000 in
theorem watered11
    (fu fe r0 r1 q0 q1 t0 t1 n0 n1 u0 u1 m0 m1 hz s0 s1 : Int) (ha : Option Addr) (hn hc : Nat) (herd : List Camel) (e0 e1 : Int) (wa : Option Addr) (wn wc : Nat) (la : Option Addr) (ln lc : Nat) (ws : List Well) (ls : List Leg) (we : Int) (da : Option Addr) (dn dc : Nat) (ds : List Draw) (day : Int) (w : World)
    (hh : CamelsAt w ha hn herd) (hhc : hn ≤ hc) (hhm : hc ≤ maxLen) (hws : WellsAt w wa wn ws) (hwc : wn ≤ wc) (hwm : wc ≤ maxLen) (hls : LegsAt w la ln ls) (hlc : ln ≤ lc) (hlm : lc ≤ maxLen) (hd : DrawsAt w da dn ds) (hdc : dn ≤ dc) (hdm : dc ≤ maxLen)
    (hbk : breedOk ⟨fu, fe, ⟨r0, r1⟩, ⟨q0, q1⟩, ⟨t0, t1⟩, ⟨n0, n1⟩, ⟨u0, u1⟩, ⟨m0, m1⟩, hz, ⟨s0, s1⟩⟩ = true) (hdk : dayOk (restDay ⟨e0, e1⟩ 0) = true) (h30 : ¬30 < (hn : Int)) (hgk : greatB ⟨ws, ls⟩ = false) (hlk : landOk ⟨ws, ls⟩ = true) (hw0 : ¬we < 0) (hw1 : ¬(wn : Int) ≤ we) (hd0 : ¬day < 1) (hd1 : ¬100000 < day) (hdn : ¬200 ≤ (dn : Int)) (hds : drawsOk wn 0 ds = false) :
    Calls Try.prog 7 #[.agg #[.int .i64 fu, .int .i64 fe, .int .i64 r0, .int .i64 r1, .int .i64 q0, .int .i64 q1, .int .i64 t0, .int .i64 t1, .int .i64 n0, .int .i64 n1, .int .i64 u0, .int .i64 u1, .int .i64 m0, .int .i64 m1, .int .i64 hz, .int .i64 s0, .int .i64 s1], .slice ha hn hc, .agg #[.int .i64 e0, .int .i64 e1], .agg #[.slice wa wn wc, .slice la ln lc], .int .i64 we, .slice da dn dc, .int .i64 day] w fun e w' => e = .returned (.bool true) ∧ Ext w w' := by
  have hal := alive03d_any
  have hbr := fun W => rcheckBreed_any ⟨fu, fe, ⟨r0, r1⟩, ⟨q0, q1⟩, ⟨t0, t1⟩, ⟨n0, n1⟩, ⟨u0, u1⟩, ⟨m0, m1⟩, hz, ⟨s0, s1⟩⟩ W
  have hma := fun W => rmarch_any (restDay ⟨e0, e1⟩ 0) W
  unfold Breed.val at hbr
  unfold March.val restDay at hma
  simp only at hbr hma
  have hgr := fun W (hW : Ext w W) => rgreat_any wa wn wc la ln lc ⟨ws, ls⟩ W hws.1 hwc hwm (hls.ext hW) hlc hlm
  have hx0 : Ext w (((w.alloc (.cells #[.int .i64 fu, .int .i64 fe, .int .i64 r0, .int .i64 r1, .int .i64 q0, .int .i64 q1, .int .i64 t0, .int .i64 t1, .int .i64 n0, .int .i64 n1, .int .i64 u0, .int .i64 u1, .int .i64 m0, .int .i64 m1, .int .i64 hz, .int .i64 s0, .int .i64 s1] 25)).alloc (.cells #[.int .i64 e0, .int .i64 e1] 23)).alloc (.cells #[.slice wa wn wc, .slice la ln lc] 33)) := (((Ext.refl w).alloc _).alloc _).alloc _
  have gb0 := alloc_heap (alloc_heap (heap_alloc_new w (.cells #[.int .i64 fu, .int .i64 fe, .int .i64 r0, .int .i64 r1, .int .i64 q0, .int .i64 q1, .int .i64 t0, .int .i64 t1, .int .i64 n0, .int .i64 n1, .int .i64 u0, .int .i64 u1, .int .i64 m0, .int .i64 m1, .int .i64 hz, .int .i64 s0, .int .i64 s1] 25)) (.cells #[.int .i64 e0, .int .i64 e1] 23)) (.cells #[.slice wa wn wc, .slice la ln lc] 33)
  have gh0 := alloc_heap (alloc_at (w.alloc (.cells #[.int .i64 fu, .int .i64 fe, .int .i64 r0, .int .i64 r1, .int .i64 q0, .int .i64 q1, .int .i64 t0, .int .i64 t1, .int .i64 n0, .int .i64 n1, .int .i64 u0, .int .i64 u1, .int .i64 m0, .int .i64 m1, .int .i64 hz, .int .i64 s0, .int .i64 s1] 25)) (.cells #[.int .i64 e0, .int .i64 e1] 23) (w.heap.size + 1) (by simp)) (.cells #[.slice wa wn wc, .slice la ln lc] 33)
  have gl0 := alloc_at ((w.alloc (.cells #[.int .i64 fu, .int .i64 fe, .int .i64 r0, .int .i64 r1, .int .i64 q0, .int .i64 q1, .int .i64 t0, .int .i64 t1, .int .i64 n0, .int .i64 n1, .int .i64 u0, .int .i64 u1, .int .i64 m0, .int .i64 m1, .int .i64 hz, .int .i64 s0, .int .i64 s1] 25)).alloc (.cells #[.int .i64 e0, .int .i64 e1] 23)) (.cells #[.slice wa wn wc, .slice la ln lc] 33) (w.heap.size + 1 + 1) (by simp)
  generalize hW0 : ((w.alloc (.cells #[.int .i64 fu, .int .i64 fe, .int .i64 r0, .int .i64 r1, .int .i64 q0, .int .i64 q1, .int .i64 t0, .int .i64 t1, .int .i64 n0, .int .i64 n1, .int .i64 u0, .int .i64 u1, .int .i64 m0, .int .i64 m1, .int .i64 hz, .int .i64 s0, .int .i64 s1] 25)).alloc (.cells #[.int .i64 e0, .int .i64 e1] 23)).alloc (.cells #[.slice wa wn wc, .slice la ln lc] 33) = W0 at *
  rw [show breedErr ⟨fu, fe, ⟨r0, r1⟩, ⟨q0, q1⟩, ⟨t0, t1⟩, ⟨n0, n1⟩, ⟨u0, u1⟩, ⟨m0, m1⟩, hz, ⟨s0, s1⟩⟩ = 0 by unfold breedErr; rw [hbk]; rfl] at hbr
  rw [show dayOk ⟨0, 0, ⟨e0, e1⟩, ⟨0, 0⟩, ⟨0, 0⟩⟩ = true from hdk] at hma
  have h30B : decide (30 < (hn : Int)) = false := decide_eq_false h30
  rw [hgk] at hgr
  have hsm := great_small hgk
  have hck := fun W (hW : Ext w W) => check3_any wa wn wc la ln lc ⟨ws, ls⟩ W ⟨hws.ext hW, hls.ext hW, hwc, hwm, hlc, hlm, by have := hws.1; simp only at hsm; omega, by have := hls.1; simp only at hsm; omega⟩
  rw [show checkErr3 ⟨ws, ls⟩ = 0 by unfold checkErr3; rw [hlk]; rfl] at hck
  have hw0B : decide (we < 0) = false := decide_eq_false hw0
  have hw1B : decide ((wn : Int) ≤ we) = false := decide_eq_false hw1
  have hd0B : decide (day < 1) = false := decide_eq_false hd0
  have hd1B : decide (100000 < day) = false := decide_eq_false hd1
  have hdnB : decide (200 ≤ (dn : Int)) = false := decide_eq_false hdn
  have hdw := fun W (hW : Ext w W) => draws3_any wa wn wc la ln lc da dn dc ds W ⟨by omega, by have := hws.1; simp only at hsm; omega⟩ (hd.ext hW) (by omega)
  rw [hds] at hdw
  have Hal := Lib.hid hal
  have Hbr := Lib.hid hbr
  have Hma := Lib.hid hma
  have Hgr := Lib.hid hgr
  have Hx0 := Lib.hid hx0
  have Gb0 := Lib.hid gb0
  have Gh0 := Lib.hid gh0
  have Gl0 := Lib.hid gl0
  have Hck := Lib.hid hck
  have Hdw := Lib.hid hdw
  clear hal hbr hma hgr hx0 gb0 gh0 gl0 hck hdw
  clear hh hws hls hd hbk hdk hgk hlk hds hsm
  go_enter Try.func7, Try.ntmps7
  go_upto_region 2 with (go_at_call 31; refine (Hal.out _).mono ?_; rintro e v1 ⟨rfl, hx1⟩)
  have gh1 := hx1.heap Gh0.out
  obtain ⟨y0, _⟩ := (Ext.refl v1).box gh1
  have hl1 := heap_lt gh1
  have Gh1 := Lib.hid gh1
  clear gh1
  go_upto_region 3 with fail
  have hx2 := hx1.alloc (.cells #[.int .i64 0, .int .i64 0, .int .i64 e0, .int .i64 e1, .int .i64 0, .int .i64 0, .int .i64 0, .int .i64 0] 29)
  have gm2 := heap_alloc_new v1 (.cells #[.int .i64 0, .int .i64 0, .int .i64 e0, .int .i64 e1, .int .i64 0, .int .i64 0, .int .i64 0, .int .i64 0] 29)
  have hp16 : w.heap.size + 1 + 1 < v1.heap.size := heap_lt (hx1.heap Gl0.out)
  generalize v1.alloc (.cells #[.int .i64 0, .int .i64 0, .int .i64 e0, .int .i64 e1, .int .i64 0, .int .i64 0, .int .i64 0, .int .i64 0] 29) = W2 at *
  generalize v1.heap.size = p16 at *
  have gb2 := hx2.heap Gb0.out
  have gl2 := hx2.heap Gl0.out
  have hx02 := Hx0.out.trans hx2
  clear y0 hl1 hx1 hx2 Gb0 Gh0 Gl0 Hx0 Hal Gh1 hW0
  have Gm2 := Lib.hid gm2
  have Gb2 := Lib.hid gb2
  have Gl2 := Lib.hid gl2
  have Hx02 := Lib.hid hx02
  clear gm2 gb2 gl2 hx02
  refine wp_region_lit ?_
  refine wpList_load_row rfl 25 (.tmp 7) rfl w.heap.size rfl 25 _ (0, 0) _ Gb2.out Try.underlying25 rfl (by kernel_rfl) ?_
  simp only [Act.put, List.setIfInBounds_toArray, List.set_cons_succ, List.set_cons_zero]
  refine wpList_seq (fun f hf hs => ?_)
  have f1 := fun q => ((hf q).box Gm2.out).1
  have f2 := fun q => ((hf q).box Gl2.out).1
  have Hf := Lib.hid hf
  have HS := Lib.hid hs
  clear hf hs
  repeat (go_big_quiet_step ((first | (go_at_call 32; exact Calls.ext_of (Hf.out _) HS.out (Hbr.out _)) | (go_at_call 10; exact Calls.ext_of (Hf.out _) HS.out (Hma.out _)) | (go_at_call 11; exact Calls.ext_of (Hf.out _) HS.out (Hgr.out _ (Hx02.out.trans (Hf.out _)))) | (go_at_call 33; exact Calls.ext_of (Hf.out _) HS.out (Hck.out _ (Hx02.out.trans (Hf.out _)))) | (go_at_call 34; exact Calls.ext_of (Hf.out _) HS.out (Hdw.out _ (Hx02.out.trans (Hf.out _)))))))
  refine wpQuiet_nil ?_
  intro W3 hW3
  clear f1 f2
  have hx3 := Hx02.out.trans hW3
  have Hx3 := Lib.hid hx3
  clear hx3
  clear hW3
  go_wp2_with fail
  go_ret
  exact ⟨rfl, Hx3.out⟩
end Go.Proofs.Ytcoelhpmkhimpaa

namespace Go.Proofs.Ytcoelhpmkhimpaa
open Go.RowKit
set_option linter.unusedVariables false
set_option linter.unusedSimpArgs false
set_option maxRecDepth 100000 in
set_option maxHeartbeats 16000000 in
theorem wateredLoop {w W : World} (bfu bfe br0 br1 bq0 bq1 bt0 bt1 bn0 bn1 bu0 bu1 bm0 bm1 bhz bs0 bs1 e0 e1 : Int) {ha da : Option Addr} {hn hc dn dc p16 p20 : Nat} {herd : List Camel} {we day : Int}
    (hx : Ext w W) (gb : W.heap[w.heap.size]? = some (.cells #[.int .i64 bfu, .int .i64 bfe, .int .i64 br0, .int .i64 br1, .int .i64 bq0, .int .i64 bq1, .int .i64 bt0, .int .i64 bt1, .int .i64 bn0, .int .i64 bn1, .int .i64 bu0, .int .i64 bu1, .int .i64 bm0, .int .i64 bm1, .int .i64 bhz, .int .i64 bs0, .int .i64 bs1] 25 (0, 0)))
    (gm : W.heap[p16]? = some (.cells #[.int .i64 0, .int .i64 0, .int .i64 e0, .int .i64 e1, .int .i64 0, .int .i64 0, .int .i64 0, .int .i64 0] 29 (0, 0)))
    (hh : CamelsAt w ha hn herd) (h30 : hn ≤ 30)
    (hbo : breedOk ⟨bfu, bfe, ⟨br0, br1⟩, ⟨bq0, bq1⟩, ⟨bt0, bt1⟩, ⟨bn0, bn1⟩, ⟨bu0, bu1⟩, ⟨bm0, bm1⟩, bhz, ⟨bs0, bs1⟩⟩ = true) (hdo : dayOk (restDay ⟨e0, e1⟩ 0) = true) (hco : ∀ c ∈ herd, camelOk ⟨bfu, bfe, ⟨br0, br1⟩, ⟨bq0, bq1⟩, ⟨bt0, bt1⟩, ⟨bn0, bn1⟩, ⟨bu0, bu1⟩, ⟨bm0, bm1⟩, bhz, ⟨bs0, bs1⟩⟩ c = true)
    (hend : ∀ (V : World) (A : Int) {u0 u2 u3 u8 u9 u11 u12 u13 u14 u17 u18 u19 u21 u24 u25 u26 u27 u28 u29 u30 u31 u32 u33 u34 u35 u36 u37 u38 u39 u40 u41 u42 u43 u44 u45 u46 u47 u48 u49 u50 u51 u52 u53 u54 u55 u56 u57 u58 u59 u60 u61 u62 u63 u64 u65 u66 u67 u68 u69 u70 u71 u72 u73 u74 u75 u76 u77 u78 u79 u80 u81 u82 u83 u84 u85 u86 u87 u88 u89 u90 u91 u92 u93 u94 u95 u96 u97 u98 u99 u100 u101 u102 u103 u104 u105 u106 u107 u108 u109 u110 u111 u112 u113 u114 u115 u116 u117 u118 u119 u120 u121 u122 u123 u124 u125 u126 u127 u128 u129 u130 u131 u132 u133 u134 u135 u136 u137 u138 u139 u140 u141 u142 u143 u144 u145 u146 u147 u148 u149 u150 u151 u152 u153 u154 u155 u156 u157 u158 u159 u160 u161 u162 u163 u164 u165 u166 u167 u168 u169 u170 u171 u172 u173 u174 u175 u176 u177 u178 u179 u180 u181 u182 u183 u184 u185 u186 u187 u188 u189 u190 u191 u192 u193 u194 u195 u196 u197 u198 u199 u200 u201 u202 u203 u204 u205 u206 u207 u208 u209 u210 u211 u212 u213 u214 u215 u216 u217 u218 u219 u220 u221 u222 u223 u224 u225 u226 u227 u228 u229 u230 u231 u232 u233 u234 u235 u236 u237 u238 u239 u240 u241 u242 u243 u244 u245 u246 u247 u248 u249 u250 u251 u252 u253 u254 u255 u256 u257 u258 u259 u260 u261 u262 u263 u264 u265 u266 u267 u268 u269 u270 u271 u272 u273 u274 u275 u276 u277 u278 u279 u280 u281 u282 u283 u284 : Value}, Ext W V → 0 ≤ A → A ≤ 30000000 → (restFrom Try.f7 35).wp Try.prog (bodyPost Try.prog Try.f7 fun e w' => e = .returned (.bool true) ∧ Ext w w')
      ⟨#[u0, .slice ha hn hc, u2, u3, .int .i64 we, .slice da dn dc, .int .i64 day, .pointer (some ⟨w.heap.size, 0, none⟩), u8, u9, .pointer (some ⟨w.heap.size + 1 + 1, 0, none⟩), u11, u12, u13, u14, .bool true, .pointer (some ⟨p16, 0, none⟩), u17, u18, u19, .pointer (some ⟨p20, 0, none⟩), u21, .int .i64 A, .int .i64 (tot (wants ⟨bfu, bfe, ⟨br0, br1⟩, ⟨bq0, bq1⟩, ⟨bt0, bt1⟩, ⟨bn0, bn1⟩, ⟨bu0, bu1⟩, ⟨bm0, bm1⟩, bhz, ⟨bs0, bs1⟩⟩) herd), u24, u25, u26, u27, u28, u29, u30, u31, u32, u33, u34, u35, u36, u37, u38, u39, u40, u41, u42, u43, u44, u45, u46, u47, u48, u49, u50, u51, u52, u53, u54, u55, u56, u57, u58, u59, u60, u61, u62, u63, u64, u65, u66, u67, u68, u69, u70, u71, u72, u73, u74, u75, u76, u77, u78, u79, u80, u81, u82, u83, u84, u85, u86, u87, u88, u89, u90, u91, u92, u93, u94, u95, u96, u97, u98, u99, u100, u101, u102, u103, u104, u105, u106, u107, u108, u109, u110, u111, u112, u113, u114, u115, u116, u117, u118, u119, u120, u121, u122, u123, u124, u125, u126, u127, u128, u129, u130, u131, u132, u133, u134, u135, u136, u137, u138, u139, u140, u141, u142, u143, u144, u145, u146, u147, u148, u149, u150, u151, u152, u153, u154, u155, u156, u157, u158, u159, u160, u161, u162, u163, u164, u165, u166, u167, u168, u169, u170, u171, u172, u173, u174, u175, u176, u177, u178, u179, u180, u181, u182, u183, u184, u185, u186, u187, u188, u189, u190, u191, u192, u193, u194, u195, u196, u197, u198, u199, u200, u201, u202, u203, u204, u205, u206, u207, u208, u209, u210, u211, u212, u213, u214, u215, u216, u217, u218, u219, u220, u221, u222, u223, u224, u225, u226, u227, u228, u229, u230, u231, u232, u233, u234, u235, u236, u237, u238, u239, u240, u241, u242, u243, u244, u245, u246, u247, u248, u249, u250, u251, u252, u253, u254, u255, u256, u257, u258, u259, u260, u261, u262, u263, u264, u265, u266, u267, u268, u269, u270, u271, u272, u273, u274, u275, u276, u277, u278, u279, u280, u281, u282, u283, u284], []⟩ V)
    {u0 u2 u3 u8 u9 u11 u12 u13 u14 u17 u18 u19 u21 u24 u25 u26 u27 u28 u29 u30 u31 u32 u33 u34 u35 u36 u37 u38 u39 u40 u41 u42 u43 u44 u45 u46 u47 u48 u49 u50 u51 u52 u53 u54 u55 u56 u57 u58 u59 u60 u61 u62 u63 u64 u65 u66 u67 u68 u69 u70 u71 u72 u73 u74 u75 u76 u77 u78 u79 u80 u81 u82 u83 u84 u85 u86 u87 u88 u89 u90 u91 u92 u93 u94 u95 u96 u97 u98 u99 u100 u101 u102 u103 u104 u105 u106 u107 u108 u109 u110 u111 u112 u113 u114 u115 u116 u117 u118 u119 u120 u121 u122 u123 u124 u125 u126 u127 u128 u129 u130 u131 u132 u133 u134 u135 u136 u137 u138 u139 u140 u141 u142 u143 u144 u145 u146 u147 u148 u149 u150 u151 u152 u153 u154 u155 u156 u157 u158 u159 u160 u161 u162 u163 u164 u165 u166 u167 u168 u169 u170 u171 u172 u173 u174 u175 u176 u177 u178 u179 u180 u181 u182 u183 u184 u185 u186 u187 u188 u189 u190 u191 u192 u193 u194 u195 u196 u197 u198 u199 u200 u201 u202 u203 u204 u205 u206 u207 u208 u209 u210 u211 u212 u213 u214 u215 u216 u217 u218 u219 u220 u221 u222 u223 u224 u225 u226 u227 u228 u229 u230 u231 u232 u233 u234 u235 u236 u237 u238 u239 u240 u241 u242 u243 u244 u245 u246 u247 u248 u249 u250 u251 u252 u253 u254 u255 u256 u257 u258 u259 u260 u261 u262 u263 u264 u265 u266 u267 u268 u269 u270 u271 u272 u273 u274 u275 u276 u277 u278 u279 u280 u281 u282 u283 u284 : Value} :
    (restFrom Try.f7 18).wp Try.prog (bodyPost Try.prog Try.f7 fun e w' => e = .returned (.bool true) ∧ Ext w w')
      ⟨#[u0, .slice ha hn hc, u2, u3, .int .i64 we, .slice da dn dc, .int .i64 day, .pointer (some ⟨w.heap.size, 0, none⟩), u8, u9, .pointer (some ⟨w.heap.size + 1 + 1, 0, none⟩), u11, u12, u13, u14, .bool true, .pointer (some ⟨p16, 0, none⟩), u17, u18, u19, .pointer (some ⟨p20, 0, none⟩), u21, .int .i64 0, .int .i64 0, u24, u25, u26, u27, u28, u29, u30, u31, u32, u33, u34, u35, u36, u37, u38, u39, u40, u41, u42, u43, u44, u45, u46, u47, u48, u49, u50, u51, u52, u53, u54, u55, u56, u57, u58, u59, u60, u61, u62, u63, u64, u65, u66, u67, u68, u69, u70, u71, u72, u73, u74, u75, u76, u77, u78, u79, u80, u81, u82, u83, u84, u85, u86, u87, u88, u89, u90, u91, u92, u93, u94, u95, u96, u97, u98, u99, u100, u101, u102, u103, u104, u105, u106, u107, u108, u109, u110, u111, u112, u113, u114, u115, u116, u117, u118, u119, u120, u121, u122, u123, u124, u125, u126, u127, u128, u129, u130, u131, u132, u133, u134, u135, u136, u137, u138, u139, u140, u141, u142, u143, u144, u145, u146, u147, u148, u149, u150, u151, u152, u153, u154, u155, u156, u157, u158, u159, u160, u161, u162, u163, u164, u165, u166, u167, u168, u169, u170, u171, u172, u173, u174, u175, u176, u177, u178, u179, u180, u181, u182, u183, u184, u185, u186, u187, u188, u189, u190, u191, u192, u193, u194, u195, u196, u197, u198, u199, u200, u201, u202, u203, u204, u205, u206, u207, u208, u209, u210, u211, u212, u213, u214, u215, u216, u217, u218, u219, u220, u221, u222, u223, u224, u225, u226, u227, u228, u229, u230, u231, u232, u233, u234, u235, u236, u237, u238, u239, u240, u241, u242, u243, u244, u245, u246, u247, u248, u249, u250, u251, u252, u253, u254, u255, u256, u257, u258, u259, u260, u261, u262, u263, u264, u265, u266, u267, u268, u269, u270, u271, u272, u273, u274, u275, u276, u277, u278, u279, u280, u281, u282, u283, u284], []⟩ W := by
  obtain ⟨B, hB⟩ : ∃ B : Breed, (⟨bfu, bfe, ⟨br0, br1⟩, ⟨bq0, bq1⟩, ⟨bt0, bt1⟩, ⟨bn0, bn1⟩, ⟨bu0, bu1⟩, ⟨bm0, bm1⟩, bhz, ⟨bs0, bs1⟩⟩ : Breed) = B := ⟨_, rfl⟩
  rw [hB] at hbo hco hend
  have hBv : B.val = .agg #[.int .i64 bfu, .int .i64 bfe, .int .i64 br0, .int .i64 br1, .int .i64 bq0, .int .i64 bq1, .int .i64 bt0, .int .i64 bt1, .int .i64 bn0, .int .i64 bn1, .int .i64 bu0, .int .i64 bu1, .int .i64 bm0, .int .i64 bm1, .int .i64 bhz, .int .i64 bs0, .int .i64 bs1] := by rw [← hB]; rfl
  have hfu : B.full = bfu := by rw [← hB]
  have hBi := breedIs hbo
  have hfb := hBi.full
  rw [hfu] at hfb
  have hcs : ∀ (k : Bool) (V : World), Calls Try.prog 36 #[.agg #[.int .i64 bfu, .int .i64 bfe, .int .i64 br0, .int .i64 br1, .int .i64 bq0, .int .i64 bq1, .int .i64 bt0, .int .i64 bt1, .int .i64 bn0, .int .i64 bn1, .int .i64 bu0, .int .i64 bu1, .int .i64 bm0, .int .i64 bm1, .int .i64 bhz, .int .i64 bs0, .int .i64 bs1], .bool k, .agg #[.int .i64 0, .int .i64 0, .int .i64 e0, .int .i64 e1, .int .i64 0, .int .i64 0, .int .i64 0, .int .i64 0]] V fun e w' => e = .returned (.tuple #[.agg #[.int .i64 (waterOf B k (restDay ⟨e0, e1⟩ 0)).lo, .int .i64 (waterOf B k (restDay ⟨e0, e1⟩ 0)).hi], .agg #[.int .i64 0, .int .i64 0], .int .i64 0]) ∧ Ext V w' := fun k V => by
    have := costs_any B k (restDay ⟨e0, e1⟩ 0) V hbo hdo
    rw [fat_rest, hBv] at this
    exact this
  have hwb := fun k => water_is hBi (dayIs hdo) k
  have hll := hh.1
  dsimp only at hend
  have Hx := Lib.hid hx
  have Gb := Lib.hid gb
  have Gm := Lib.hid gm
  have Hh := Lib.hid hh
  have Hbo := Lib.hid hbo
  have Hdo := Lib.hid hdo
  have Hco := Lib.hid hco
  have Hend := Lib.hid hend
  have HBv := Lib.hid hBv
  have Hfu := Lib.hid hfu
  have Hcs := Lib.hid hcs
  have Hwb := Lib.hid hwb
  have Hll := Lib.hid hll
  clear hx gb gm hh hbo hdo hco hend hBv hfu hcs hwb hll
  clear hB hBi
  conv => arg 2; whnf
  dsimp only
  go_upto_region 19 with fail
  go_loopw [22, 23, 137] (fun x y i V => ∃ k : Nat, i = .int .i64 k ∧ k ≤ hn ∧ x = .int .i64 (tot (needOf B ⟨e0, e1⟩) (herd.take k)) ∧ y = .int .i64 (tot (wants B) (herd.take k)) ∧ 0 ≤ tot (needOf B ⟨e0, e1⟩) (herd.take k) ∧ tot (needOf B ⟨e0, e1⟩) (herd.take k) ≤ k * 1000000 ∧ 0 ≤ tot (wants B) (herd.take k) ∧ tot (wants B) (herd.take k) ≤ k * 1000000 ∧ Ext W V) (fun _ _ i _ => hn - (intOf i).toNat)
  case atStart => exact ⟨0, rfl, Nat.zero_le _, rfl, rfl, by simp [tot], by simp [tot], by simp [tot], by simp [tot], Ext.refl _⟩
  case round =>
    obtain ⟨k, rfl, hk, rfl, rfl, hA0, hA1, hT0, hT1, hxv⟩ := hrel
    by_cases hlt : k < hn
    · have hltB : decide ((k : Int) < (hn : Int)) = true := by simp; omega
      obtain ⟨b, off, c, rfl, hck, -, c0, c1, c2, c3, c4, c5, c6⟩ := (Hh.out.ext (Hx.out.trans hxv)).get k hlt
      have hcok := Hco.out c (List.mem_of_getElem? hck)
      have hCw := (camelIs.1 hcok).water
      have hw1 := hCw.low
      have hw2 := hCw.ord
      have hw3 := hCw.top
      rw [Hfu.out] at hw3
      have htA := tot_take (f := needOf B ⟨e0, e1⟩) hck
      have htT := tot_take (f := wants B) hck
      have hwm := Hwb.out c.milks
      have hcm := fun V => Hcs.out c.milks V
      have hag := fun h0 h1 h2 => full_again (h := ⟨e0, e1⟩) Hbo.out hcok Hdo.out h0 h1 h2
      have hnd : needOf B ⟨e0, e1⟩ c = (waterOf B c.milks (restDay ⟨e0, e1⟩ 0)).hi + bfu - c.water.lo := by unfold needOf costHi; rw [Hfu.out]
      have hwt : wants B c = bfu - c.water.lo := by unfold wants; rw [Hfu.out]
      have haf := fun (V : World) (n : Int) (hm : dayOk (restDay ⟨e0, e1⟩ n) = true) (hd : diesB B c (restDay ⟨e0, e1⟩ n) = false) => after_any B c (restDay ⟨e0, e1⟩ n) V Hbo.out hcok hm hd
      unfold costHi at hag
      obtain ⟨⟨w0, w1⟩, ⟨f0, f1⟩, ⟨o0, o1⟩, mk⟩ := c
      simp only at c0 c1 c2 c3 c4 c5 c6 hw1 hw2 hw3 hnd hwt hwm hcm hag
      obtain ⟨CL, hCL⟩ : ∃ CL, (waterOf B mk (restDay ⟨e0, e1⟩ 0)).lo = CL := ⟨_, rfl⟩
      obtain ⟨CH, hCH⟩ : ∃ CH, (waterOf B mk (restDay ⟨e0, e1⟩ 0)).hi = CH := ⟨_, rfl⟩
      rw [hCL, hCH] at hwm hcm
      rw [hCH] at hnd hag
      obtain ⟨N, hN⟩ : ∃ N, CH + bfu - w0 = N := ⟨_, rfl⟩
      rw [hN] at hnd
      rw [hnd] at htA hag
      rw [hwt] at htT
      obtain ⟨A, hA⟩ : ∃ A, tot (needOf B ⟨e0, e1⟩) (herd.take k) = A := ⟨_, rfl⟩
      obtain ⟨T, hT⟩ : ∃ T, tot (wants B) (herd.take k) = T := ⟨_, rfl⟩
      rw [hA] at htA hA0 hA1 ⊢
      rw [hT] at htT hT0 hT1 ⊢
      clear hA hT hCL hCH hck hCw hcok hnd hwt
      have Hxv := Lib.hid hxv
      have HtA := Lib.hid htA
      have HtT := Lib.hid htT
      have Hcm := Lib.hid hcm
      have Hag := Lib.hid hag
      have Haf := Lib.hid haf
      clear hxv htA htT hcm hag haf
      go_upto_region 21 with fail
      have hx20 := (Ext.refl wr).alloc (.cells #[.int .i64 w0, .int .i64 w1, .int .i64 f0, .int .i64 f1, .int .i64 o0, .int .i64 o1, .bool mk] 27)
      have b25 := heap_alloc_new wr (.cells #[.int .i64 w0, .int .i64 w1, .int .i64 f0, .int .i64 f1, .int .i64 o0, .int .i64 o1, .bool mk] 27)
      generalize wr.alloc (.cells #[.int .i64 w0, .int .i64 w1, .int .i64 f0, .int .i64 f1, .int .i64 o0, .int .i64 o1, .bool mk] 27) = W20 at *
      generalize wr.heap.size = p25 at *
      have hxv20 := Hxv.out.trans hx20
      have gb20 := hxv20.heap Gb.out
      have gm20 := hxv20.heap Gm.out
      obtain ⟨y25, _⟩ := (Ext.refl W20).box b25
      have l25 := heap_lt b25
      clear c0 c1 c2 c3 c4 c5 c6 hx20
      have Hxv20 := Lib.hid hxv20
      have Gb20 := Lib.hid gb20
      have Gm20 := Lib.hid gm20
      have B25 := Lib.hid b25
      clear hxv20 gb20 gm20 b25
      clear Hxv
      refine wp_region_lit ?_
      refine wpList_load_row rfl 25 (.tmp 7) rfl w.heap.size rfl 25 _ (0, 0) _ Gb20.out Try.underlying25 rfl (by kernel_rfl) ?_
      simp only [Act.put, List.setIfInBounds_toArray, List.set_cons_succ, List.set_cons_zero]
      refine wpList_split 2 (fun f hf hs => ?_)
      simp only [List.take_succ_cons, List.take_zero, List.drop_succ_cons, List.drop_zero]
      have f0 := fun q => ((hf q).box B25.out).1
      have Hf := Lib.hid hf
      have HS := Lib.hid hs
      clear hf hs
      repeat (go_big_quiet_step (fail))
      refine wpQuiet_nil ?_
      intro W21 hW21
      clear f0
      have gm21 := hW21.heap Gm20.out
      have hx21 := hW21
      have Gm21 := Lib.hid gm21
      have Hx21 := Lib.hid hx21
      clear gm21 hx21
      clear hW21 y25 l25
      refine wpList_load_row rfl 29 (.tmp 16) rfl p16 rfl 29 _ (0, 0) _ Gm21.out Try.underlying29 rfl (by kernel_rfl) ?_
      simp only [Act.put, List.setIfInBounds_toArray, List.set_cons_succ, List.set_cons_zero]
      refine wpList_split 5 (fun f hf hs => ?_)
      simp only [List.take_succ_cons, List.take_zero, List.drop_succ_cons, List.drop_zero]
      have Hf := Lib.hid hf
      have HS := Lib.hid hs
      clear hf hs
      repeat (go_big_quiet_step ((go_at_call 36; exact Calls.ext_of (Hf.out _) HS.out (Hcm.out _))))
      refine wpQuiet_nil ?_
      intro W22 hW22
      go_upto_region 22 with fail
      have hx23 := ((Hx21.out.trans hW22).alloc (.cells #[.int .i64 CL, .int .i64 CH] 23)).alloc (.cells #[.int .i64 0, .int .i64 0] 23)
      have b26 := alloc_heap (heap_alloc_new W22 (.cells #[.int .i64 CL, .int .i64 CH] 23)) (.cells #[.int .i64 0, .int .i64 0] 23)
      have b27 := alloc_at (W22.alloc (.cells #[.int .i64 CL, .int .i64 CH] 23)) (.cells #[.int .i64 0, .int .i64 0] 23) (W22.heap.size + 1) (by simp)
      generalize (W22.alloc (.cells #[.int .i64 CL, .int .i64 CH] 23)).alloc (.cells #[.int .i64 0, .int .i64 0] 23) = W23 at *
      generalize W22.heap.size + 1 = p27 at *
      generalize W22.heap.size = p26 at *
      have b25 := hx23.heap B25.out
      have gb23 := hx23.heap Gb20.out
      have gm23 := hx23.heap Gm20.out
      have hxv23 := Hxv20.out.trans hx23
      clear hW22 hx23 B25 Gb20 Gm20 Gm21 Hx21 Hxv20 Hcm
      have B25 := Lib.hid b25
      have B26 := Lib.hid b26
      have B27 := Lib.hid b27
      have Gb23 := Lib.hid gb23
      have Gm23 := Lib.hid gm23
      have Hxv23 := Lib.hid hxv23
      clear b25 b26 b27 gb23 gm23 hxv23
      refine wp_region_seq (fun f hf hs => ?_)
      have f0 := fun q => ((hf q).box B27.out).1
      clear hf hs
      repeat (go_big_quiet_step (fail))
      refine wpQuiet_nil ?_
      intro W24 hW24
      clear f0
      have hx24 := hW24
      have Hx24 := Lib.hid hx24
      clear hx24
      clear hW24
      go_upto_region 24 with fail
      refine wp_region_seq (fun f hf hs => ?_)
      have f0 := fun q => ((hf q).box (Hx24.out.heap B26.out)).1
      have f1 := fun q => ((hf q).box (Hx24.out.heap Gb23.out)).1
      have f2 := fun q => ((hf q).box (Hx24.out.heap B25.out)).1
      clear hf hs
      repeat (go_big_quiet_step (fail))
      refine wpQuiet_nil ?_
      intro W25 hW25
      clear f0 f1 f2
      have hx25 := Hx24.out.trans hW25
      have Hx25 := Lib.hid hx25
      clear hx25
      clear hW25 Hx24
      go_upto_region 25 with fail
      by_cases hN0 : N < 0
      · have hN0B : decide (N < 0) = true := decide_eq_true hN0
        refine wp_region_seq (fun f hf hs => ?_)
        have f0 := fun q => ((hf q).box (Hx25.out.heap B25.out)).1
        have f1 := fun q => ((hf q).box (Hx25.out.heap B26.out)).1
        clear hf hs
        repeat (go_big_quiet_step (fail))
        refine wpQuiet_nil ?_
        intro W26 hW26
        clear f0 f1
        have hx26 := Hx.out.trans (Hxv23.out.trans (Hx25.out.trans hW26))
        have Hx26 := Lib.hid hx26
        clear hx26
        clear hW26
        go_wp2_with fail
        go_ret
        exact ⟨rfl, Hx26.out⟩
      · have hN0B : decide (N < 0) = false := decide_eq_false hN0
        by_cases hN1 : 1000000 < N
        · have hN1B : decide (1000000 < N) = true := decide_eq_true hN1
          refine wp_region_seq (fun f hf hs => ?_)
          have f0 := fun q => ((hf q).box (Hx25.out.heap B25.out)).1
          have f1 := fun q => ((hf q).box (Hx25.out.heap B26.out)).1
          clear hf hs
          repeat (go_big_quiet_step (fail))
          refine wpQuiet_nil ?_
          intro W26 hW26
          clear f0 f1
          have hx26 := Hx.out.trans (Hxv23.out.trans (Hx25.out.trans hW26))
          have Hx26 := Lib.hid hx26
          clear hx26
          clear hW26
          go_wp2_with fail
          go_ret
          exact ⟨rfl, Hx26.out⟩
        · have hN1B : decide (1000000 < N) = false := decide_eq_false hN1
          by_cases hwc : w0 < CH
          · have hwcB : decide (w0 < CH) = true := decide_eq_true hwc
            refine wp_region_seq (fun f hf hs => ?_)
            have f0 := fun q => ((hf q).box (Hx25.out.heap B25.out)).1
            have f1 := fun q => ((hf q).box (Hx25.out.heap B26.out)).1
            clear hf hs
            repeat (go_big_quiet_step (fail))
            refine wpQuiet_nil ?_
            intro W26 hW26
            clear f0 f1
            have hx26 := Hx.out.trans (Hxv23.out.trans (Hx25.out.trans hW26))
            have Hx26 := Lib.hid hx26
            clear hx26
            clear hW26
            go_wp2_with fail
            go_ret
            exact ⟨rfl, Hx26.out⟩
          · have hwcB : decide (w0 < CH) = false := decide_eq_false hwc
            obtain ⟨hm, hds, hsf, hnx⟩ := Hag.out (by omega) (by omega) (by omega)
            have haf := fun V => Haf.out V N hm hds
            rw [hsf, if_pos rfl, HBv.out] at haf
            obtain ⟨⟨xw, ⟨xf0, xf1⟩, ⟨xo0, xo1⟩, xk⟩, hX⟩ : ∃ X, nextOf B ⟨⟨w0, w1⟩, ⟨f0, f1⟩, ⟨o0, o1⟩, mk⟩ (restDay ⟨e0, e1⟩ N) = X := ⟨_, rfl⟩
            rw [hX] at haf hnx
            simp only at hnx
            rw [Hfu.out] at hnx
            subst hnx
            unfold Camel.val March.val restDay at haf
            simp only at haf
            clear hX hm hds hsf
            have Haf := Lib.hid haf
            clear haf
            clear Hag
            refine wp_region_seq (fun f hf hs => ?_)
            have f0 := fun q => ((hf q).box (Hx25.out.heap B25.out)).1
            have f1 := fun q => ((hf q).box (Hx25.out.heap B26.out)).1
            clear hf hs
            repeat (go_big_quiet_step (fail))
            refine wpQuiet_nil ?_
            intro W26 hW26
            clear f0 f1
            have hx26 := Hx25.out.trans hW26
            have gm26 := hx26.heap Gm23.out
            have Hx26 := Lib.hid hx26
            have Gm26 := Lib.hid gm26
            clear hx26 gm26
            clear hW26 Hx25
            go_upto_region 27 with fail
            refine wp_region_seq (fun f hf hs => ?_)
            clear hf hs
            repeat (go_big_quiet_step (fail))
            refine wpQuiet_nil ?_
            intro W27 hW27
            have gm27 := hW27.heap Gm26.out
            have hx27 := Hx26.out.trans hW27
            have Gm27 := Lib.hid gm27
            have Hx27 := Lib.hid hx27
            clear gm27 hx27
            clear hW27 Hx26 Gm26
            go_upto_region 28 with fail
            refine wp_region_lit ?_
            refine wpList_load_row rfl 29 (.tmp 16) rfl p16 rfl 29 _ (0, 0) _ Gm27.out Try.underlying29 rfl (by kernel_rfl) ?_
            simp only [Act.put, List.setIfInBounds_toArray, List.set_cons_succ, List.set_cons_zero]
            go_upto_region 29 with fail
            have hx28 := Hx27.out.alloc (.cells #[.int .i64 0, .int .i64 0, .int .i64 e0, .int .i64 e1, .int .i64 0, .int .i64 0, .int .i64 0, .int .i64 0] 29)
            have b30 := heap_alloc_new W27 (.cells #[.int .i64 0, .int .i64 0, .int .i64 e0, .int .i64 e1, .int .i64 0, .int .i64 0, .int .i64 0, .int .i64 0] 29)
            have hp30 := hx28.size
            have hW27s := Hx27.out.size
            generalize W27.alloc (.cells #[.int .i64 0, .int .i64 0, .int .i64 e0, .int .i64 e1, .int .i64 0, .int .i64 0, .int .i64 0, .int .i64 0] 29) = W28 at *
            generalize W27.heap.size = p30 at *
            have Hx28 := Lib.hid hx28
            have B30 := Lib.hid b30
            have HW27s := Lib.hid hW27s
            clear hx28 b30 hW27s
            clear Hx27 Gm27
            refine wp_region_lit ?_
            refine wpList_split 4 (fun f hf hs => ?_)
            simp only [List.take_succ_cons, List.take_zero, List.drop_succ_cons, List.drop_zero]
            have Hf := Lib.hid hf
            have HS := Lib.hid hs
            clear hf hs
            repeat (go_big_quiet_step ((go_at_call 37; exact Calls.ext_of (Hf.out _) HS.out (rangd_any _ _ _))))
            refine wpQuiet_nil ?_
            intro W29 hW29
            have b29 := hW29.heap B30.out
            have hx29 := Hx28.out.trans hW29
            have hl29 := heap_lt b29
            obtain ⟨y29, z29⟩ := (Ext.refl W29).box b29
            have b30' : ((W29.setCell ⟨p30, 6, none⟩ (.int .i64 N)).setCell ⟨p30, 7, none⟩ (.int .i64 N)).heap[p30]? = some (.cells #[.int .i64 0, .int .i64 0, .int .i64 e0, .int .i64 e1, .int .i64 0, .int .i64 0, .int .i64 N, .int .i64 N] 29 (0, 0)) := by
              rw [heap_setCell_box, heap_setCell_box, b29]
              rfl
            have hx30 : Ext W23 ((W29.setCell ⟨p30, 6, none⟩ (.int .i64 N)).setCell ⟨p30, 7, none⟩ (.int .i64 N)) := (hx29.setCell (p := ⟨p30, 6, none⟩) HW27s.out _).setCell (p := ⟨p30, 7, none⟩) HW27s.out _
            have B30' := Lib.hid b30'
            have Hx30 := Lib.hid hx30
            clear b30' hx30
            clear hW29 b29 hx29 Hx28 B30
            go_upto_region 30 with fail
            clear y29 z29 hl29
            generalize (W29.setCell ⟨p30, 6, none⟩ (.int .i64 N)).setCell ⟨p30, 7, none⟩ (.int .i64 N) = W30 at *
            have gb30 := Hx30.out.heap Gb23.out
            have b25' := Hx30.out.heap B25.out
            have Gb30 := Lib.hid gb30
            have B25' := Lib.hid b25'
            clear gb30 b25'
            refine wp_region_lit ?_
            refine wpList_load_row rfl 25 (.tmp 7) rfl w.heap.size rfl 25 _ (0, 0) _ Gb30.out Try.underlying25 rfl (by kernel_rfl) ?_
            refine wpList_load_row rfl 27 (.tmp 25) rfl p25 rfl 27 _ (0, 0) _ B25'.out Try.underlying27 rfl (by kernel_rfl) ?_
            refine wpList_load_row rfl 29 (.tmp 30) rfl p30 rfl 29 _ (0, 0) _ B30'.out Try.underlying29 rfl (by kernel_rfl) ?_
            simp only [Act.put, List.setIfInBounds_toArray, List.set_cons_succ, List.set_cons_zero]
            refine wpList_split 5 (fun f hf hs => ?_)
            simp only [List.take_succ_cons, List.take_zero, List.drop_succ_cons, List.drop_zero]
            have Hf := Lib.hid hf
            have HS := Lib.hid hs
            clear hf hs
            repeat (go_big_quiet_step ((go_at_call 38; exact Calls.ext_of (Hf.out _) HS.out (Haf.out _))))
            refine wpQuiet_nil ?_
            intro W31 hW31
            have hx31 := Hx30.out.trans hW31
            have Hx31 := Lib.hid hx31
            clear hx31
            clear hW31 Hx30 B30' B25'
            go_upto_region 31 with fail
            have hx32 := Hx31.out.alloc (.cells #[.int .i64 bfu, .int .i64 bfu, .int .i64 xf0, .int .i64 xf1, .int .i64 xo0, .int .i64 xo1, .bool xk] 27)
            have b31 := heap_alloc_new W31 (.cells #[.int .i64 bfu, .int .i64 bfu, .int .i64 xf0, .int .i64 xf1, .int .i64 xo0, .int .i64 xo1, .bool xk] 27)
            generalize W31.alloc (.cells #[.int .i64 bfu, .int .i64 bfu, .int .i64 xf0, .int .i64 xf1, .int .i64 xo0, .int .i64 xo1, .bool xk] 27) = W32 at *
            generalize W31.heap.size = p31 at *
            have gb32 := hx32.heap Gb23.out
            have Hx32 := Lib.hid hx32
            have B31 := Lib.hid b31
            have Gb32 := Lib.hid gb32
            clear hx32 b31 gb32
            clear Hx31 Haf
            refine wp_region_ext (by kernel_rfl) (by kernel_rfl) (fun f hf hs => ?_)
            have f0 := fun q => ((hf q).box B31.out).1
            have f1 := fun q => ((hf q).box Gb32.out).1
            have Hf := Lib.hid hf
            have HS := Lib.hid hs
            clear hf hs
            repeat (go_big_quiet_step ((go_at_call 37; exact Calls.ext_of (Hf.out _) HS.out (rangd_any _ _ _))))
            refine wpQuiet_nil ?_
            intro W33 hW33
            clear f0 f1
            have hx33 := Hx32.out.trans hW33
            have Hx33 := Lib.hid hx33
            clear hx33
            clear hW33 Hx32 B31
            go_upto_region 33 with fail
            refine wp_region_seq (fun f hf hs => ?_)
            have f0 := fun q => ((hf q).box (Hx33.out.heap B26.out)).1
            clear hf hs
            repeat (go_big_quiet_step (fail))
            refine wpQuiet_nil ?_
            intro W34 hW34
            clear f0
            have hx34 := Hxv23.out.trans (Hx33.out.trans hW34)
            have Hx34 := Lib.hid hx34
            clear hx34
            clear hW34 Hx33
            go_wp2_with fail
            go_roundw
            case rel => exact ⟨k + 1, by go_num, by omega, by rw [HtA.out], by rw [HtT.out]; congr 1; omega, by rw [HtA.out]; omega, by rw [HtA.out]; omega, by rw [HtT.out]; omega, by rw [HtT.out]; omega, Hx34.out⟩
            case measure => simp [intOf]; omega
    · have hltB : decide ((k : Int) < (hn : Int)) = false := by simp; omega
      have hfull : herd.take k = herd := List.take_of_length_le (by rw [Hll.out]; omega)
      rw [hfull] at hA0 hA1 ⊢
      obtain ⟨A, hA⟩ : ∃ A, tot (needOf B ⟨e0, e1⟩) herd = A := ⟨_, rfl⟩
      rw [hA] at hA0 hA1 ⊢
      have Hxv := Lib.hid hxv
      clear hxv
      clear hT0 hT1 hA hfull
      iterate 16 go_step
      exact Hend.out _ _ Hxv.out hA0 (by omega)
end Go.Proofs.Ytcoelhpmkhimpaa

namespace Go.Proofs.Ytcoelhpmkhimpaa
open Go.RowKit
set_option linter.unusedVariables false
set_option linter.unusedSimpArgs false
theorem info60 : (Try.prog.info? 60).map (fun i => (i.zero, i.size, i.bytes)) = some (some (.agg #[.int .i64 0, .int .i64 0, .int .i64 0]), 3, 24) := by kernel_rfl
theorem elem61 : Elem Try.prog 61 60 3 := by
  obtain ⟨i, h1, h2, h3, h4⟩ := info_parts info60
  exact ⟨Try.underlying61, ⟨i, _, _, h1, h2, h3, h4, rfl, by decide⟩, by decide⟩
def drawRows (l : List Draw) : List (List Value) := l.map Draw.cells
theorem drawRows_len (l : List Draw) : (drawRows l).length = l.length := by simp [drawRows]
theorem drawRows_append (A B : List Draw) : drawRows (A ++ B) = drawRows A ++ drawRows B := by simp [drawRows]
theorem drawRows_row (l : List Draw) : ∀ r ∈ drawRows l, r.length = 3 ∧ ∀ u ∈ r, u.oneCell' = true := by
  intro r hr
  obtain ⟨t, _, rfl⟩ := List.mem_map.1 hr
  refine ⟨rfl, fun u hu => ?_⟩
  simp only [Draw.cells, List.mem_cons, List.not_mem_nil, or_false] at hu
  rcases hu with rfl | rfl | rfl <;> rfl
theorem DrawsAt.src {w : World} {a : Option Addr} {n : Nat} {l : List Draw} (h : DrawsAt w a n l) : SlAt w 3 a n (fun k => (drawRows l).getD k []) :=
  h.2.congr fun k hk => by
    have := h.1
    simp only [drawRows, List.getD, List.getElem?_map, List.getElem?_eq_getElem (show k < l.length by omega), Option.map_some, Option.getD_some]
theorem draws_owned {w : World} {B : Nat} {v : Value} {l : List Draw} (h : Owns w B 60 3 v (drawRows l)) : ∃ a c, v = .slice a l.length c ∧ l.length ≤ c ∧ c ≤ maxLen ∧ DrawsAt w a l.length l := by
  obtain ⟨a, c, e, h1, h2, h3, h4⟩ := h.slAt
  rw [drawRows_len] at e h2 h4
  exact ⟨a, c, e, h2, h3, rfl, h4.congr fun i hi => by simp [drawRows, List.getD, List.getElem?_map, List.getElem?_eq_getElem hi]⟩
theorem draw_src (W : World) (g : Nat) (y : Draw) (h : W.heap[g]? = some (.cells #[.int .i64 y.well, .int .i64 y.day, .int .i64 y.water] 60 (0, 0))) : SlAt W 3 (some ⟨g, 0, none⟩) 1 (fun k => (drawRows [y]).getD k []) :=
  slAt_one (fun j v hv => by
    rw [cell_of_row _ _ _ _ 60 (0, 0) h, Nat.zero_add, List.getElem?_toArray]
    exact hv)
abbrev S42 := Nat × Bool × Bool × Bool × Bool
def lst42 : S42 → Array Bool
  | (A, b, k, d, e) => #[true, true, decide (1 ≤ A), true, decide (2 ≤ A), true, true, true, true, true, b || decide (3 ≤ A), decide (3 ≤ A), true, decide (4 ≤ A), decide (5 ≤ A), decide (6 ≤ A), (d && decide (5 ≤ A)) || decide (8 ≤ A), (e && decide (5 ≤ A)) || decide (9 ≤ A), k || decide (7 ≤ A), decide (7 ≤ A), decide (8 ≤ A), decide (9 ≤ A)]
def sts42 : List S42 := (List.range 10).flatMap fun A => [false, true].flatMap fun b => [false, true].flatMap fun k => [false, true].flatMap fun d => [false, true].map fun e => (A, b, k, d, e)
def cond42 : S42 → Nat → Bool
  | (A, b, k, d, e), i => (i == 2 && A == 0) || ((i == 4 && A == 1) || ((i == 10 && (!b && decide (A ≤ 2))) || ((i == 11 && (A == 2 && b)) || ((i == 13 && A == 3) || ((i == 14 && A == 4) || ((i == 15 && A == 5) || ((i == 16 && (decide (5 ≤ A) && decide (A ≤ 7))) || ((i == 17 && (decide (5 ≤ A) && decide (A ≤ 8))) || ((i == 18 && decide (A ≤ 6)) || ((i == 19 && (A == 6 && k)) || ((i == 20 && (A == 7 && d)) || (i == 21 && (A == 8 && e)))))))))))))
def nxt42 : S42 → Nat → S42
  | (A, b, k, d, e), i => if i = 10 then (A, true, k, d, e) else if i = 18 then (A, b, true, d, e) else if i = 16 then (A, b, k, true, e) else if i = 17 then (A, b, k, d, true) else if i = 14 then (A + 1, b, k, false, false) else (A + 1, b, k, d, e)
def fin42 : S42 → Bool
  | (A, _, _, _, _) => A == 9
theorem mem_sts42 {A : Nat} {b k d e : Bool} (hA : A ≤ 9) : (A, b, k, d, e) ∈ sts42 := by
  unfold sts42
  simp only [List.mem_flatMap, List.mem_range, List.mem_map]
  refine ⟨A, by omega, b, by cases b <;> simp, k, by cases k <;> simp, d, by cases d <;> simp, e, by cases e <;> simp, rfl⟩
theorem cond42_cases {A : Nat} {b k d e : Bool} {i : Nat} (h : cond42 (A, b, k, d, e) i = true) : (i = 2 ∧ A = 0) ∨ (i = 4 ∧ A = 1) ∨ (i = 10 ∧ A ≤ 2) ∨ (i = 11 ∧ A = 2 ∧ b = true) ∨ (i = 13 ∧ A = 3) ∨ (i = 14 ∧ A = 4) ∨ (i = 15 ∧ A = 5) ∨ (i = 16 ∧ 5 ≤ A ∧ A ≤ 7) ∨ (i = 17 ∧ 5 ≤ A ∧ A ≤ 8) ∨ (i = 18 ∧ A ≤ 6) ∨ (i = 19 ∧ A = 6 ∧ k = true) ∨ (i = 20 ∧ A = 7 ∧ d = true) ∨ (i = 21 ∧ A = 8 ∧ e = true) := by
  simp only [cond42, Bool.or_eq_true, Bool.and_eq_true, beq_iff_eq, decide_eq_true_eq] at h
  rcases h with h | h | h | h | h | h | h | h | h | h | h | h | h
  · exact .inl h
  · exact .inr (.inl h)
  · exact .inr (.inr (.inl ⟨h.1, h.2.2⟩))
  · exact .inr (.inr (.inr (.inl h)))
  · exact .inr (.inr (.inr (.inr (.inl h))))
  · exact .inr (.inr (.inr (.inr (.inr (.inl h)))))
  · exact .inr (.inr (.inr (.inr (.inr (.inr (.inl h))))))
  · exact .inr (.inr (.inr (.inr (.inr (.inr (.inr (.inl h)))))))
  · exact .inr (.inr (.inr (.inr (.inr (.inr (.inr (.inr (.inl h))))))))
  · exact .inr (.inr (.inr (.inr (.inr (.inr (.inr (.inr (.inr (.inl h)))))))))
  · exact .inr (.inr (.inr (.inr (.inr (.inr (.inr (.inr (.inr (.inr (.inl h))))))))))
  · exact .inr (.inr (.inr (.inr (.inr (.inr (.inr (.inr (.inr (.inr (.inr (.inl h)))))))))))
  · exact .inr (.inr (.inr (.inr (.inr (.inr (.inr (.inr (.inr (.inr (.inr (.inr h)))))))))))
/-- the slice at work -/
def cur42 (A : Nat) (x252 x254 x261 : Value) : Value := if A = 0 then .slice none 0 0 else if A = 1 then x252 else if A = 2 then x254 else x261
def row42 (A : Nat) (ds : List Draw) (y : Draw) : List (List Value) := if A ≤ 1 then [] else if A = 2 then drawRows ds else drawRows (ds ++ [y])
structure In42 (V0 : World) (ds : List Draw) (y : Draw) (c d' : Int) (A : Nat) (b k d e : Bool) (x252 x254 x260 x261 x263 x249 x264 x265 x266 x37 x38 x39 : Value) (W : World) : Prop where
  hA : A ≤ 9
  ext : Ext V0 W
  own : Owns W V0.heap.size 60 3 (cur42 A x252 x254 x261) (row42 A ds y)
  new : b = true → A ≤ 2 → ∃ g, x260 = .slice (some ⟨g, 0, none⟩) 1 1 ∧ W.heap[g]? = some (.cells #[.int .i64 y.well, .int .i64 y.day, .int .i64 y.water] 60 (0, 0)) ∧ (cur42 A x252 x254 x261).ownBlock ≠ some g
  box : k = true ∨ 7 ≤ A → ∃ q, x37 = .pointer (some ⟨q, 0, none⟩) ∧ V0.heap.size ≤ q ∧ W.heap[q]? = some (.cells (if 7 ≤ A then #[.int .i64 c, .int .i64 d'] else #[.int .i64 0, .int .i64 0]) 23 (0, 0)) ∧ (cur42 A x252 x254 x261).ownBlock ≠ some q
  r263 : 4 ≤ A → x263 = .tuple #[.agg #[.int .i64 c, .int .i64 d'], .int .i64 0, .int .i64 0]
  r249 : 5 ≤ A → x249 = .tuple #[.agg #[.int .i64 c, .int .i64 d'], .int .i64 0, .int .i64 0]
  r264 : 6 ≤ A → x264 = .agg #[.int .i64 c, .int .i64 d']
  r265 : (d = true ∧ 5 ≤ A) ∨ 8 ≤ A → x265 = .int .i64 0
  r266 : (e = true ∧ 5 ≤ A) ∨ 9 ≤ A → x266 = .int .i64 0
  r38 : 8 ≤ A → x38 = .int .i64 0
  r39 : 9 ≤ A → x39 = .int .i64 0
def I42 (V0 : World) (ds : List Draw) (y : Draw) (c d' : Int) : S42 → List Value → World → Prop
  | (A, b, k, d, e), xs, W => ∃ x252 x254 x260 x261 x263 x249 x264 x265 x266 x37 x38 x39, xs = [x252, x254, x260, x261, x263, x249, x264, x265, x266, x37, x38, x39] ∧ In42 V0 ds y c d' A b k d e x252 x254 x260 x261 x263 x249 x264 x265 x266 x37 x38 x39 W
theorem ne_size {w : World} {B : Nat} {e : TypeId} {sz : Nat} {v : Value} {rows : List (List Value)} (h : Owns w B e sz v rows) {g : Nat} (hg : w.heap.size ≤ g) : v.ownBlock ≠ some g := fun e => by
  have := (h.lt _ e).2
  omega
section
variable {V0 W : World} {ds : List Draw} {y : Draw} {c d' : Int} {A : Nat} {b k d e : Bool} {x252 x254 x260 x261 x263 x249 x264 x265 x266 x37 x38 x39 : Value}
theorem In42.s2 (h : In42 V0 ds y c d' 0 b k d e x252 x254 x260 x261 x263 x249 x264 x265 x266 x37 x38 x39 W) : In42 V0 ds y c d' 1 b k d e (.slice (some ⟨W.heap.size, 0, none⟩) 0 0) x254 x260 x261 x263 x249 x264 x265 x266 x37 x38 x39 (W.alloc (.cells #[] 60)) := by
  obtain ⟨h1, h2, h3, h4, h5, -, -, -, -, -, -, -⟩ := h
  refine ⟨by omega, h2.alloc _, Owns.emptyM (heap_alloc_new W _) h2.size rfl (by decide), fun hb _ => ?_, fun hk => ?_, by omega, by omega, by omega, by omega, by omega, by omega, by omega⟩
  · obtain ⟨g, e1, e2, _⟩ := h4 hb (by omega)
    have := heap_lt e2
    exact ⟨g, e1, alloc_heap e2 _, by simp [cur42, Value.ownBlock]; omega⟩
  · obtain ⟨q, e1, e2, e3, _⟩ := h5 (hk.imp_right fun x => by omega)
    have := heap_lt e3
    exact ⟨q, e1, e2, alloc_heap e3 _, by simp [cur42, Value.ownBlock]; omega⟩
theorem In42.grow {v' : Value} {rows : List (List Value)} {W' : World} (h : In42 V0 ds y c d' A b k d e x252 x254 x260 x261 x263 x249 x264 x265 x266 x37 x38 x39 W) (ho : Owns W' V0.heap.size 60 3 v' rows) (hg : W.grownBy W' (cur42 A x252 x254 x261).ownBlock) (hor : v'.ownBlock = (cur42 A x252 x254 x261).ownBlock ∨ v'.ownBlock = some W.heap.size) :
    Ext V0 W' ∧ (∀ g o, W.heap[g]? = some o → (cur42 A x252 x254 x261).ownBlock ≠ some g → W'.heap[g]? = some o ∧ v'.ownBlock ≠ some g) := by
  refine ⟨h.ext.app h.own hg, fun g o hgo hne => ⟨(hg.block g (heap_lt hgo) (fun e => hne e.symm)).trans hgo, fun e => ?_⟩⟩
  rcases hor with h1 | h1
  · exact hne (h1.symm.trans e)
  · rw [h1] at e
    have := heap_lt hgo
    cases e
    omega
theorem In42.s4 {v' : Value} {W' : World} (h : In42 V0 ds y c d' 1 b k d e x252 x254 x260 x261 x263 x249 x264 x265 x266 x37 x38 x39 W) (ho : Owns W' V0.heap.size 60 3 v' (drawRows ds)) (hg : W.grownBy W' (cur42 1 x252 x254 x261).ownBlock) (hor : v'.ownBlock = (cur42 1 x252 x254 x261).ownBlock ∨ v'.ownBlock = some W.heap.size) :
    In42 V0 ds y c d' 2 b k d e x252 v' x260 x261 x263 x249 x264 x265 x266 x37 x38 x39 W' := by
  obtain ⟨g1, g2⟩ := h.grow ho hg hor
  refine ⟨by omega, g1, ho, fun hb _ => ?_, fun hk => ?_, by omega, by omega, by omega, by omega, by omega, by omega, by omega⟩
  · obtain ⟨g, e1, e2, e3⟩ := h.new hb (by omega)
    exact ⟨g, e1, g2 g _ e2 e3⟩
  · obtain ⟨q, e1, e2, e3, e4⟩ := h.box (hk.imp_right fun x => by omega)
    exact ⟨q, e1, e2, g2 q _ e3 e4⟩
theorem In42.s11 {v' : Value} {W' : World} (h : In42 V0 ds y c d' 2 b k d e x252 x254 x260 x261 x263 x249 x264 x265 x266 x37 x38 x39 W) (ho : Owns W' V0.heap.size 60 3 v' (drawRows (ds ++ [y]))) (hg : W.grownBy W' (cur42 2 x252 x254 x261).ownBlock) (hor : v'.ownBlock = (cur42 2 x252 x254 x261).ownBlock ∨ v'.ownBlock = some W.heap.size) :
    In42 V0 ds y c d' 3 b k d e x252 x254 x260 v' x263 x249 x264 x265 x266 x37 x38 x39 W' := by
  obtain ⟨g1, g2⟩ := h.grow ho hg hor
  refine ⟨by omega, g1, ho, fun hb hA => by omega, fun hk => ?_, by omega, by omega, by omega, by omega, by omega, by omega, by omega⟩
  obtain ⟨q, e1, e2, e3, e4⟩ := h.box (hk.imp_right fun x => by omega)
  exact ⟨q, e1, e2, g2 q _ e3 e4⟩
theorem In42.s10 (h : In42 V0 ds y c d' A b k d e x252 x254 x260 x261 x263 x249 x264 x265 x266 x37 x38 x39 W) (hA : A ≤ 2) : In42 V0 ds y c d' A true k d e x252 x254 (.slice (some ⟨W.heap.size, 0, none⟩) 1 1) x261 x263 x249 x264 x265 x266 x37 x38 x39 (W.alloc (.cells #[.int .i64 y.well, .int .i64 y.day, .int .i64 y.water] 60)) := by
  obtain ⟨h1, h2, h3, h4, h5, h6, h7, h8, h9, h10, h11, h12⟩ := h
  refine ⟨h1, h2.alloc _, h3.alloc _, fun hb _ => ⟨_, rfl, heap_alloc_new W _, ne_size h3 (Nat.le_refl _)⟩, fun hk => ?_, h6, h7, h8, h9, h10, h11, h12⟩
  obtain ⟨q, e1, e2, e3, e4⟩ := h5 hk
  exact ⟨q, e1, e2, alloc_heap e3 _, e4⟩
theorem In42.s18 (h : In42 V0 ds y c d' A b k d e x252 x254 x260 x261 x263 x249 x264 x265 x266 x37 x38 x39 W) (hA : A ≤ 6) : In42 V0 ds y c d' A b true d e x252 x254 x260 x261 x263 x249 x264 x265 x266 (.pointer (some ⟨W.heap.size, 0, none⟩)) x38 x39 (W.alloc (.cells #[.int .i64 0, .int .i64 0] 23)) := by
  obtain ⟨h1, h2, h3, h4, h5, h6, h7, h8, h9, h10, h11, h12⟩ := h
  refine ⟨h1, h2.alloc _, h3.alloc _, fun hb hA2 => ?_, fun hk => ⟨_, rfl, h2.size, ?_, ne_size h3 (Nat.le_refl _)⟩, h6, h7, h8, h9, h10, h11, h12⟩
  · obtain ⟨g, e1, e2, e3⟩ := h4 hb hA2
    exact ⟨g, e1, alloc_heap e2 _, e3⟩
  · rw [if_neg (by omega)]
    exact heap_alloc_new W _
/-- what only adds blocks -/
theorem In42.more {W' : World} (h : In42 V0 ds y c d' A b k d e x252 x254 x260 x261 x263 x249 x264 x265 x266 x37 x38 x39 W) (hx : Ext W W') : In42 V0 ds y c d' A b k d e x252 x254 x260 x261 x263 x249 x264 x265 x266 x37 x38 x39 W' := by
  obtain ⟨h1, h2, h3, h4, h5, h6, h7, h8, h9, h10, h11, h12⟩ := h
  refine ⟨h1, h2.trans hx, h3.ext hx, fun hb hA2 => ?_, fun hk => ?_, h6, h7, h8, h9, h10, h11, h12⟩
  · obtain ⟨g, e1, e2, e3⟩ := h4 hb hA2
    exact ⟨g, e1, hx.heap e2, e3⟩
  · obtain ⟨q, e1, e2, e3, e4⟩ := h5 hk
    exact ⟨q, e1, e2, hx.heap e3, e4⟩
/-- the next value of the chain behind the second append -/
theorem In42.s13 (h : In42 V0 ds y c d' 3 b k d e x252 x254 x260 x261 x263 x249 x264 x265 x266 x37 x38 x39 W) : In42 V0 ds y c d' 4 b k d e x252 x254 x260 x261 (.tuple #[.agg #[.int .i64 c, .int .i64 d'], .int .i64 0, .int .i64 0]) x249 x264 x265 x266 x37 x38 x39 W := by
  obtain ⟨h1, h2, h3, h4, h5, h6, h7, h8, h9, h10, h11, h12⟩ := h
  exact ⟨by omega, h2, h3, fun _ _ => by omega, fun hk => h5 (hk.imp_right fun x => by omega), fun _ => rfl, by omega, by omega, by omega, by omega, by omega, by omega⟩
theorem In42.s14 (h : In42 V0 ds y c d' 4 b k d e x252 x254 x260 x261 x263 x249 x264 x265 x266 x37 x38 x39 W) : In42 V0 ds y c d' 5 b k false false x252 x254 x260 x261 x263 x263 x264 x265 x266 x37 x38 x39 W := by
  obtain ⟨h1, h2, h3, h4, h5, h6, h7, h8, h9, h10, h11, h12⟩ := h
  exact ⟨by omega, h2, h3, fun _ _ => by omega, fun hk => h5 (hk.imp_right fun x => by omega), fun _ => h6 (by omega), fun _ => h6 (by omega), by omega, fun h => by simp at h, fun h => by simp at h, by omega, by omega⟩
theorem In42.s15 (h : In42 V0 ds y c d' 5 b k d e x252 x254 x260 x261 x263 x249 x264 x265 x266 x37 x38 x39 W) : In42 V0 ds y c d' 6 b k d e x252 x254 x260 x261 x263 x249 (.agg #[.int .i64 c, .int .i64 d']) x265 x266 x37 x38 x39 W := by
  obtain ⟨h1, h2, h3, h4, h5, h6, h7, h8, h9, h10, h11, h12⟩ := h
  exact ⟨by omega, h2, h3, fun _ _ => by omega, fun hk => h5 (hk.imp_right fun x => by omega), fun _ => h6 (by omega), fun _ => h7 (by omega), fun _ => rfl, fun h => h9 (h.imp (fun x => ⟨x.1, by omega⟩) fun x => by omega), fun h => h10 (h.imp (fun x => ⟨x.1, by omega⟩) fun x => by omega), by omega, by omega⟩
theorem In42.s16 (h : In42 V0 ds y c d' A b k d e x252 x254 x260 x261 x263 x249 x264 x265 x266 x37 x38 x39 W) (hA : 5 ≤ A ∧ A ≤ 7) : In42 V0 ds y c d' A b k true e x252 x254 x260 x261 x263 x249 x264 (.int .i64 0) x266 x37 x38 x39 W := by
  obtain ⟨h1, h2, h3, h4, h5, h6, h7, h8, h9, h10, h11, h12⟩ := h
  exact ⟨h1, h2, h3, h4, h5, h6, h7, h8, fun _ => rfl, h10, h11, h12⟩
theorem In42.s17 (h : In42 V0 ds y c d' A b k d e x252 x254 x260 x261 x263 x249 x264 x265 x266 x37 x38 x39 W) (hA : 5 ≤ A ∧ A ≤ 8) : In42 V0 ds y c d' A b k d true x252 x254 x260 x261 x263 x249 x264 x265 (.int .i64 0) x37 x38 x39 W := by
  obtain ⟨h1, h2, h3, h4, h5, h6, h7, h8, h9, h10, h11, h12⟩ := h
  exact ⟨h1, h2, h3, h4, h5, h6, h7, h8, h9, fun _ => rfl, h11, h12⟩
theorem In42.s19 {q : Nat} (h : In42 V0 ds y c d' 6 b k d e x252 x254 x260 x261 x263 x249 x264 x265 x266 (.pointer (some ⟨q, 0, none⟩)) x38 x39 W) (hk : k = true) : In42 V0 ds y c d' 7 b k d e x252 x254 x260 x261 x263 x249 x264 x265 x266 (.pointer (some ⟨q, 0, none⟩)) x38 x39 ((W.setCell ⟨q, 0, none⟩ (.int .i64 c)).setCell ⟨q, 1, none⟩ (.int .i64 d')) := by
  obtain ⟨h1, h2, h3, h4, h5, h6, h7, h8, h9, h10, h11, h12⟩ := h
  obtain ⟨q', e1, e2, e3, e4⟩ := h5 (.inl hk)
  simp only [Value.pointer.injEq, Option.some.injEq, Addr.mk.injEq] at e1
  obtain ⟨rfl, -⟩ := e1
  rw [if_neg (by omega)] at e3
  refine ⟨by omega, (h2.setCell (p := ⟨q, 0, none⟩) e2 _).setCell (p := ⟨q, 1, none⟩) e2 _, ?_, fun _ _ => by omega, fun _ => ⟨q, rfl, e2, ?_, e4⟩, fun _ => h6 (by omega), fun _ => h7 (by omega), fun _ => h8 (by omega), fun h => h9 (h.imp (fun x => ⟨x.1, by omega⟩) fun x => by omega), fun h => h10 (h.imp (fun x => ⟨x.1, by omega⟩) fun x => by omega), by omega, by omega⟩
  · have hgr : W.grownBy ((W.setCell ⟨q, 0, none⟩ (.int .i64 c)).setCell ⟨q, 1, none⟩ (.int .i64 d')) (some q) := ⟨rfl, rfl, rfl, by simp [World.setCell], fun k hk hne => (Below.heap_setCell _ _ _ _ (fun e => hne (congrArg some e))).trans (Below.heap_setCell _ _ _ _ (fun e => hne (congrArg some e)))⟩
    exact h3.kept hgr (.inr e4)
  · rw [if_pos (by omega), heap_setCell_box, heap_setCell_box, e3]
    rfl
theorem In42.s20 (h : In42 V0 ds y c d' 7 b k d e x252 x254 x260 x261 x263 x249 x264 x265 x266 x37 x38 x39 W) (hd : d = true) : x265 = .int .i64 0 ∧ In42 V0 ds y c d' 8 b k d e x252 x254 x260 x261 x263 x249 x264 x265 x266 x37 (.int .i64 0) x39 W := by
  obtain ⟨h1, h2, h3, h4, h5, h6, h7, h8, h9, h10, h11, h12⟩ := h
  have h0 := h9 (.inl ⟨hd, by omega⟩)
  exact ⟨h0, by omega, h2, h3, fun _ _ => by omega, fun hk => h5 (.inr (by omega)), fun _ => h6 (by omega), fun _ => h7 (by omega), fun _ => h8 (by omega), fun _ => h0, fun h => h10 (h.imp (fun x => ⟨x.1, by omega⟩) fun x => by omega), fun _ => rfl, by omega⟩
theorem In42.s21 (h : In42 V0 ds y c d' 8 b k d e x252 x254 x260 x261 x263 x249 x264 x265 x266 x37 x38 x39 W) (he : e = true) : x266 = .int .i64 0 ∧ In42 V0 ds y c d' 9 b k d e x252 x254 x260 x261 x263 x249 x264 x265 x266 x37 x38 (.int .i64 0) W := by
  obtain ⟨h1, h2, h3, h4, h5, h6, h7, h8, h9, h10, h11, h12⟩ := h
  have h0 := h10 (.inl ⟨he, by omega⟩)
  exact ⟨h0, by omega, h2, h3, fun _ _ => by omega, fun hk => h5 (.inr (by omega)), fun _ => h6 (by omega), fun _ => h7 (by omega), fun _ => h8 (by omega), fun _ => h9 (.inr (by omega)), fun _ => h0, fun _ => h11 (by omega), fun _ => rfl⟩
end
end Go.Proofs.Ytcoelhpmkhimpaa

namespace Go.Proofs.Ytcoelhpmkhimpaa
open Go.RowKit
set_option linter.unusedVariables false
set_option linter.unusedSimpArgs false
set_option maxRecDepth 100000 in
set_option maxHeartbeats 16000000 in
theorem wateredEnd {w V : World} {ha da wa la : Option Addr} {hn hc dn dc p16 p20 wn wc ln lc : Nat} {we day A lo TH : Int} {L : Land} {ds : List Draw}
    (hx : Ext w V) (gl : V.heap[w.heap.size + 1 + 1]? = some (.cells #[.slice wa wn wc, .slice la ln lc] 33 (0, 0))) (gt : V.heap[p20]? = some (.cells #[.int .i64 lo, .int .i64 TH] 23 (0, 0)))
    (hL : ∀ W, Ext w W → LandAt W wa wn wc la ln lc L) (hd : DrawsAt w da dn ds) (hdc : dn ≤ dc) (hdm : dc ≤ maxLen) (hd2 : dn < 200) (hA0 : 0 ≤ A) (hA1 : A ≤ 30000000) (hday : 1 ≤ day ∧ day ≤ 100000)
    (hwa : (∃ k : Int, waterAt L we ds day = (⟨0, 0⟩, k, 33)) ∨ ∃ a b, waterAt L we ds day = (⟨a, b⟩, 0, 0) ∧ 0 ≤ a ∧ a ≤ b ∧ b ≤ 1000000000 ∧ ∀ T, 0 ≤ T → T ≤ a → T ≤ 1000000000 → waterAt L we (ds ++ [⟨we, day - 1, T⟩]) day = (⟨a - T, b - T⟩, 0, 0))
    {u0 u2 u3 u8 u9 u11 u12 u13 u14 u17 u18 u19 u21 u24 u25 u26 u27 u28 u29 u30 u31 u32 u33 u34 u35 u36 u37 u38 u39 u40 u41 u42 u43 u44 u45 u46 u47 u48 u49 u50 u51 u52 u53 u54 u55 u56 u57 u58 u59 u60 u61 u62 u63 u64 u65 u66 u67 u68 u69 u70 u71 u72 u73 u74 u75 u76 u77 u78 u79 u80 u81 u82 u83 u84 u85 u86 u87 u88 u89 u90 u91 u92 u93 u94 u95 u96 u97 u98 u99 u100 u101 u102 u103 u104 u105 u106 u107 u108 u109 u110 u111 u112 u113 u114 u115 u116 u117 u118 u119 u120 u121 u122 u123 u124 u125 u126 u127 u128 u129 u130 u131 u132 u133 u134 u135 u136 u137 u138 u139 u140 u141 u142 u143 u144 u145 u146 u147 u148 u149 u150 u151 u152 u153 u154 u155 u156 u157 u158 u159 u160 u161 u162 u163 u164 u165 u166 u167 u168 u169 u170 u171 u172 u173 u174 u175 u176 u177 u178 u179 u180 u181 u182 u183 u184 u185 u186 u187 u188 u189 u190 u191 u192 u193 u194 u195 u196 u197 u198 u199 u200 u201 u202 u203 u204 u205 u206 u207 u208 u209 u210 u211 u212 u213 u214 u215 u216 u217 u218 u219 u220 u221 u222 u223 u224 u225 u226 u227 u228 u229 u230 u231 u232 u233 u234 u235 u236 u237 u238 u239 u240 u241 u242 u243 u244 u245 u246 u247 u248 u249 u250 u251 u252 u253 u254 u255 u256 u257 u258 u259 u260 u261 u262 u263 u264 u265 u266 u267 u268 u269 u270 u271 u272 u273 u274 u275 u276 u277 u278 u279 u280 u281 u282 u283 u284 : Value} : (restFrom Try.f7 35).wp Try.prog (bodyPost Try.prog Try.f7 fun e w' => e = .returned (.bool true) ∧ Ext w w')
      ⟨#[u0, .slice ha hn hc, u2, u3, .int .i64 we, .slice da dn dc, .int .i64 day, .pointer (some ⟨w.heap.size, 0, none⟩), u8, u9, .pointer (some ⟨w.heap.size + 1 + 1, 0, none⟩), u11, u12, u13, u14, .bool true, .pointer (some ⟨p16, 0, none⟩), u17, u18, u19, .pointer (some ⟨p20, 0, none⟩), u21, .int .i64 A, .int .i64 TH, u24, u25, u26, u27, u28, u29, u30, u31, u32, u33, u34, u35, u36, u37, u38, u39, u40, u41, u42, u43, u44, u45, u46, u47, u48, u49, u50, u51, u52, u53, u54, u55, u56, u57, u58, u59, u60, u61, u62, u63, u64, u65, u66, u67, u68, u69, u70, u71, u72, u73, u74, u75, u76, u77, u78, u79, u80, u81, u82, u83, u84, u85, u86, u87, u88, u89, u90, u91, u92, u93, u94, u95, u96, u97, u98, u99, u100, u101, u102, u103, u104, u105, u106, u107, u108, u109, u110, u111, u112, u113, u114, u115, u116, u117, u118, u119, u120, u121, u122, u123, u124, u125, u126, u127, u128, u129, u130, u131, u132, u133, u134, u135, u136, u137, u138, u139, u140, u141, u142, u143, u144, u145, u146, u147, u148, u149, u150, u151, u152, u153, u154, u155, u156, u157, u158, u159, u160, u161, u162, u163, u164, u165, u166, u167, u168, u169, u170, u171, u172, u173, u174, u175, u176, u177, u178, u179, u180, u181, u182, u183, u184, u185, u186, u187, u188, u189, u190, u191, u192, u193, u194, u195, u196, u197, u198, u199, u200, u201, u202, u203, u204, u205, u206, u207, u208, u209, u210, u211, u212, u213, u214, u215, u216, u217, u218, u219, u220, u221, u222, u223, u224, u225, u226, u227, u228, u229, u230, u231, u232, u233, u234, u235, u236, u237, u238, u239, u240, u241, u242, u243, u244, u245, u246, u247, u248, u249, u250, u251, u252, u253, u254, u255, u256, u257, u258, u259, u260, u261, u262, u263, u264, u265, u266, u267, u268, u269, u270, u271, u272, u273, u274, u275, u276, u277, u278, u279, u280, u281, u282, u283, u284], []⟩ V := by
  have hwt := fun W (hW : Ext w W) => water_any wa wn wc la ln lc L we day da dn dc ds W (hL W hW) (hd.ext hW) hdc hdm
  have hdl := hd.1
  have hTB : (TH != TH) = false := by simp
  obtain ⟨hday0, hday1⟩ := hday
  unfold WaterPost waterVal at hwt
  have Hx := Lib.hid hx
  have Gl := Lib.hid gl
  have Gt := Lib.hid gt
  have HL := Lib.hid hL
  have Hd := Lib.hid hd
  have Hwt := Lib.hid hwt
  have Hdl := Lib.hid hdl
  clear hx gl gt hL hd hwt hdl
  conv => arg 2; whnf
  dsimp only
  go_upto_region 35 with fail
  refine wp_region_seq (fun f hf hs => ?_)
  have f0 := fun q => ((hf q).box Gt.out).1
  clear hf hs
  repeat (go_big_quiet_step (fail))
  refine wpQuiet_nil ?_
  intro W1 hW1
  clear f0
  have hx1 := Hx.out.trans hW1
  have gl1 := hW1.heap Gl.out
  have Hx1 := Lib.hid hx1
  have Gl1 := Lib.hid gl1
  clear hx1 gl1
  clear hW1 Gl Gt Hx
  go_upto_region 37 with fail
  rcases hwa with ⟨k, hk⟩ | ⟨a, b, hab, ha0, ha1, hb1, hless⟩
  · rw [hk] at Hwt
    clear hk
    refine wp_region_lit ?_
    refine wpList_split 9 (fun f hf hs => ?_)
    simp only [List.take_succ_cons, List.take_zero, List.drop_succ_cons, List.drop_zero]
    have f0 := fun q => ((hf q).box Gl1.out).1
    have Hf := Lib.hid hf
    have HS := Lib.hid hs
    clear hf hs
    repeat (go_big_quiet_step ((go_at_call 19; exact Calls.ext_of (Hf.out _) HS.out (Hwt.out _ (Hx1.out.trans (Hf.out _))))))
    refine wpQuiet_nil ?_
    intro W2 hW2
    clear f0
    have hx2 := Hx1.out.trans hW2
    have Hx2 := Lib.hid hx2
    clear hx2
    clear hW2
    go_upto_region 38 with fail
    have hx3 := Hx2.out.alloc (.cells #[.int .i64 0, .int .i64 0] 23)
    generalize W2.alloc (.cells #[.int .i64 0, .int .i64 0] 23) = W3 at *
    have Hx3 := Lib.hid hx3
    clear hx3
    go_wp2_with fail
    go_ret
    exact ⟨rfl, Hx3.out⟩
  · rw [hab] at Hwt
    clear hab
    refine wp_region_lit ?_
    refine wpList_split 9 (fun f hf hs => ?_)
    simp only [List.take_succ_cons, List.take_zero, List.drop_succ_cons, List.drop_zero]
    have f0 := fun q => ((hf q).box Gl1.out).1
    have Hf := Lib.hid hf
    have HS := Lib.hid hs
    clear hf hs
    repeat (go_big_quiet_step ((go_at_call 19; exact Calls.ext_of (Hf.out _) HS.out (Hwt.out _ (Hx1.out.trans (Hf.out _))))))
    refine wpQuiet_nil ?_
    intro W2 hW2
    clear f0
    have hx2 := Hx1.out.trans hW2
    have gl2 := hW2.heap Gl1.out
    have Hx2 := Lib.hid hx2
    have Gl2 := Lib.hid gl2
    clear hx2 gl2
    clear hW2 Gl1 Hwt
    go_upto_region 38 with fail
    have hx3 := Hx2.out.alloc (.cells #[.int .i64 a, .int .i64 b] 23)
    have gl3 := alloc_heap Gl2.out (.cells #[.int .i64 a, .int .i64 b] 23)
    have g34 := heap_alloc_new W2 (.cells #[.int .i64 a, .int .i64 b] 23)
    generalize W2.alloc (.cells #[.int .i64 a, .int .i64 b] 23) = W3 at *
    generalize W2.heap.size = p34 at *
    have Hx3 := Lib.hid hx3
    have Gl3 := Lib.hid gl3
    have G34 := Lib.hid g34
    clear hx3 gl3 g34
    clear Hx2 Gl2
    go_upto_region 40 with fail
    have hbig : decide (1000000000 < A) = false := decide_eq_false (by omega)
    by_cases haA : a < A
    · have haB : decide (a < A) = true := decide_eq_true haA
      refine wp_region_seq (fun f hf hs => ?_)
      have f0 := fun q => ((hf q).box G34.out).1
      clear hf hs
      repeat (go_big_quiet_step (fail))
      refine wpQuiet_nil ?_
      intro W4 hW4
      clear f0
      have hx4 := Hx3.out.trans hW4
      have Hx4 := Lib.hid hx4
      clear hx4
      clear hW4
      go_wp2_with fail
      go_ret
      exact ⟨rfl, Hx4.out⟩
    · have haB : decide (a < A) = false := decide_eq_false haA
      refine wp_region_seq (fun f hf hs => ?_)
      have f0 := fun q => ((hf q).box G34.out).1
      clear hf hs
      repeat (go_big_quiet_step (fail))
      refine wpQuiet_nil ?_
      intro W4 hW4
      clear f0
      have hx4 := Hx3.out.trans hW4
      have gl4 := hW4.heap Gl3.out
      have g344 := hW4.heap G34.out
      have hls := hless A hA0 (by omega) (by omega)
      have hwt := fun W (hW : Ext w W) (a2 : Option Addr) (n2 c2 : Nat) (hd2' : DrawsAt W a2 n2 (ds ++ [⟨we, day - 1, A⟩])) (h1 : n2 ≤ c2) (h2 : c2 ≤ maxLen) => water_any wa wn wc la ln lc L we day a2 n2 c2 (ds ++ [⟨we, day - 1, A⟩]) W (HL.out W hW) hd2' h1 h2
      unfold WaterPost waterVal at hwt
      rw [hls] at hwt
      simp only at hwt
      clear hls hless
      have Hx4 := Lib.hid hx4
      have Gl4 := Lib.hid gl4
      have G344 := Lib.hid g344
      have Hwt := Lib.hid hwt
      clear hx4 gl4 g344 hwt
      clear hW4 Hx3 Gl3 G34
      go_upto_region 42 with fail
      have hrl := drawRows_len ds
      rw [Hdl.out] at hrl
      have hr1 : (drawRows []).length + dn ≤ 1000000000 := by simp [drawRows]; omega
      have hr2 : (drawRows ds).length + 1 ≤ 1000000000 := by rw [hrl]; omega
      have hv0 := Hx4.out.drew
      have gl5 := ((Ext.refl W4).drew).heap Gl4.out
      have g345 := ((Ext.refl W4).drew).heap G344.out
      have Hrl := Lib.hid hrl
      have Hr1 := Lib.hid hr1
      have Hr2 := Lib.hid hr2
      have Hv0 := Lib.hid hv0
      have Gl5 := Lib.hid gl5
      have G345 := Lib.hid g345
      clear hrl hr1 hr2 hv0 gl5 g345
      clear Gl4 G344
      refine wp_region_takes [0, 1, 3, 5, 6, 7, 8, 9, 12] [] (Ext W4.drew) _ 13 (by kernel_rfl) (by kernel_rfl) rfl (Ext.refl _) ?_
      intro ι _ f hf
      have f0 := fun q => ((hf q).box Gl5.out).1
      clear hf
      simp only [opsOf, consOp, List.getElem?_toArray, List.getElem?_cons_succ, List.getElem?_cons_zero]
      repeat (go_big_quiet_step (fail))
      refine wpQuiet_nil ?_
      clear f0
      generalize W4.drew = V0 at *
      refine wp_inv_fsm lst42 sts42 cond42 nxt42 fin42 (by kernel_rfl) [252, 254, 260, 261, 263, 249, 264, 265, 266, 37, 38, 39] (I42 V0 ds ⟨we, day - 1, A⟩ (a - A) (b - A)) ?_ (0, false, false, false, false) [u252, u254, u260, u261, u263, u249, u264, u265, u266, u37, u38, u39] (by kernel_rfl) (by kernel_rfl) (by kernel_rfl) ⟨_, _, _, _, _, _, _, _, _, _, _, _, rfl, ⟨by omega, Ext.refl _, Owns.nil _ _ _ _, fun h => by simp at h, fun h => by simp at h, by omega, by omega, by omega, fun h => by simp at h, fun h => by simp at h, by omega, by omega⟩⟩ ?_ ?_
      · rintro ⟨A', b', k', d, e⟩ xs W ⟨x252, x254, x260, x261, x263, x249, x264, x265, x266, x37, x38, x39, rfl, hI⟩
        exact mem_sts42 hI.hA
      · rintro ⟨A', b', k', d, e⟩ i xs W ⟨x252, x254, x260, x261, x263, x249, x264, x265, x266, x37, x38, x39, rfl, hI⟩ hc
        rcases cond42_cases hc with ⟨rfl, rfl⟩ | ⟨rfl, rfl⟩ | ⟨rfl, hA'⟩ | ⟨rfl, rfl, rfl⟩ | ⟨rfl, rfl⟩ | ⟨rfl, rfl⟩ | ⟨rfl, rfl⟩ | ⟨rfl, hA'⟩ | ⟨rfl, hA'⟩ | ⟨rfl, hA'⟩ | ⟨rfl, rfl, rfl⟩ | ⟨rfl, rfl, rfl⟩ | ⟨rfl, rfl, rfl⟩
        · clear hc
          have hs := hI.s2
          have Hs := Lib.hid hs
          clear hs
          clear hI
          refine fsm_step (by simp only [List.getElem?_toArray, List.getElem?_cons_succ, List.getElem?_cons_zero]; rfl) ?_
          simp only [puts, Act.put, List.setIfInBounds_toArray, List.set_cons_succ, List.set_cons_zero]
          go_wp2_with fail
          exact StepPost.mk (fun _ => (Hs.out).ext) [(.slice (some ⟨W.heap.size, 0, none⟩) 0 0), x254, x260, x261, x263, x249, x264, x265, x266, x37, x38, x39] (by kernel_rfl) ⟨_, _, _, _, _, _, _, _, _, _, _, _, rfl, Hs.out⟩
        · clear hc
          have ho : Owns W V0.heap.size 60 3 x252 (drawRows []) := hI.own
          have hsrc := (Hd.out.ext (Hv0.out.trans hI.ext)).src
          have hbs := hI.ext.size
          have Ho := Lib.hid ho
          have Hsrc := Lib.hid hsrc
          have HI := Lib.hid hI
          have Hbs := Lib.hid hbs
          clear ho hsrc hI hbs
          refine fsm_step (by simp only [List.getElem?_toArray, List.getElem?_cons_succ, List.getElem?_cons_zero]; rfl) ?_
          simp only [puts, Act.put, List.setIfInBounds_toArray, List.set_cons_succ, List.set_cons_zero]
          go_wp2_with (at_builtin; refine wpList_app elem61 _ rfl (.tmp 252) (.tmp 253) rfl V0.heap.size x252 (drawRows []) rfl Ho.out da dn dc (drawRows ds) rfl Hrl.out Hsrc.out (drawRows_row ds) Hr1.out Hbs.out ?_; intro v8 w8 ho8 hg8 hor8; have hs := HI.out.s4 (v' := v8) ho8 hg8 hor8; have Hs := Lib.hid hs; clear hs ho8 hg8 hor8)
          exact StepPost.mk (fun _ => Hs.out.ext) [x252, v8, x260, x261, x263, x249, x264, x265, x266, x37, x38, x39] (by kernel_rfl) ⟨_, _, _, _, _, _, _, _, _, _, _, _, rfl, Hs.out⟩
        · clear hc
          have hs := hI.s10 hA'
          have Hs := Lib.hid hs
          clear hs
          clear hI
          refine fsm_step (by simp only [List.getElem?_toArray, List.getElem?_cons_succ, List.getElem?_cons_zero]; rfl) ?_
          simp only [puts, Act.put, List.setIfInBounds_toArray, List.set_cons_succ, List.set_cons_zero]
          go_wp2_with fail
          exact StepPost.mk (fun _ => (Hs.out).ext) [x252, x254, (.slice (some ⟨W.heap.size, 0, none⟩) 1 1), x261, x263, x249, x264, x265, x266, x37, x38, x39] (by kernel_rfl) ⟨_, _, _, _, _, _, _, _, _, _, _, _, rfl, Hs.out⟩
        · clear hc
          have ho : Owns W V0.heap.size 60 3 x254 (drawRows ds) := hI.own
          obtain ⟨g, rfl, hg, -⟩ := hI.new rfl (by omega)
          have hsrc := draw_src W g _ hg
          have hbs := hI.ext.size
          have Ho := Lib.hid ho
          have Hsrc := Lib.hid hsrc
          have HI := Lib.hid hI
          have Hbs := Lib.hid hbs
          clear ho hsrc hI hbs
          clear hg
          refine fsm_step (by simp only [List.getElem?_toArray, List.getElem?_cons_succ, List.getElem?_cons_zero]; rfl) ?_
          simp only [puts, Act.put, List.setIfInBounds_toArray, List.set_cons_succ, List.set_cons_zero]
          go_wp2_with (at_builtin; refine wpList_app elem61 _ rfl (.tmp 254) (.tmp 260) rfl V0.heap.size x254 (drawRows ds) rfl Ho.out (some ⟨g, 0, none⟩) 1 1 (drawRows [⟨we, day - 1, A⟩]) rfl rfl Hsrc.out (drawRows_row _) Hr2.out Hbs.out ?_; intro v8 w8 ho8 hg8 hor8; rw [← drawRows_append] at ho8; have hs := HI.out.s11 (v' := v8) ho8 hg8 hor8; have Hs := Lib.hid hs; clear hs ho8 hg8 hor8)
          exact StepPost.mk (fun _ => Hs.out.ext) [x252, x254, .slice (some ⟨g, 0, none⟩) 1 1, v8, x263, x249, x264, x265, x266, x37, x38, x39] (by kernel_rfl) ⟨_, _, _, _, _, _, _, _, _, _, _, _, rfl, Hs.out⟩
        · clear hc
          obtain ⟨a2, c2, hx261, k1, k2, hdr⟩ := draws_owned hI.own
          generalize (ds ++ [(⟨we, day - 1, A⟩ : Draw)]).length = n2 at *
          subst hx261
          have hcl := Hwt.out W (Hv0.out.trans hI.ext) a2 _ c2 hdr k1 k2
          have HI := Lib.hid hI
          have Hcl := Lib.hid hcl
          clear hI hcl
          clear hdr
          refine fsm_step (by simp only [List.getElem?_toArray, List.getElem?_cons_succ, List.getElem?_cons_zero]; rfl) ?_
          simp only [puts, Act.put, List.setIfInBounds_toArray, List.set_cons_succ, List.set_cons_zero]
          go_wp2_with (go_at_call 19; refine Hcl.out.mono ?_; rintro e w8 ⟨rfl, hx8⟩; have hs := (HI.out.more hx8).s13; have Hs := Lib.hid hs; clear hs hx8)
          exact StepPost.mk (fun _ => Hs.out.ext) [x252, x254, x260, .slice a2 n2 c2, .tuple #[.agg #[.int .i64 (a - A), .int .i64 (b - A)], .int .i64 0, .int .i64 0], x249, x264, x265, x266, x37, x38, x39] (by kernel_rfl) ⟨_, _, _, _, _, _, _, _, _, _, _, _, rfl, Hs.out⟩
        · clear hc
          have hs := hI.s14
          have Hs := Lib.hid hs
          clear hs
          clear hI
          refine fsm_step (by simp only [List.getElem?_toArray, List.getElem?_cons_succ, List.getElem?_cons_zero]; rfl) ?_
          simp only [puts, Act.put, List.setIfInBounds_toArray, List.set_cons_succ, List.set_cons_zero]
          go_wp2_with fail
          exact StepPost.mk (fun _ => (Hs.out).ext) [x252, x254, x260, x261, x263, x263, x264, x265, x266, x37, x38, x39] (by kernel_rfl) ⟨_, _, _, _, _, _, _, _, _, _, _, _, rfl, Hs.out⟩
        · clear hc
          have hs := hI.s15
          obtain rfl := hI.r249 (by omega)
          have Hs := Lib.hid hs
          clear hs
          clear hI
          refine fsm_step (by simp only [List.getElem?_toArray, List.getElem?_cons_succ, List.getElem?_cons_zero]; rfl) ?_
          simp only [puts, Act.put, List.setIfInBounds_toArray, List.set_cons_succ, List.set_cons_zero]
          go_wp2_with fail
          exact StepPost.mk (fun _ => (Hs.out).ext) [x252, x254, x260, x261, x263, (.tuple #[.agg #[.int .i64 (a - A), .int .i64 (b - A)], .int .i64 0, .int .i64 0]), (.agg #[.int .i64 (a - A), .int .i64 (b - A)]), x265, x266, x37, x38, x39] (by kernel_rfl) ⟨_, _, _, _, _, _, _, _, _, _, _, _, rfl, Hs.out⟩
        · clear hc
          have hs := hI.s16 hA'
          obtain rfl := hI.r249 (by omega)
          have Hs := Lib.hid hs
          clear hs
          clear hI
          refine fsm_step (by simp only [List.getElem?_toArray, List.getElem?_cons_succ, List.getElem?_cons_zero]; rfl) ?_
          simp only [puts, Act.put, List.setIfInBounds_toArray, List.set_cons_succ, List.set_cons_zero]
          go_wp2_with fail
          exact StepPost.mk (fun _ => (Hs.out).ext) [x252, x254, x260, x261, x263, (.tuple #[.agg #[.int .i64 (a - A), .int .i64 (b - A)], .int .i64 0, .int .i64 0]), x264, (.int .i64 0), x266, x37, x38, x39] (by kernel_rfl) ⟨_, _, _, _, _, _, _, _, _, _, _, _, rfl, Hs.out⟩
        · clear hc
          have hs := hI.s17 hA'
          obtain rfl := hI.r249 (by omega)
          have Hs := Lib.hid hs
          clear hs
          clear hI
          refine fsm_step (by simp only [List.getElem?_toArray, List.getElem?_cons_succ, List.getElem?_cons_zero]; rfl) ?_
          simp only [puts, Act.put, List.setIfInBounds_toArray, List.set_cons_succ, List.set_cons_zero]
          go_wp2_with fail
          exact StepPost.mk (fun _ => (Hs.out).ext) [x252, x254, x260, x261, x263, (.tuple #[.agg #[.int .i64 (a - A), .int .i64 (b - A)], .int .i64 0, .int .i64 0]), x264, x265, (.int .i64 0), x37, x38, x39] (by kernel_rfl) ⟨_, _, _, _, _, _, _, _, _, _, _, _, rfl, Hs.out⟩
        · clear hc
          have hs := hI.s18 hA'
          have Hs := Lib.hid hs
          clear hs
          clear hI
          refine fsm_step (by simp only [List.getElem?_toArray, List.getElem?_cons_succ, List.getElem?_cons_zero]; rfl) ?_
          simp only [puts, Act.put, List.setIfInBounds_toArray, List.set_cons_succ, List.set_cons_zero]
          go_wp2_with fail
          exact StepPost.mk (fun _ => (Hs.out).ext) [x252, x254, x260, x261, x263, x249, x264, x265, x266, (.pointer (some ⟨W.heap.size, 0, none⟩)), x38, x39] (by kernel_rfl) ⟨_, _, _, _, _, _, _, _, _, _, _, _, rfl, Hs.out⟩
        · clear hc
          obtain rfl := hI.r264 (by omega)
          obtain ⟨q, rfl, -, hq, -⟩ := hI.box (.inl rfl)
          rw [if_neg (by omega)] at hq
          have hql := heap_lt hq
          obtain ⟨y0, y1⟩ := (Ext.refl W).box hq
          have hs := hI.s19 rfl
          have Hs := Lib.hid hs
          clear hs
          clear hI hq
          refine fsm_step (by simp only [List.getElem?_toArray, List.getElem?_cons_succ, List.getElem?_cons_zero]; rfl) ?_
          simp only [puts, Act.put, List.setIfInBounds_toArray, List.set_cons_succ, List.set_cons_zero]
          go_wp2_with fail
          exact StepPost.mk (fun _ => (Hs.out).ext) [x252, x254, x260, x261, x263, x249, (.agg #[.int .i64 (a - A), .int .i64 (b - A)]), x265, x266, (.pointer (some ⟨q, 0, none⟩)), x38, x39] (by kernel_rfl) ⟨_, _, _, _, _, _, _, _, _, _, _, _, rfl, Hs.out⟩
        · clear hc
          obtain ⟨rfl, hs⟩ := hI.s20 rfl
          have Hs := Lib.hid hs
          clear hs
          clear hI
          refine fsm_step (by simp only [List.getElem?_toArray, List.getElem?_cons_succ, List.getElem?_cons_zero]; rfl) ?_
          simp only [puts, Act.put, List.setIfInBounds_toArray, List.set_cons_succ, List.set_cons_zero]
          go_wp2_with fail
          exact StepPost.mk (fun _ => (Hs.out).ext) [x252, x254, x260, x261, x263, x249, x264, (.int .i64 0), x266, x37, (.int .i64 0), x39] (by kernel_rfl) ⟨_, _, _, _, _, _, _, _, _, _, _, _, rfl, Hs.out⟩
        · clear hc
          obtain ⟨rfl, hs⟩ := hI.s21 rfl
          have Hs := Lib.hid hs
          clear hs
          clear hI
          refine fsm_step (by simp only [List.getElem?_toArray, List.getElem?_cons_succ, List.getElem?_cons_zero]; rfl) ?_
          simp only [puts, Act.put, List.setIfInBounds_toArray, List.set_cons_succ, List.set_cons_zero]
          go_wp2_with fail
          exact StepPost.mk (fun _ => (Hs.out).ext) [x252, x254, x260, x261, x263, x249, x264, x265, (.int .i64 0), x37, x38, (.int .i64 0)] (by kernel_rfl) ⟨_, _, _, _, _, _, _, _, _, _, _, _, rfl, Hs.out⟩
      · rintro ⟨A', b', k', d, e⟩ xs W ⟨x252, x254, x260, x261, x263, x249, x264, x265, x266, x37, x38, x39, rfl, hI⟩ hfin
        have hA9 : A' = 9 := by simpa [fin42] using hfin
        subst hA9
        obtain ⟨q0, rfl, -, hq, -⟩ := hI.box (.inr (by omega))
        rw [if_pos (by omega)] at hq
        obtain rfl := hI.r38 (by omega)
        obtain rfl := hI.r39 (by omega)
        have hx5 := Hv0.out.trans hI.ext
        have g346 := hI.ext.heap G345.out
        have Hx5 := Lib.hid hx5
        have Hq := Lib.hid hq
        have G346 := Lib.hid g346
        clear hx5 hq g346
        clear hI hfin
        simp only [puts, Act.put, List.setIfInBounds_toArray, List.set_cons_succ, List.set_cons_zero]
        go_upto_region 43 with fail
        refine wp_region_ext (by kernel_rfl) (by kernel_rfl) (fun f hf hs => ?_)
        have f0 := fun q => ((hf q).box Hq.out).1
        have f1 := fun q => ((hf q).box G346.out).1
        have Hf := Lib.hid hf
        have HS := Lib.hid hs
        clear hf hs
        repeat (go_big_quiet_step ((go_at_call 37; exact Calls.ext_of (Hf.out _) HS.out (rangd_any _ _ _))))
        refine wpQuiet_nil ?_
        intro W6 hW6
        clear f0 f1
        have hx6 := Hx5.out.trans hW6
        have Hx6 := Lib.hid hx6
        clear hx6
        clear hW6
        go_wp2_with fail
        go_ret
        exact ⟨rfl, Hx6.out⟩
end Go.Proofs.Ytcoelhpmkhimpaa

namespace Go.Proofs.Ytcoelhpmkhimpaa
open Go.RowKit
set_option linter.unusedVariables false
set_option linter.unusedSimpArgs false
set_option maxRecDepth 100000 in
set_option maxHeartbeats 16000000 in
theorem wateredMid {w W : World} (bfu bfe br0 br1 bq0 bq1 bt0 bt1 bn0 bn1 bu0 bu1 bm0 bm1 bhz bs0 bs1 e0 e1 : Int) {ha da wa la : Option Addr} {hn hc dn dc p16 wn wc ln lc : Nat} {herd : List Camel} {we day : Int} {ws : List Well} {ls : List Leg} {ds : List Draw}
    (hx : Ext w W) (gb : W.heap[w.heap.size]? = some (.cells #[.int .i64 bfu, .int .i64 bfe, .int .i64 br0, .int .i64 br1, .int .i64 bq0, .int .i64 bq1, .int .i64 bt0, .int .i64 bt1, .int .i64 bn0, .int .i64 bn1, .int .i64 bu0, .int .i64 bu1, .int .i64 bm0, .int .i64 bm1, .int .i64 bhz, .int .i64 bs0, .int .i64 bs1] 25 (0, 0)))
    (gm : W.heap[p16]? = some (.cells #[.int .i64 0, .int .i64 0, .int .i64 e0, .int .i64 e1, .int .i64 0, .int .i64 0, .int .i64 0, .int .i64 0] 29 (0, 0))) (gl : W.heap[w.heap.size + 1 + 1]? = some (.cells #[.slice wa wn wc, .slice la ln lc] 33 (0, 0)))
    (hh : CamelsAt w ha hn herd) (hhc : hn ≤ hc) (hhm : hc ≤ maxLen) (h30 : hn ≤ 30) (hbo : breedOk ⟨bfu, bfe, ⟨br0, br1⟩, ⟨bq0, bq1⟩, ⟨bt0, bt1⟩, ⟨bn0, bn1⟩, ⟨bu0, bu1⟩, ⟨bm0, bm1⟩, bhz, ⟨bs0, bs1⟩⟩ = true) (hdo : dayOk (restDay ⟨e0, e1⟩ 0) = true) (hco : ∀ c ∈ herd, camelOk ⟨bfu, bfe, ⟨br0, br1⟩, ⟨bq0, bq1⟩, ⟨bt0, bt1⟩, ⟨bn0, bn1⟩, ⟨bu0, bu1⟩, ⟨bm0, bm1⟩, bhz, ⟨bs0, bs1⟩⟩ c = true)
    (hL : ∀ W, Ext w W → LandAt W wa wn wc la ln lc ⟨ws, ls⟩) (hd : DrawsAt w da dn ds) (hdc : dn ≤ dc) (hdm : dc ≤ maxLen) (hd2 : dn < 200) (hday : 1 ≤ day ∧ day ≤ 100000) (hsl : landOk ⟨ws, ls⟩ = true) (hwe : 0 ≤ we ∧ we < ws.length) (hdr : drawsOk ws.length 0 ds = true) (hlast : ∀ x, ds[ds.length - 1]? = some x → x.day ≤ day - 1)
    {u0 u2 u3 u8 u9 u11 u12 u13 u14 u17 u18 u19 u20 u21 u22 u23 u24 u25 u26 u27 u28 u29 u30 u31 u32 u33 u34 u35 u36 u37 u38 u39 u40 u41 u42 u43 u44 u45 u46 u47 u48 u49 u50 u51 u52 u53 u54 u55 u56 u57 u58 u59 u60 u61 u62 u63 u64 u65 u66 u67 u68 u69 u70 u71 u72 u73 u74 u75 u76 u77 u78 u79 u80 u81 u82 u83 u84 u85 u86 u87 u88 u89 u90 u91 u92 u93 u94 u95 u96 u97 u98 u99 u100 u101 u102 u103 u104 u105 u106 u107 u108 u109 u110 u111 u112 u113 u114 u115 u116 u117 u118 u119 u120 u121 u122 u123 u124 u125 u126 u127 u128 u129 u130 u131 u132 u133 u134 u135 u136 u137 u138 u139 u140 u141 u142 u143 u144 u145 u146 u147 u148 u149 u150 u151 u152 u153 u154 u155 u156 u157 u158 u159 u160 u161 u162 u163 u164 u165 u166 u167 u168 u169 u170 u171 u172 u173 u174 u175 u176 u177 u178 u179 u180 u181 u182 u183 u184 u185 u186 u187 u188 u189 u190 u191 u192 u193 u194 u195 u196 u197 u198 u199 u200 u201 u202 u203 u204 u205 u206 u207 u208 u209 u210 u211 u212 u213 u214 u215 u216 u217 u218 u219 u220 u221 u222 u223 u224 u225 u226 u227 u228 u229 u230 u231 u232 u233 u234 u235 u236 u237 u238 u239 u240 u241 u242 u243 u244 u245 u246 u247 u248 u249 u250 u251 u252 u253 u254 u255 u256 u257 u258 u259 u260 u261 u262 u263 u264 u265 u266 u267 u268 u269 u270 u271 u272 u273 u274 u275 u276 u277 u278 u279 u280 u281 u282 u283 u284 : Value} :
    (restFrom Try.f7 14).wp Try.prog (bodyPost Try.prog Try.f7 fun e w' => e = .returned (.bool true) ∧ Ext w w')
      ⟨#[u0, .slice ha hn hc, u2, u3, .int .i64 we, .slice da dn dc, .int .i64 day, .pointer (some ⟨w.heap.size, 0, none⟩), u8, u9, .pointer (some ⟨w.heap.size + 1 + 1, 0, none⟩), u11, u12, u13, u14, .bool true, .pointer (some ⟨p16, 0, none⟩), u17, u18, u19, u20, u21, u22, u23, u24, u25, u26, u27, u28, u29, u30, u31, u32, u33, u34, u35, u36, u37, u38, u39, u40, u41, u42, u43, u44, u45, u46, u47, u48, u49, u50, u51, u52, u53, u54, u55, u56, u57, u58, u59, u60, u61, u62, u63, u64, u65, u66, u67, u68, u69, u70, u71, u72, u73, u74, u75, u76, u77, u78, u79, u80, u81, u82, u83, u84, u85, u86, u87, u88, u89, u90, u91, u92, u93, u94, u95, u96, u97, u98, u99, u100, u101, u102, u103, u104, u105, u106, u107, u108, u109, u110, u111, u112, u113, u114, u115, u116, u117, u118, u119, u120, u121, u122, u123, u124, u125, u126, u127, u128, u129, u130, u131, u132, u133, u134, u135, u136, u137, u138, u139, u140, u141, u142, u143, u144, u145, u146, u147, u148, u149, u150, u151, u152, u153, u154, u155, u156, u157, u158, u159, u160, u161, u162, u163, u164, u165, u166, u167, u168, u169, u170, u171, u172, u173, u174, u175, u176, u177, u178, u179, u180, u181, u182, u183, u184, u185, u186, u187, u188, u189, u190, u191, u192, u193, u194, u195, u196, u197, u198, u199, u200, u201, u202, u203, u204, u205, u206, u207, u208, u209, u210, u211, u212, u213, u214, u215, u216, u217, u218, u219, u220, u221, u222, u223, u224, u225, u226, u227, u228, u229, u230, u231, u232, u233, u234, u235, u236, u237, u238, u239, u240, u241, u242, u243, u244, u245, u246, u247, u248, u249, u250, u251, u252, u253, u254, u255, u256, u257, u258, u259, u260, u261, u262, u263, u264, u265, u266, u267, u268, u269, u270, u271, u272, u273, u274, u275, u276, u277, u278, u279, u280, u281, u282, u283, u284], []⟩ W := by
  have hth := fun W (hW : Ext w W) => thirst_any ⟨bfu, bfe, ⟨br0, br1⟩, ⟨bq0, bq1⟩, ⟨bt0, bt1⟩, ⟨bn0, bn1⟩, ⟨bu0, bu1⟩, ⟨bm0, bm1⟩, bhz, ⟨bs0, bs1⟩⟩ ha hn hc herd W (hh.ext hW) hhc hhm
  obtain ⟨tlo, htv⟩ := thirst_herd hbo (by rw [hh.1]; omega) hco
  rw [htv] at hth
  unfold Breed.val thirstRes at hth
  simp only at hth
  have hless := water_less hsl hwe hday (by rw [hd.1]; omega) hdr hlast
  clear htv
  have Hx := Lib.hid hx
  have Gb := Lib.hid gb
  have Gm := Lib.hid gm
  have Gl := Lib.hid gl
  have Hh := Lib.hid hh
  have Hbo := Lib.hid hbo
  have Hdo := Lib.hid hdo
  have Hco := Lib.hid hco
  have HL := Lib.hid hL
  have Hd := Lib.hid hd
  have Hless := Lib.hid hless
  have Hth := Lib.hid hth
  clear hx gb gm gl hh hbo hdo hco hL hd hless hth
  conv => arg 2; whnf
  dsimp only
  go_upto_region 14 with fail
  refine wp_region_lit ?_
  refine wpList_load_row rfl 25 (.tmp 7) rfl w.heap.size rfl 25 _ (0, 0) _ Gb.out Try.underlying25 rfl (by kernel_rfl) ?_
  simp only [Act.put, List.setIfInBounds_toArray, List.set_cons_succ, List.set_cons_zero]
  refine wpList_split 5 (fun f hf hs => ?_)
  simp only [List.take_succ_cons, List.take_zero, List.drop_succ_cons, List.drop_zero]
  have Hf := Lib.hid hf
  have HS := Lib.hid hs
  clear hf hs
  repeat (go_big_quiet_step ((go_at_call 17; exact Calls.ext_of (Hf.out _) HS.out (Hth.out _ (Hx.out.trans (Hf.out _))))))
  refine wpQuiet_nil ?_
  intro W1 hW1
  have hx1 := hW1
  have Hx1 := Lib.hid hx1
  clear hx1
  clear hW1
  go_upto_region 15 with fail
  generalize hTH : tot (wants ⟨bfu, bfe, ⟨br0, br1⟩, ⟨bq0, bq1⟩, ⟨bt0, bt1⟩, ⟨bn0, bn1⟩, ⟨bu0, bu1⟩, ⟨bm0, bm1⟩, bhz, ⟨bs0, bs1⟩⟩) herd = TH at *
  have hx2 := Hx1.out.alloc (.cells #[.int .i64 tlo, .int .i64 TH] 23)
  have gt2 := heap_alloc_new W1 (.cells #[.int .i64 tlo, .int .i64 TH] 23)
  generalize W1.alloc (.cells #[.int .i64 tlo, .int .i64 TH] 23) = W2 at *
  generalize W1.heap.size = p20 at *
  have gb2 := hx2.heap Gb.out
  have gm2 := hx2.heap Gm.out
  have gl2 := hx2.heap Gl.out
  have hxw2 := Hx.out.trans hx2
  have HTH := Lib.hid hTH
  have Gt2 := Lib.hid gt2
  have Gb2 := Lib.hid gb2
  have Gm2 := Lib.hid gm2
  have Gl2 := Lib.hid gl2
  have Hxw2 := Lib.hid hxw2
  clear hTH gt2 gb2 gm2 gl2 hxw2
  clear Gb Gm Gl Hx Hx1 Hth hx2
  go_upto_region 17 with fail
  iterate 10 go_step
  have gt2 := Gt2.out
  rw [← HTH.out] at gt2
  refine wateredLoop bfu bfe br0 br1 bq0 bq1 bt0 bt1 bn0 bn1 bu0 bu1 bm0 bm1 bhz bs0 bs1 e0 e1 Hxw2.out Gb2.out Gm2.out Hh.out h30 Hbo.out Hdo.out Hco.out ?_
  intro V A
  intros
  rename_i hxV hA0 hA1
  exact wateredEnd (Hxw2.out.trans hxV) (hxV.heap Gl2.out) (hxV.heap gt2) HL.out Hd.out hdc hdm hd2 hA0 hA1 hday Hless.out
end Go.Proofs.Ytcoelhpmkhimpaa

namespace Go.Proofs.Ytcoelhpmkhimpaa
open Go.RowKit
set_option linter.unusedVariables false
set_option linter.unusedSimpArgs false
set_option maxRecDepth 100000 in
set_option maxHeartbeats 16000000 in
theorem watered12
    (fu fe r0 r1 q0 q1 t0 t1 n0 n1 u0 u1 m0 m1 hz s0 s1 : Int) (ha : Option Addr) (hn hc : Nat) (herd : List Camel) (e0 e1 : Int) (wa : Option Addr) (wn wc : Nat) (la : Option Addr) (ln lc : Nat) (ws : List Well) (ls : List Leg) (we : Int) (da : Option Addr) (dn dc : Nat) (ds : List Draw) (day : Int) (w : World)
    (hh : CamelsAt w ha hn herd) (hhc : hn ≤ hc) (hhm : hc ≤ maxLen) (hws : WellsAt w wa wn ws) (hwc : wn ≤ wc) (hwm : wc ≤ maxLen) (hls : LegsAt w la ln ls) (hlc : ln ≤ lc) (hlm : lc ≤ maxLen) (hd : DrawsAt w da dn ds) (hdc : dn ≤ dc) (hdm : dc ≤ maxLen)
    (hbk : breedOk ⟨fu, fe, ⟨r0, r1⟩, ⟨q0, q1⟩, ⟨t0, t1⟩, ⟨n0, n1⟩, ⟨u0, u1⟩, ⟨m0, m1⟩, hz, ⟨s0, s1⟩⟩ = true) (hdk : dayOk (restDay ⟨e0, e1⟩ 0) = true) (h30 : ¬30 < (hn : Int)) (hgk : greatB ⟨ws, ls⟩ = false) (hlk : landOk ⟨ws, ls⟩ = true) (hw0 : ¬we < 0) (hw1 : ¬(wn : Int) ≤ we) (hd0 : ¬day < 1) (hd1 : ¬100000 < day) (hdn : ¬200 ≤ (dn : Int)) (hds : drawsOk wn 0 ds = true) :
    Calls Try.prog 7 #[.agg #[.int .i64 fu, .int .i64 fe, .int .i64 r0, .int .i64 r1, .int .i64 q0, .int .i64 q1, .int .i64 t0, .int .i64 t1, .int .i64 n0, .int .i64 n1, .int .i64 u0, .int .i64 u1, .int .i64 m0, .int .i64 m1, .int .i64 hz, .int .i64 s0, .int .i64 s1], .slice ha hn hc, .agg #[.int .i64 e0, .int .i64 e1], .agg #[.slice wa wn wc, .slice la ln lc], .int .i64 we, .slice da dn dc, .int .i64 day] w fun e w' => e = .returned (.bool true) ∧ Ext w w' := by
  have hal := alive03d_any
  have hbr := fun W => rcheckBreed_any ⟨fu, fe, ⟨r0, r1⟩, ⟨q0, q1⟩, ⟨t0, t1⟩, ⟨n0, n1⟩, ⟨u0, u1⟩, ⟨m0, m1⟩, hz, ⟨s0, s1⟩⟩ W
  have hma := fun W => rmarch_any (restDay ⟨e0, e1⟩ 0) W
  unfold Breed.val at hbr
  unfold March.val restDay at hma
  simp only at hbr hma
  have hgr := fun W (hW : Ext w W) => rgreat_any wa wn wc la ln lc ⟨ws, ls⟩ W hws.1 hwc hwm (hls.ext hW) hlc hlm
  have hx0 : Ext w (((w.alloc (.cells #[.int .i64 fu, .int .i64 fe, .int .i64 r0, .int .i64 r1, .int .i64 q0, .int .i64 q1, .int .i64 t0, .int .i64 t1, .int .i64 n0, .int .i64 n1, .int .i64 u0, .int .i64 u1, .int .i64 m0, .int .i64 m1, .int .i64 hz, .int .i64 s0, .int .i64 s1] 25)).alloc (.cells #[.int .i64 e0, .int .i64 e1] 23)).alloc (.cells #[.slice wa wn wc, .slice la ln lc] 33)) := (((Ext.refl w).alloc _).alloc _).alloc _
  have gb0 := alloc_heap (alloc_heap (heap_alloc_new w (.cells #[.int .i64 fu, .int .i64 fe, .int .i64 r0, .int .i64 r1, .int .i64 q0, .int .i64 q1, .int .i64 t0, .int .i64 t1, .int .i64 n0, .int .i64 n1, .int .i64 u0, .int .i64 u1, .int .i64 m0, .int .i64 m1, .int .i64 hz, .int .i64 s0, .int .i64 s1] 25)) (.cells #[.int .i64 e0, .int .i64 e1] 23)) (.cells #[.slice wa wn wc, .slice la ln lc] 33)
  have gh0 := alloc_heap (alloc_at (w.alloc (.cells #[.int .i64 fu, .int .i64 fe, .int .i64 r0, .int .i64 r1, .int .i64 q0, .int .i64 q1, .int .i64 t0, .int .i64 t1, .int .i64 n0, .int .i64 n1, .int .i64 u0, .int .i64 u1, .int .i64 m0, .int .i64 m1, .int .i64 hz, .int .i64 s0, .int .i64 s1] 25)) (.cells #[.int .i64 e0, .int .i64 e1] 23) (w.heap.size + 1) (by simp)) (.cells #[.slice wa wn wc, .slice la ln lc] 33)
  have gl0 := alloc_at ((w.alloc (.cells #[.int .i64 fu, .int .i64 fe, .int .i64 r0, .int .i64 r1, .int .i64 q0, .int .i64 q1, .int .i64 t0, .int .i64 t1, .int .i64 n0, .int .i64 n1, .int .i64 u0, .int .i64 u1, .int .i64 m0, .int .i64 m1, .int .i64 hz, .int .i64 s0, .int .i64 s1] 25)).alloc (.cells #[.int .i64 e0, .int .i64 e1] 23)) (.cells #[.slice wa wn wc, .slice la ln lc] 33) (w.heap.size + 1 + 1) (by simp)
  generalize hW0 : ((w.alloc (.cells #[.int .i64 fu, .int .i64 fe, .int .i64 r0, .int .i64 r1, .int .i64 q0, .int .i64 q1, .int .i64 t0, .int .i64 t1, .int .i64 n0, .int .i64 n1, .int .i64 u0, .int .i64 u1, .int .i64 m0, .int .i64 m1, .int .i64 hz, .int .i64 s0, .int .i64 s1] 25)).alloc (.cells #[.int .i64 e0, .int .i64 e1] 23)).alloc (.cells #[.slice wa wn wc, .slice la ln lc] 33) = W0 at *
  rw [show breedErr ⟨fu, fe, ⟨r0, r1⟩, ⟨q0, q1⟩, ⟨t0, t1⟩, ⟨n0, n1⟩, ⟨u0, u1⟩, ⟨m0, m1⟩, hz, ⟨s0, s1⟩⟩ = 0 by unfold breedErr; rw [hbk]; rfl] at hbr
  rw [show dayOk ⟨0, 0, ⟨e0, e1⟩, ⟨0, 0⟩, ⟨0, 0⟩⟩ = true from hdk] at hma
  have h30B : decide (30 < (hn : Int)) = false := decide_eq_false h30
  rw [hgk] at hgr
  have hsm := great_small hgk
  have hck := fun W (hW : Ext w W) => check3_any wa wn wc la ln lc ⟨ws, ls⟩ W ⟨hws.ext hW, hls.ext hW, hwc, hwm, hlc, hlm, by have := hws.1; simp only at hsm; omega, by have := hls.1; simp only at hsm; omega⟩
  rw [show checkErr3 ⟨ws, ls⟩ = 0 by unfold checkErr3; rw [hlk]; rfl] at hck
  have hw0B : decide (we < 0) = false := decide_eq_false hw0
  have hw1B : decide ((wn : Int) ≤ we) = false := decide_eq_false hw1
  have hd0B : decide (day < 1) = false := decide_eq_false hd0
  have hd1B : decide (100000 < day) = false := decide_eq_false hd1
  have hdnB : decide (200 ≤ (dn : Int)) = false := decide_eq_false hdn
  have hdw := fun W (hW : Ext w W) => draws3_any wa wn wc la ln lc da dn dc ds W ⟨by omega, by have := hws.1; simp only at hsm; omega⟩ (hd.ext hW) (by omega)
  rw [hds] at hdw
  have hL := fun W (hW : Ext w W) => (⟨hws.ext hW, hls.ext hW, hwc, hwm, hlc, hlm, by have := hws.1; simp only at hsm; omega, by have := hls.1; simp only at hsm; omega⟩ : LandAt W wa wn wc la ln lc ⟨ws, ls⟩)
  have hwn : ws.length = wn := hws.1
  have hdl := hd.1
  have hhl := hh.1
  have hcam := fun (c : Camel) W => rcamel_any ⟨fu, fe, ⟨r0, r1⟩, ⟨q0, q1⟩, ⟨t0, t1⟩, ⟨n0, n1⟩, ⟨u0, u1⟩, ⟨m0, m1⟩, hz, ⟨s0, s1⟩⟩ c W
  have hth := fun W (hW : Ext w W) => thirst_any ⟨fu, fe, ⟨r0, r1⟩, ⟨q0, q1⟩, ⟨t0, t1⟩, ⟨n0, n1⟩, ⟨u0, u1⟩, ⟨m0, m1⟩, hz, ⟨s0, s1⟩⟩ ha hn hc herd W (hh.ext hW) hhc hhm
  unfold Breed.val at hcam hth
  simp only at hcam hth
  have hbo := hbk
  have hdo := hdk
  have hsl := hlk
  have hdr := hds
  have Hal := Lib.hid hal
  have Hbr := Lib.hid hbr
  have Hma := Lib.hid hma
  have Hgr := Lib.hid hgr
  have Hx0 := Lib.hid hx0
  have Gb0 := Lib.hid gb0
  have Gh0 := Lib.hid gh0
  have Gl0 := Lib.hid gl0
  have Hck := Lib.hid hck
  have Hdw := Lib.hid hdw
  have HL := Lib.hid hL
  have Hh := Lib.hid hh
  have Hd := Lib.hid hd
  have Hcam := Lib.hid hcam
  have Hth := Lib.hid hth
  have Hbo := Lib.hid hbo
  have Hdo := Lib.hid hdo
  have Hsl := Lib.hid hsl
  have Hdr := Lib.hid hdr
  have Hhl := Lib.hid hhl
  clear hal hbr hma hgr hx0 gb0 gh0 gl0 hck hdw hL hh hd hcam hth hbo hdo hsl hdr hhl
  clear hws hls hbk hdk hgk hlk hds hsm
  go_enter Try.func7, Try.ntmps7
  go_upto_region 2 with (go_at_call 31; refine (Hal.out _).mono ?_; rintro e v1 ⟨rfl, hx1⟩)
  have gh1 := hx1.heap Gh0.out
  obtain ⟨y0, _⟩ := (Ext.refl v1).box gh1
  have hl1 := heap_lt gh1
  have Gh1 := Lib.hid gh1
  clear gh1
  go_upto_region 3 with fail
  have hx2 := hx1.alloc (.cells #[.int .i64 0, .int .i64 0, .int .i64 e0, .int .i64 e1, .int .i64 0, .int .i64 0, .int .i64 0, .int .i64 0] 29)
  have gm2 := heap_alloc_new v1 (.cells #[.int .i64 0, .int .i64 0, .int .i64 e0, .int .i64 e1, .int .i64 0, .int .i64 0, .int .i64 0, .int .i64 0] 29)
  have hp16 : w.heap.size + 1 + 1 < v1.heap.size := heap_lt (hx1.heap Gl0.out)
  generalize v1.alloc (.cells #[.int .i64 0, .int .i64 0, .int .i64 e0, .int .i64 e1, .int .i64 0, .int .i64 0, .int .i64 0, .int .i64 0] 29) = W2 at *
  generalize v1.heap.size = p16 at *
  have gb2 := hx2.heap Gb0.out
  have gl2 := hx2.heap Gl0.out
  have hx02 := Hx0.out.trans hx2
  clear y0 hl1 hx1 hx2 Gb0 Gh0 Gl0 Hx0 Hal Gh1 hW0
  have Gm2 := Lib.hid gm2
  have Gb2 := Lib.hid gb2
  have Gl2 := Lib.hid gl2
  have Hx02 := Lib.hid hx02
  clear gm2 gb2 gl2 hx02
  refine wp_region_lit ?_
  refine wpList_load_row rfl 25 (.tmp 7) rfl w.heap.size rfl 25 _ (0, 0) _ Gb2.out Try.underlying25 rfl (by kernel_rfl) ?_
  simp only [Act.put, List.setIfInBounds_toArray, List.set_cons_succ, List.set_cons_zero]
  refine wpList_seq (fun f hf hs => ?_)
  have f1 := fun q => ((hf q).box Gm2.out).1
  have f2 := fun q => ((hf q).box Gl2.out).1
  have Hf := Lib.hid hf
  have HS := Lib.hid hs
  clear hf hs
  repeat (go_big_quiet_step ((first | (go_at_call 32; exact Calls.ext_of (Hf.out _) HS.out (Hbr.out _)) | (go_at_call 10; exact Calls.ext_of (Hf.out _) HS.out (Hma.out _)) | (go_at_call 11; exact Calls.ext_of (Hf.out _) HS.out (Hgr.out _ (Hx02.out.trans (Hf.out _)))) | (go_at_call 33; exact Calls.ext_of (Hf.out _) HS.out (Hck.out _ (Hx02.out.trans (Hf.out _)))) | (go_at_call 34; exact Calls.ext_of (Hf.out _) HS.out (Hdw.out _ (Hx02.out.trans (Hf.out _)))))))
  refine wpQuiet_nil ?_
  intro W3 hW3
  clear f1 f2
  have gb3 := hW3.heap Gb2.out
  have gm3 := hW3.heap Gm2.out
  have gl3 := hW3.heap Gl2.out
  have hx3 := Hx02.out.trans hW3
  have Gb3 := Lib.hid gb3
  have Gm3 := Lib.hid gm3
  have Gl3 := Lib.hid gl3
  have Hx3 := Lib.hid hx3
  clear gb3 gm3 gl3 hx3
  clear hW3 Gb2 Gm2 Gl2 Hx02 Hbr Hma Hgr Hck Hdw
  go_upto_region 6 with fail
  go_loopw [102] (fun i V => ∃ k : Nat, i = .int .i64 k ∧ k ≤ hn ∧ Ext W3 V ∧ ∀ (j : Nat) (c : Camel), j < k → herd[j]? = some c → camelOk ⟨fu, fe, ⟨r0, r1⟩, ⟨q0, q1⟩, ⟨t0, t1⟩, ⟨n0, n1⟩, ⟨u0, u1⟩, ⟨m0, m1⟩, hz, ⟨s0, s1⟩⟩ c = true) (fun i _ => hn - (intOf i).toNat)
  case atStart => exact ⟨0, rfl, Nat.zero_le _, Ext.refl _, fun j c h => by omega⟩
  case round =>
    obtain ⟨k, rfl, hk, hxv, hall⟩ := hrel
    by_cases hlt : k < hn
    · have hltB : decide ((k : Int) < (hn : Int)) = true := by simp; omega
      obtain ⟨hb', off, c, rfl, hck, -, c0, c1, c2, c3, c4, c5, c6⟩ := (Hh.out.ext (Hx3.out.trans hxv)).get k hlt
      obtain ⟨K, hK⟩ : ∃ K, camelOk ⟨fu, fe, ⟨r0, r1⟩, ⟨q0, q1⟩, ⟨t0, t1⟩, ⟨n0, n1⟩, ⟨u0, u1⟩, ⟨m0, m1⟩, hz, ⟨s0, s1⟩⟩ c = K := ⟨_, rfl⟩
      have hcm := fun V => Hcam.out c V
      rw [hK] at hcm
      have hnext : K = true → ∀ (j : Nat) (c : Camel), j < k + 1 → herd[j]? = some c → camelOk ⟨fu, fe, ⟨r0, r1⟩, ⟨q0, q1⟩, ⟨t0, t1⟩, ⟨n0, n1⟩, ⟨u0, u1⟩, ⟨m0, m1⟩, hz, ⟨s0, s1⟩⟩ c = true := fun hKt j c' hj hc' => by
        rcases Nat.lt_or_ge j k with h | h
        · exact hall j c' h hc'
        · obtain rfl : j = k := by omega
          rw [hck] at hc'
          cases hc'
          rw [hK, hKt]
      obtain ⟨⟨w0, w1⟩, ⟨f0, f1⟩, ⟨o0, o1⟩, mk⟩ := c
      unfold Camel.val at hcm
      simp only at c0 c1 c2 c3 c4 c5 c6 hcm
      clear hK hck hall
      have Hxv := Lib.hid hxv
      have Hcm := Lib.hid hcm
      have Hnext := Lib.hid hnext
      clear hxv hcm hnext
      go_upto_region 8 with fail
      have hx8 := Hxv.out.alloc (.cells #[.int .i64 w0, .int .i64 w1, .int .i64 f0, .int .i64 f1, .int .i64 o0, .int .i64 o1, .bool mk] 27)
      have b18 := heap_alloc_new wr (.cells #[.int .i64 w0, .int .i64 w1, .int .i64 f0, .int .i64 f1, .int .i64 o0, .int .i64 o1, .bool mk] 27)
      generalize wr.alloc (.cells #[.int .i64 w0, .int .i64 w1, .int .i64 f0, .int .i64 f1, .int .i64 o0, .int .i64 o1, .bool mk] 27) = W8 at *
      generalize wr.heap.size = p18 at *
      have gb8 := hx8.heap Gb3.out
      clear c0 c1 c2 c3 c4 c5 c6
      have Hx8 := Lib.hid hx8
      have B18 := Lib.hid b18
      have Gb8 := Lib.hid gb8
      clear hx8 b18 gb8
      clear Hxv
      refine wp_region_lit ?_
      refine wpList_load_row rfl 25 (.tmp 7) rfl w.heap.size rfl 25 _ (0, 0) _ Gb8.out Try.underlying25 rfl (by kernel_rfl) ?_
      refine wpList_load_row rfl 27 (.tmp 18) rfl p18 rfl 27 _ (0, 0) _ B18.out Try.underlying27 rfl (by kernel_rfl) ?_
      simp only [Act.put, List.setIfInBounds_toArray, List.set_cons_succ, List.set_cons_zero]
      refine wpList_seq (fun f hf hs => ?_)
      have Hf := Lib.hid hf
      have HS := Lib.hid hs
      clear hf hs
      repeat (go_big_quiet_step ((go_at_call 35; exact Calls.ext_of (Hf.out _) HS.out (Hcm.out _))))
      refine wpQuiet_nil ?_
      intro W9 hW9
      have hx9 := Hx8.out.trans hW9
      have hy9 := Hx3.out.trans hx9
      have Hx9 := Lib.hid hx9
      have Hy9 := Lib.hid hy9
      clear hx9 hy9
      clear hW9 Hx8
      cases K with
      | false =>
        go_wp2_with fail
        go_ret
        exact ⟨rfl, Hy9.out⟩
      | true =>
        have hn2 := Hnext.out rfl
        have Hn2 := Lib.hid hn2
        clear hn2
        clear Hnext
        go_wp2_with fail
        go_roundw
        case rel => exact ⟨k + 1, by go_num, by omega, Hx9.out, Hn2.out⟩
        case measure => simp [intOf]; omega
    · have hltB : decide ((k : Int) < (hn : Int)) = false := by simp; omega
      have hco : ∀ c ∈ herd, camelOk ⟨fu, fe, ⟨r0, r1⟩, ⟨q0, q1⟩, ⟨t0, t1⟩, ⟨n0, n1⟩, ⟨u0, u1⟩, ⟨m0, m1⟩, hz, ⟨s0, s1⟩⟩ c = true := fun c hc => by
        obtain ⟨j, hj, rfl⟩ := List.mem_iff_getElem.1 hc
        exact hall j _ (by rw [Hhl.out] at hj; omega) (List.getElem?_eq_getElem hj)
      have hgb := hxv.heap Gb3.out
      have hgm := hxv.heap Gm3.out
      have hgl := hxv.heap Gl3.out
      have hxw := Hx3.out.trans hxv
      obtain ⟨tlo, htv⟩ := thirst_herd Hbo.out (by rw [Hhl.out]; omega) hco
      rw [htv] at Hth
      unfold thirstRes at Hth
      simp only at Hth
      clear hxv hall htv Hcam
      have Hgb := Lib.hid hgb
      have Hgm := Lib.hid hgm
      have Hgl := Lib.hid hgl
      have Hxw := Lib.hid hxw
      have Hco := Lib.hid hco
      clear hgb hgm hgl hxw hco
      clear Gb3 Gm3 Gl3 Hx3
      go_upto_region 12 with fail
      have hwn' : ws.length = wn := hwn
      have Hwn' := Lib.hid hwn'
      clear hwn'
      rcases Nat.eq_zero_or_pos dn with hdn0 | hdn0
      · have hdB : decide (0 < (dn : Int)) = false := by simp; omega
        have hdB2 : decide (0 < dn) = false := by simp; omega
        refine wp_region_seq (fun f hf hs => ?_)
        clear hf hs
        repeat (go_big_quiet_step (fail))
        refine wpQuiet_nil ?_
        intro W12 hW12
        have hgb2 := hW12.heap Hgb.out
        have hgm2 := hW12.heap Hgm.out
        have hgl2 := hW12.heap Hgl.out
        have hxw2 := Hxw.out.trans hW12
        iterate 6 go_step
        exact wateredMid fu fe r0 r1 q0 q1 t0 t1 n0 n1 u0 u1 m0 m1 hz s0 s1 e0 e1 hxw2 hgb2 hgm2 hgl2 Hh.out hhc hhm (by omega) Hbo.out Hdo.out Hco.out HL.out Hd.out hdc hdm (by omega) ⟨by omega, by omega⟩ Hsl.out ⟨by omega, by omega⟩ (by rw [Hwn'.out]; exact Hdr.out) (by
          (intro x hx'; have := (List.getElem?_eq_some_iff.1 hx').1; omega))
      · obtain ⟨j, hj⟩ : ∃ j, dn = j + 1 := ⟨dn - 1, by omega⟩
        have hdB : decide (0 < (dn : Int)) = true := by simp; omega
        have hdB2 : decide (0 < dn) = true := by simp; omega
        have hkj : (dn : Int) - 1 = (j : Int) := by omega
        have hjB : decide ((j : Int) < (dn : Int)) = true := by simp; omega
        have hjB2 : decide (j < dn) = true := by simp; omega
        obtain ⟨db, doff, ⟨xw, xd, xq⟩, rfl, hxj, -, d0, d1, d2⟩ := (Hd.out.ext Hxw.out).get j (by omega)
        simp only at d0 d1 d2
        have hj2 : ds.length - 1 = j := by omega
        clear d0 d2
        have Hj := Lib.hid hj
        have Hj2 := Lib.hid hj2
        have Hxj := Lib.hid hxj
        have D1 := Lib.hid d1
        clear hj hj2 hxj d1
        by_cases hxd : day ≤ xd
        · have hxB : decide (day ≤ xd) = true := decide_eq_true hxd
          refine wp_region_seq (fun f hf hs => ?_)
          have f0 := fun q => (hf q).cell D1.out
          clear hf hs
          repeat (go_big_quiet_step (fail))
          refine wpQuiet_nil ?_
          intro W12 hW12
          clear f0
          have hx12 := Hxw.out.trans hW12
          have Hx12 := Lib.hid hx12
          clear hx12
          clear hW12
          go_wp2_with fail
          go_ret
          exact ⟨rfl, Hx12.out⟩
        · have hxB : decide (day ≤ xd) = false := decide_eq_false hxd
          refine wp_region_seq (fun f hf hs => ?_)
          have f0 := fun q => (hf q).cell D1.out
          clear hf hs
          repeat (go_big_quiet_step (fail))
          refine wpQuiet_nil ?_
          intro W12 hW12
          clear f0
          have hgb2 := hW12.heap Hgb.out
          have hgm2 := hW12.heap Hgm.out
          have hgl2 := hW12.heap Hgl.out
          have hxw2 := Hxw.out.trans hW12
          iterate 6 go_step
          exact wateredMid fu fe r0 r1 q0 q1 t0 t1 n0 n1 u0 u1 m0 m1 hz s0 s1 e0 e1 hxw2 hgb2 hgm2 hgl2 Hh.out hhc hhm (by omega) Hbo.out Hdo.out Hco.out HL.out Hd.out hdc hdm (by omega) ⟨by omega, by omega⟩ Hsl.out ⟨by omega, by omega⟩ (by rw [Hwn'.out]; exact Hdr.out) (by
            (intro x hx'; rw [Hj2.out, Hxj.out] at hx'; cases hx'; simp only; omega))
theorem watered_law
    (fu fe r0 r1 q0 q1 t0 t1 n0 n1 u0 u1 m0 m1 hz s0 s1 : Int) (ha : Option Addr) (hn hc : Nat) (herd : List Camel) (e0 e1 : Int) (wa : Option Addr) (wn wc : Nat) (la : Option Addr) (ln lc : Nat) (ws : List Well) (ls : List Leg) (we : Int) (da : Option Addr) (dn dc : Nat) (ds : List Draw) (day : Int) (w : World)
    (hh : CamelsAt w ha hn herd) (hhc : hn ≤ hc) (hhm : hc ≤ maxLen) (hws : WellsAt w wa wn ws) (hwc : wn ≤ wc) (hwm : wc ≤ maxLen) (hls : LegsAt w la ln ls) (hlc : ln ≤ lc) (hlm : lc ≤ maxLen) (hd : DrawsAt w da dn ds) (hdc : dn ≤ dc) (hdm : dc ≤ maxLen)
    :
    Calls Try.prog 7 #[.agg #[.int .i64 fu, .int .i64 fe, .int .i64 r0, .int .i64 r1, .int .i64 q0, .int .i64 q1, .int .i64 t0, .int .i64 t1, .int .i64 n0, .int .i64 n1, .int .i64 u0, .int .i64 u1, .int .i64 m0, .int .i64 m1, .int .i64 hz, .int .i64 s0, .int .i64 s1], .slice ha hn hc, .agg #[.int .i64 e0, .int .i64 e1], .agg #[.slice wa wn wc, .slice la ln lc], .int .i64 we, .slice da dn dc, .int .i64 day] w fun e w' => e = .returned (.bool true) ∧ Ext w w' := by
  cases hbk : breedOk ⟨fu, fe, ⟨r0, r1⟩, ⟨q0, q1⟩, ⟨t0, t1⟩, ⟨n0, n1⟩, ⟨u0, u1⟩, ⟨m0, m1⟩, hz, ⟨s0, s1⟩⟩ with
  | false => exact watered1 fu fe r0 r1 q0 q1 t0 t1 n0 n1 u0 u1 m0 m1 hz s0 s1 ha hn hc herd e0 e1 wa wn wc la ln lc ws ls we da dn dc ds day w hh hhc hhm hws hwc hwm hls hlc hlm hd hdc hdm hbk
  | true =>
    cases hdk : dayOk (restDay ⟨e0, e1⟩ 0) with
    | false => exact watered2 fu fe r0 r1 q0 q1 t0 t1 n0 n1 u0 u1 m0 m1 hz s0 s1 ha hn hc herd e0 e1 wa wn wc la ln lc ws ls we da dn dc ds day w hh hhc hhm hws hwc hwm hls hlc hlm hd hdc hdm hbk hdk
    | true =>
      by_cases h30 : 30 < (hn : Int)
      · exact watered3 fu fe r0 r1 q0 q1 t0 t1 n0 n1 u0 u1 m0 m1 hz s0 s1 ha hn hc herd e0 e1 wa wn wc la ln lc ws ls we da dn dc ds day w hh hhc hhm hws hwc hwm hls hlc hlm hd hdc hdm hbk hdk h30
      · skip
        cases hgk : greatB ⟨ws, ls⟩ with
        | true => exact watered4 fu fe r0 r1 q0 q1 t0 t1 n0 n1 u0 u1 m0 m1 hz s0 s1 ha hn hc herd e0 e1 wa wn wc la ln lc ws ls we da dn dc ds day w hh hhc hhm hws hwc hwm hls hlc hlm hd hdc hdm hbk hdk h30 hgk
        | false =>
          cases hlk : landOk ⟨ws, ls⟩ with
          | false => exact watered5 fu fe r0 r1 q0 q1 t0 t1 n0 n1 u0 u1 m0 m1 hz s0 s1 ha hn hc herd e0 e1 wa wn wc la ln lc ws ls we da dn dc ds day w hh hhc hhm hws hwc hwm hls hlc hlm hd hdc hdm hbk hdk h30 hgk hlk
          | true =>
            by_cases hw0 : we < 0
            · exact watered6 fu fe r0 r1 q0 q1 t0 t1 n0 n1 u0 u1 m0 m1 hz s0 s1 ha hn hc herd e0 e1 wa wn wc la ln lc ws ls we da dn dc ds day w hh hhc hhm hws hwc hwm hls hlc hlm hd hdc hdm hbk hdk h30 hgk hlk hw0
            · skip
              by_cases hw1 : (wn : Int) ≤ we
              · exact watered7 fu fe r0 r1 q0 q1 t0 t1 n0 n1 u0 u1 m0 m1 hz s0 s1 ha hn hc herd e0 e1 wa wn wc la ln lc ws ls we da dn dc ds day w hh hhc hhm hws hwc hwm hls hlc hlm hd hdc hdm hbk hdk h30 hgk hlk hw0 hw1
              · skip
                by_cases hd0 : day < 1
                · exact watered8 fu fe r0 r1 q0 q1 t0 t1 n0 n1 u0 u1 m0 m1 hz s0 s1 ha hn hc herd e0 e1 wa wn wc la ln lc ws ls we da dn dc ds day w hh hhc hhm hws hwc hwm hls hlc hlm hd hdc hdm hbk hdk h30 hgk hlk hw0 hw1 hd0
                · skip
                  by_cases hd1 : 100000 < day
                  · exact watered9 fu fe r0 r1 q0 q1 t0 t1 n0 n1 u0 u1 m0 m1 hz s0 s1 ha hn hc herd e0 e1 wa wn wc la ln lc ws ls we da dn dc ds day w hh hhc hhm hws hwc hwm hls hlc hlm hd hdc hdm hbk hdk h30 hgk hlk hw0 hw1 hd0 hd1
                  · skip
                    by_cases hdn : 200 ≤ (dn : Int)
                    · exact watered10 fu fe r0 r1 q0 q1 t0 t1 n0 n1 u0 u1 m0 m1 hz s0 s1 ha hn hc herd e0 e1 wa wn wc la ln lc ws ls we da dn dc ds day w hh hhc hhm hws hwc hwm hls hlc hlm hd hdc hdm hbk hdk h30 hgk hlk hw0 hw1 hd0 hd1 hdn
                    · skip
                      cases hds : drawsOk wn 0 ds with
                      | false => exact watered11 fu fe r0 r1 q0 q1 t0 t1 n0 n1 u0 u1 m0 m1 hz s0 s1 ha hn hc herd e0 e1 wa wn wc la ln lc ws ls we da dn dc ds day w hh hhc hhm hws hwc hwm hls hlc hlm hd hdc hdm hbk hdk h30 hgk hlk hw0 hw1 hd0 hd1 hdn hds
                      | true =>
                        exact watered12 fu fe r0 r1 q0 q1 t0 t1 n0 n1 u0 u1 m0 m1 hz s0 s1 ha hn hc herd e0 e1 wa wn wc la ln lc ws ls we da dn dc ds day w hh hhc hhm hws hwc hwm hls hlc hlm hd hdc hdm hbk hdk h30 hgk hlk hw0 hw1 hd0 hd1 hdn hds
theorem topWatered_any (s : Breed) (ha : Option Addr) (hn hc : Nat) (herd : List Camel) (e : Span) (wa : Option Addr) (wn wc : Nat) (la : Option Addr) (ln lc : Nat) (ws : List Well) (ls : List Leg) (we : Int) (da : Option Addr) (dn dc : Nat) (ds : List Draw) (day : Int) (w : World) (hh : CamelsAt w ha hn herd) (hhc : hn ≤ hc) (hhm : hc ≤ maxLen) (hws : WellsAt w wa wn ws) (hwc : wn ≤ wc) (hwm : wc ≤ maxLen) (hls : LegsAt w la ln ls) (hlc : ln ≤ lc) (hlm : lc ≤ maxLen) (hlb : ∀ x, la = some x → x.block < w.heap.size) (hd : DrawsAt w da dn ds) (hdc : dn ≤ dc) (hdm : dc ≤ maxLen) :
    Calls Try.prog 7 #[.agg s.cells.toArray, .slice ha hn hc, .agg e.cells.toArray, .agg #[.slice wa wn wc, .slice la ln lc], .int .i64 we, .slice da dn dc, .int .i64 day] w fun e w' => e = .returned (.bool true) ∧ Ext w w' := by
  obtain ⟨fu, fe, ⟨r0, r1⟩, ⟨q0, q1⟩, ⟨t0, t1⟩, ⟨n0, n1⟩, ⟨u0, u1⟩, ⟨m0, m1⟩, hz, ⟨s0, s1⟩⟩ := s
  obtain ⟨e0, e1⟩ := e
  exact watered_law fu fe r0 r1 q0 q1 t0 t1 n0 n1 u0 u1 m0 m1 hz s0 s1 ha hn hc herd e0 e1 wa wn wc la ln lc ws ls we da dn dc ds day w hh hhc hhm hws hwc hwm hls hlc hlm hd hdc hdm
end Go.Proofs.Ytcoelhpmkhimpaa

namespace Go.Proofs.Ytcoelhpmkhimpaa.topWateredDone
open Go.ChangeShapes Go.WideShapes Go.ChangeAt Go.RowKit
open Go.ChangeMaps (open_string shut_string)
set_option linter.unusedVariables false

theorem own : ownKnob Try.prog.godebug = none := by kernel_rfl
theorem laidOut : laidOutB Try.prog = true := by kernel_rfl

set_option maxRecDepth 100000 in
theorem lifted (os : Os) (started : os.Started) (H : Type) (enc : TypeId × Value → H) :
    ReturnsInHanded {} Try.checked os 7 .any (Rows.topWateredSpec.pre6 enc Try.prog Try.f7 Rows.topWateredRow.domain false) (Rows.topWateredSpec.post enc Try.prog Try.f7 false true false false) := by
  refine returnsInHanded_of_change (C := Try.checked) own started (by kernel_rfl) Try.func7
    (ChangeSpec.witness6 (enc := enc) (C := Try.checked) false ⟨#[], #[.agg #[.int .i64 0, .int .i64 0, .int .i64 0, .int .i64 0, .int .i64 0, .int .i64 0, .int .i64 0, .int .i64 0, .int .i64 0, .int .i64 0, .int .i64 0, .int .i64 0, .int .i64 0, .int .i64 0, .int .i64 0, .int .i64 0, .int .i64 0], .slice none 0 0, .agg #[.int .i64 0, .int .i64 0], .agg #[.slice none 0 0, .slice none 0 0], .int .i64 0, .slice none 0 0, .int .i64 0], []⟩ 8 (by kernel_rfl) (by kernel_rfl) (by kernel_rfl) (by kernel_rfl)) ?_
  intro W base args ds gs before hval0 hW hcnd _
  have hval : ∀ (j : Nat) t v, Try.f7.params[j]? = some t → args[j]? = some v → Value.okWide Try.prog W .any base t v := hval0
  have hW' := hW
  obtain ⟨p, q, hA0, hV, rfl, hfz, hnd⟩ := hW
  have hA : DataW.TrodAll enc Try.prog W 0 (fun _ => true) true Try.f7.params.toList args.toList ds p := hA0
  rw [Try.params7] at hA hval
  obtain ⟨v0, vs0, d0, ds0, p0, q0, hargs, rfl, rfl, h0, r0⟩ := trodAll_cons hA
  obtain ⟨v1, vs1, d1, ds1, p1, q1, rfl, rfl, rfl, h1, r1⟩ := trodAll_cons r0
  obtain ⟨v2, vs2, d2, ds2, p2, q2, rfl, rfl, rfl, h2, r2⟩ := trodAll_cons r1
  obtain ⟨v3, vs3, d3, ds3, p3, q3, rfl, rfl, rfl, h3, r3⟩ := trodAll_cons r2
  obtain ⟨v4, vs4, d4, ds4, p4, q4, rfl, rfl, rfl, h4, r4⟩ := trodAll_cons r3
  obtain ⟨v5, vs5, d5, ds5, p5, q5, rfl, rfl, rfl, h5, r5⟩ := trodAll_cons r4
  obtain ⟨v6, vs6, d6, ds6, p6, q6, rfl, rfl, rfl, h6, r6⟩ := trodAll_cons r5
  obtain ⟨rfl, rfl, rfl⟩ := trodAll_nil r6
  obtain rfl : args = #[v0, v1, v2, v3, v4, v5, v6] := by cases args; simp_all
  obtain ⟨rfl, rfl⟩ := trodVars_none hV
  obtain ⟨cs0, rfl, hz0⟩ := okWide_struct Try.underlying25 (hval 0 25 v0 rfl rfl)
  have k0 := h0
  have lt0 : ∀ x ∈ p0, x.block < W.heap.size := by obtain ⟨m, hm⟩ := k0; exact DataW.trod_lt m _ _ _ hm
  obtain ⟨s0, e0⟩ : ∃ s : Breed, s.cells = cs0.toList := by
    obtain ⟨fuel, hf⟩ := h0
    exact take_breed (hz0.trans (by kernel_rfl)) hf
  obtain rfl : cs0 = s0.cells.toArray := by rw [e0]
  obtain ⟨a1, len1, cap1, rfl⟩ := okWide_slice Try.underlying49 (hval 1 49 v1 rfl rfl)
  have k1 := h1
  have lt1 : ∀ x ∈ p1, x.block < W.heap.size := by obtain ⟨m, hm⟩ := k1; exact DataW.trod_lt m _ _ _ hm
  obtain ⟨lc1, cm1, l1, w1⟩ : len1 ≤ cap1 ∧ cap1 ≤ maxLen ∧ ∃ l, CamelsAt W a1 len1 l := by
    obtain ⟨fuel, hf⟩ := h1
    exact take_camels hf
  obtain ⟨cs2, rfl, hz2⟩ := okWide_struct Try.underlying23 (hval 2 23 v2 rfl rfl)
  have k2 := h2
  have lt2 : ∀ x ∈ p2, x.block < W.heap.size := by obtain ⟨m, hm⟩ := k2; exact DataW.trod_lt m _ _ _ hm
  obtain ⟨s2, e2⟩ : ∃ s : Span, s.cells = cs2.toList := by
    obtain ⟨fuel, hf⟩ := h2
    exact take_span (hz2.trans (by kernel_rfl)) hf
  obtain rfl : cs2 = s2.cells.toArray := by rw [e2]
  obtain ⟨cs3, rfl, hz3⟩ := okWide_struct Try.underlying33 (hval 3 33 v3 rfl rfl)
  have k3 := h3
  have lt3 : ∀ x ∈ p3, x.block < W.heap.size := by obtain ⟨m, hm⟩ := k3; exact DataW.trod_lt m _ _ _ hm
  obtain ⟨wa3, wn3, wc3, la3, ln3, lc3, ws3, ls3, rfl, y13, y23, y33, y43, y53, y63⟩ : ∃ a n c a' n' c' ws ls, cs3 = #[.slice a n c, .slice a' n' c'] ∧ n ≤ c ∧ c ≤ maxLen ∧ WellsAt W a n ws ∧ n' ≤ c' ∧ c' ≤ maxLen ∧ LegsAt W a' n' ls := by
    obtain ⟨fuel, hf⟩ := h3
    exact take_land (hz3.trans (by kernel_rfl)) hf
  have y73 := land_lt (hval 3 33 _ rfl rfl)
  obtain ⟨a4, rfl, rfl, rfl, w4⟩ := open_int Try.underlying3 (hval 4 3 v4 rfl rfl) h4
  obtain ⟨a5, len5, cap5, rfl⟩ := okWide_slice Try.underlying61 (hval 5 61 v5 rfl rfl)
  have k5 := h5
  have lt5 : ∀ x ∈ p5, x.block < W.heap.size := by obtain ⟨m, hm⟩ := k5; exact DataW.trod_lt m _ _ _ hm
  obtain ⟨lc5, cm5, l5, w5⟩ : len5 ≤ cap5 ∧ cap5 ≤ maxLen ∧ ∃ l, DrawsAt W a5 len5 l := by
    obtain ⟨fuel, hf⟩ := h5
    exact take_draws hf
  obtain ⟨a6, rfl, rfl, rfl, w6⟩ := open_int Try.underlying3 (hval 6 3 v6 rfl rfl) h6
  clear hA0 hval0
  refine (topWatered_any s0 a1 len1 cap1 l1 s2 wa3 wn3 wc3 la3 ln3 lc3 ws3 ls3 a4 a5 len5 cap5 l5 a6 W w1 lc1 cm1 y33 y13 y23 y63 y43 y53 y73 w5 lc5 cm5).mono fun e W' ⟨he, bel⟩ => ?_
  subst he
  exact ⟨_, rfl, _, _, _, [], _, [], hW', trodAll_mk1 (shut_bool Try.underlying4 _), (trodAll_cons_mk (Below.trod laidOut (by kernel_rfl) (of_decide_eq_true (by kernel_rfl)) k0 bel lt0) (trodAll_cons_mk (Below.trod laidOut (by kernel_rfl) (of_decide_eq_true (by kernel_rfl)) k1 bel lt1) (trodAll_cons_mk (Below.trod laidOut (by kernel_rfl) (of_decide_eq_true (by kernel_rfl)) k2 bel lt2) (trodAll_cons_mk (Below.trod laidOut (by kernel_rfl) (of_decide_eq_true (by kernel_rfl)) k3 bel lt3) (trodAll_cons_mk (shut_int Try.underlying3 w4) (trodAll_cons_mk (Below.trod laidOut (by kernel_rfl) (of_decide_eq_true (by kernel_rfl)) k5 bel lt5) (trodAll_cons_mk (shut_int Try.underlying3 w6) trodAll_mk0))))))), rfl, bel.frame _, fun h => by cases h⟩

theorem over : Rows.topWateredRow.holds Try.pinned (OpenSpec.ofChange Rows.topWateredSpec) :=
  OpenClaim.holds_of_wide 7 Try.f7 rfl rfl rfl rfl rfl rfl rfl ⟨rfl, rfl, rfl, rfl, rfl⟩ rfl rfl rfl rfl rfl (by kernel_rfl) Try.func7 (by kernel_rfl)
    (of_decide_eq_true (by kernel_rfl)) (by unfold Func.isWrapper; first | (rw [if_pos (by decide +kernel)]; kernel_rfl) | (rw [if_neg (by decide +kernel)]; exact ⟨rfl, rfl⟩))
    (fun os started H enc _ => lifted os started H enc)

theorem proved : Rows.TopWateredSaid := over
#print axioms proved
end Go.Proofs.Ytcoelhpmkhimpaa.topWateredDone
