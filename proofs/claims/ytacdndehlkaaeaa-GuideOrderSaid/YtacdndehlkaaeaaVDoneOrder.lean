/- The law GuideOrder: its walk where both looks lead somewhere. -/
import Derived.Test.YtacdndehlkaaeaaVSteps
import Derived.Test.YtacdndehlkaaeaaVTake
import Derived.OpenShut
import Derived.ShutString
import Derived.ChangeOld
import Derived.Below
namespace Go.Proofs.Ytacdndehlkaaeaa
open Go.RowKit
set_option linter.unusedVariables false
set_option linter.unusedSimpArgs false
set_option maxRecDepth 100000 in
set_option maxHeartbeats 8000000 in
theorem orderTwo_any (a : Option Addr) (len cap : Nat) (l L1 L2 L11 : List Half) (s t : Sight) (E N E1 N1 : Span) (w : World) (hl : HalvesAt w a len l) (hc : len ≤ cap) (hm : cap ≤ maxLen) (s0 : 0 ≤ s.kind) (s1 : s.kind ≤ 255) (t0 : 0 ≤ t.kind) (t1 : t.kind ≤ 255)
    (hao : areaOk l = true) (hSO : sightOk s = true) (hTO : sightOk t = true) (h28 : ¬28 < len) (h0 : boundsOf l = (E, N, 0)) (h1 : seeOf l s = (L1, 0)) (h2 : seeOf l t = (L2, 0)) (h3 : boundsOf L1 = (E1, N1, 0)) (e : E1.inner E) (n : N1.inner N)
    (h4 : seeOf L1 s = (L11, 0)) (h5 : boundsOf L11 = (E1, N1, 0)) (L12 L21 : List Half) (E2 N2 : Span) (d : Int) (h6 : seeOf L1 t = (L12, d)) (h7 : seeOf L2 s = (L21, d)) (hd : d = 43 ∨ d = 0 ∧ boundsOf L12 = (E2, N2, 0) ∧ boundsOf L21 = (E2, N2, 0) ∧ E2.inner E1 ∧ N2.inner N1) :
    Calls Try.prog 9 #[.agg #[.slice a len cap], s.val, t.val] w fun e w' => e = .returned (.bool true) ∧ Ext w w' := by
  have hal := alive_any
  have hch := fun W (hW : Ext w W) => rcheckAny_any a len cap l W (hl.ext hW)
  have hls := fun W => looks_any s W
  have hlt := fun W => looks_any t W
  have hll := hl.1
  unfold checkOf at hch
  rw [hao] at hch
  simp only [if_true] at hch
  rw [hSO] at hls
  rw [hTO] at hlt
  have h28B : decide ((28 : Int) < (len : Int)) = false := decide_eq_false (by omega)
  have h28B' : decide (28 < len) = false := decide_eq_false h28
  obtain ⟨K1, hK1⟩ : ∃ k, L1.length = k := ⟨_, rfl⟩
  obtain ⟨K2, hK2⟩ : ∃ k, L2.length = k := ⟨_, rfl⟩
  obtain ⟨K11, hK11⟩ : ∃ k, L11.length = k := ⟨_, rfl⟩
  obtain ⟨K12, hK12⟩ : ∃ k, L12.length = k := ⟨_, rfl⟩
  obtain ⟨K21, hK21⟩ : ∃ k, L21.length = k := ⟨_, rfl⟩
  have hin1 := innerYes_any e
  have hin2 := innerYes_any n
  obtain ⟨e0, e1⟩ := E
  obtain ⟨n0, n1⟩ := N
  obtain ⟨p0, p1⟩ := E1
  obtain ⟨q0, q1⟩ := N1
  have hbd := fun W (hW : Ext w W) => boundsK_any h0 a cap W (hl.ext hW) hc hm
  have hse1 := fun W (hW : Ext w W) => exSee_any h1 hK1 a cap W (hl.ext hW) hc hm s0 s1
  have hse2 := fun W (hW : Ext w W) => exSee_any h2 hK2 a cap W (hl.ext hW) hc hm t0 t1
  have hbd1 := fun b c W hL k1 k2 => boundsK_any (n := K1) h3 b c W hL k1 k2
  have hse4 := fun b c W hL k1 k2 => exSee_any (n := K1) h4 hK11 b c W hL k1 k2 s0 s1
  have hbd5 := fun b c W hL k1 k2 => boundsK_any (n := K11) h5 b c W hL k1 k2
  have hse6 := fun b c W hL k1 k2 => seeEither_any (n := K1) h6 hK12 b c W hL k1 k2 t0 t1
  have hse7 := fun b c W hL k1 k2 => seeEither_any (n := K2) h7 hK21 b c W hL k1 k2 s0 s1
  unfold AreaPost at hse1 hse2 hse4
  unfold EitherPost at hse6 hse7
  have HD := Lib.hid hd
  clear h28 h0 h1 h2 h3 h4 h5 h6 h7 hao hSO hTO hK1 hK2 hK11 hK12 hK21 e n hd
  obtain ⟨k1, x1, y1, fx1, fy1, tx1, ty1, nl1, nh1, far1⟩ := s
  obtain ⟨k2, x2, y2, fx2, fy2, tx2, ty2, nl2, nh2, far2⟩ := t
  unfold Sight.val at hls hlt hse1 hse2 hse4 hse6 hse7 ⊢
  simp only at hls hlt hse1 hse2 hse4 hse6 hse7 s0 s1 t0 t1 hin1 hin2 ⊢
  obtain ⟨W0, hW0⟩ : ∃ W0, ((w.alloc (.cells #[.slice a len cap] 24)).alloc (.cells #[.int .u8 k1, .int .i64 x1, .int .i64 y1, .int .i64 fx1, .int .i64 fy1, .int .i64 tx1, .int .i64 ty1, .int .i64 nl1, .int .i64 nh1, .int .i64 far1] 30)).alloc (.cells #[.int .u8 k2, .int .i64 x2, .int .i64 y2, .int .i64 fx2, .int .i64 fy2, .int .i64 tx2, .int .i64 ty2, .int .i64 nl2, .int .i64 nh2, .int .i64 far2] 30) = W0 := ⟨_, rfl⟩
  have hx0 : Ext w W0 := by rw [← hW0]; exact (((Ext.refl w).alloc _).alloc _).alloc _
  have ha0 : W0.heap[w.heap.size]? = some (.cells #[.slice a len cap] 24 (0, 0)) := by rw [← hW0]; exact (((Ext.refl _).alloc _).alloc _).heap (heap_alloc_new w _)
  have hs0 : W0.heap[w.heap.size + 1]? = some (.cells #[.int .u8 k1, .int .i64 x1, .int .i64 y1, .int .i64 fx1, .int .i64 fy1, .int .i64 tx1, .int .i64 ty1, .int .i64 nl1, .int .i64 nh1, .int .i64 far1] 30 (0, 0)) := by rw [← hW0]; exact ((Ext.refl _).alloc _).heap (alloc_at _ _ _ (by simp))
  have ht0 : W0.heap[w.heap.size + 1 + 1]? = some (.cells #[.int .u8 k2, .int .i64 x2, .int .i64 y2, .int .i64 fx2, .int .i64 fy2, .int .i64 tx2, .int .i64 ty2, .int .i64 nl2, .int .i64 nh2, .int .i64 far2] 30 (0, 0)) := by rw [← hW0]; exact alloc_at _ _ _ (by simp)
  have Hx0 := Lib.hid hx0
  have Ha0 := Lib.hid ha0
  have Hs0 := Lib.hid hs0
  have Ht0 := Lib.hid ht0
  have Hal := Lib.hid hal
  have Hch := Lib.hid hch
  have Hls := Lib.hid hls
  have Hlt := Lib.hid hlt
  have Hbd := Lib.hid hbd
  have Hse1 := Lib.hid hse1
  have Hse2 := Lib.hid hse2
  have Hbd1 := Lib.hid hbd1
  have Hse4 := Lib.hid hse4
  have Hbd5 := Lib.hid hbd5
  have Hse6 := Lib.hid hse6
  have Hse7 := Lib.hid hse7
  have Hin1 := Lib.hid hin1
  have Hin2 := Lib.hid hin2
  clear hx0 ha0 hs0 ht0 hal hch hls hlt hbd hse1 hse2 hbd1 hse4 hbd5 hse6 hse7 hin1 hin2
  go_enter Try.func9, Try.ntmps9
  go_upto_region 13 with (first
    | (go_at_call 34; refine (Hal.out _).mono ?_; rintro e w1 ⟨rfl, hx1⟩; obtain ⟨z1, _⟩ := (Ext.refl w1).box (hx1.heap Ha0.out); clear hW0)
    | (go_at_call 29; refine (Hch.out _ (Hx0.out.trans hx1)).mono ?_; rintro e w2 ⟨rfl, hx2⟩; have hx12 := hx1.trans hx2; obtain ⟨z2, _⟩ := (Ext.refl w2).box (hx12.heap Hs0.out); clear z1)
    | (go_at_call 42; first | (have q := hx13; clear q; refine (Hlt.out _).mono ?_; rintro e w4 ⟨rfl, hx4⟩; have hx14 := hx13.trans hx4; obtain ⟨z4, _⟩ := (Ext.refl w4).box (hx14.heap Ha0.out); clear z3) | (refine (Hls.out _).mono ?_; rintro e w3 ⟨rfl, hx3⟩; have hx13 := hx12.trans hx3; obtain ⟨z3, _⟩ := (Ext.refl w3).box (hx13.heap Ht0.out); clear z2))
    | (go_at_call 24; refine (Hbd.out _ (Hx0.out.trans hx14)).mono ?_; rintro e w5 ⟨rfl, hx5⟩; have hx15 := hx14.trans hx5; obtain ⟨z5, _⟩ := (Ext.refl w5).box (hx15.heap Ha0.out); obtain ⟨y5, _⟩ := (Ext.refl w5).box (hx15.heap Hs0.out); have l5 := heap_lt (hx15.heap Ha0.out); have m5 := heap_lt (hx15.heap Hs0.out); clear z4)
    | (go_at_call 16; first | (have q := hx16; clear q; refine (Hse2.out _ (Hx0.out.trans (hx16.alloc _))).mono ?_; rintro e w7 ⟨b7, c7, rfl, s7, t7, hx7, hH7, _⟩; have hx17 := (hx16.alloc _).trans hx7) | (refine (Hse1.out _ (Hx0.out.trans ((hx15.alloc _).alloc _))).mono ?_; rintro e w6 ⟨b6, c6, rfl, s6, t6, hx6, hH6, _⟩; have hx16 := ((hx15.alloc _).alloc _).trans hx6; obtain ⟨z6, _⟩ := (Ext.refl w6).box (hx16.heap Ha0.out); obtain ⟨y6, _⟩ := (Ext.refl w6).box (hx16.heap Ht0.out); have l6 := heap_lt (hx16.heap Ha0.out); have m6 := heap_lt (hx16.heap Ht0.out); clear z5 y5)))
  have g56 := hx6.heap (((Ext.refl _).alloc _).heap (heap_alloc_new w5 (.cells #[.int .i64 e0, .int .i64 e1] 28)))
  have g57 := hx6.heap (alloc_at (w5.alloc (.cells #[.int .i64 e0, .int .i64 e1] 28)) (.cells #[.int .i64 n0, .int .i64 n1] 28) (w5.heap.size + 1) (by simp))
  have g6 := heap_alloc_new w6 (.cells #[.slice b6 K1 c6] 24)
  have hx68 := ((Ext.refl w6).alloc (.cells #[.slice b6 K1 c6] 24)).trans (hx7.alloc (.cells #[.slice b7 K2 c7] 24))
  have hx08 := Hx0.out.trans (hx16.trans hx68)
  have g8 := heap_alloc_new w7 (.cells #[.slice b7 K2 c7] 24)
  have gs := (hx16.trans hx68).heap Hs0.out
  have gt := (hx16.trans hx68).heap Ht0.out
  have q8 := hx68.heap g56
  have q9 := hx68.heap g57
  have q11 := (hx7.alloc (.cells #[.slice b7 K2 c7] 24)).heap g6
  have r1 := hH6.ext hx68
  have r2 := hH7.ext ((Ext.refl w7).alloc (.cells #[.slice b7 K2 c7] 24))
  generalize w7.alloc (.cells #[.slice b7 K2 c7] 24) = W8 at *
  generalize w7.heap.size = i13 at *
  generalize w6.heap.size = i11 at *
  generalize w5.heap.size = i8 at *
  generalize w.heap.size + 1 = i4 at *
  generalize i4 + 1 = i5 at *
  generalize i8 + 1 = i9 at *
  have hE := Ext.refl W8
  obtain ⟨z11, _⟩ := (Ext.refl W8).box q11
  have HX := Lib.hid hx08
  clear hx08
  have GS := Lib.hid gs
  have GT := Lib.hid gt
  have Q8 := Lib.hid q8
  have Q9 := Lib.hid q9
  have Q11 := Lib.hid q11
  have Q13 := Lib.hid g8
  have R1 := Lib.hid r1
  have R2 := Lib.hid r2
  clear hl gs gt q8 q9 q11 g8 r1 r2 hx68 hx16 g56 g57 g6 hH6 hH7 hx1 hx2 hx3 hx4 hx5 hx6 hx7 hx12 hx13 hx14 hx15 z6 y6 l6 m6 l5 m5 hx17 Ha0 Hs0 Ht0 Hx0 Hal Hch Hls Hlt Hbd Hse1 Hse2
  have ST := Lib.hid (show (K1 ≤ c6 ∧ c6 ≤ maxLen) ∧ K2 ≤ c7 ∧ c7 ≤ maxLen from ⟨⟨s6, t6⟩, s7, t7⟩)
  clear s6 t6 s7 t7
  go_upto_region 16 with (first
    | (go_at_call 24; refine (Hbd1.out _ _ _ (R1.out.ext hE) ST.out.1.1 ST.out.1.2).mono ?_; rintro e w9 ⟨rfl, hx9⟩; have hE9 := hE.trans hx9; obtain ⟨z9, _⟩ := (Ext.refl w9).box (hE9.heap Q11.out); obtain ⟨y9, _⟩ := (Ext.refl w9).box (hE9.heap GT.out); have l9 := heap_lt (hE9.heap Q11.out); have m9 := heap_lt (hE9.heap GT.out); clear z11)
    | (go_at_call 16; first
      | (have q := hE10; clear q; refine (Hse7.out _ _ _ (R2.out.ext (hE10.alloc _)) ST.out.2.1 ST.out.2.2).mono ?_; rintro e w11 ⟨b11, c11, rfl, s11, t11, hx11, H11, _⟩; have ST11 := Lib.hid (And.intro s11 t11); clear s11 t11)
      | (refine (Hse6.out _ _ _ (R1.out.ext ((hE9.alloc _).alloc _)) ST.out.1.1 ST.out.1.2).mono ?_; rintro e w10 ⟨b10, c10, rfl, s10, t10, hx10, H10, _⟩; have ST10 := Lib.hid (And.intro s10 t10); clear s10 t10; have hE10 := ((hE9.alloc _).alloc _).trans hx10; obtain ⟨z10, _⟩ := (Ext.refl w10).box (hE10.heap Q13.out); obtain ⟨y10, _⟩ := (Ext.refl w10).box (hE10.heap GS.out); have l10 := heap_lt (hE10.heap Q13.out); have m10 := heap_lt (hE10.heap GS.out); clear z9 y9)))
  have hx12 := (((Ext.refl w10).alloc (.cells #[.slice b10 K12 c10] 24)).trans hx11).alloc (.cells #[.slice b11 K21 c11] 24)
  have hx12' := hx11.alloc (.cells #[.slice b11 K21 c11] 24)
  have g15 := hx12.heap (hx10.heap (((Ext.refl _).alloc _).heap (heap_alloc_new w9 (.cells #[.int .i64 p0, .int .i64 p1] 28))))
  have g16 := hx12.heap (hx10.heap (alloc_at (w9.alloc (.cells #[.int .i64 p0, .int .i64 p1] 28)) (.cells #[.int .i64 q0, .int .i64 q1] 28) (w9.heap.size + 1) (by simp)))
  have g18 := hx12'.heap (heap_alloc_new w10 (.cells #[.slice b10 K12 c10] 24))
  have g20 := heap_alloc_new w11 (.cells #[.slice b11 K21 c11] 24)
  have hE12 := hE10.trans hx12
  have r3 := H10.ext hx12
  have r4 := H11.ext ((Ext.refl w11).alloc (.cells #[.slice b11 K21 c11] 24))
  generalize w11.alloc (.cells #[.slice b11 K21 c11] 24) = W12 at *
  generalize w11.heap.size = i20 at *
  generalize w10.heap.size = i18 at *
  generalize w9.heap.size = i15 at *
  generalize i15 + 1 = i16 at *
  have G8 := Lib.hid (hE12.heap Q8.out)
  have G9 := Lib.hid (hE12.heap Q9.out)
  have G11 := Lib.hid (hE12.heap Q11.out)
  have G4 := Lib.hid (hE12.heap GS.out)
  have G15 := Lib.hid g15
  have G16 := Lib.hid g16
  have G18 := Lib.hid g18
  have G20 := Lib.hid g20
  have R3 := Lib.hid r3
  have R4 := Lib.hid r4
  have HY := Lib.hid (HX.out.trans hE12)
  have S1 := Lib.hid (R1.out.ext hE12)
  obtain ⟨z12, _⟩ := (Ext.refl W12).box g15
  obtain ⟨y12, _⟩ := (Ext.refl W12).box (hE12.heap Q8.out)
  clear g15 g16 g18 g20 r3 r4 hx12 hx12' hx11 hx10 hx9 hE10 hE9 hE12 hE H10 H11 z10 y10 l10 m10 l9 m9 Q8 Q9 Q11 Q13 GS GT R1 R2 HX
  go_upto_region 20 with (first
    | (go_at_call 47; first
      | (have q := hx13; clear q; refine (Hin2.out _).mono ?_; rintro e w14 ⟨rfl, hx14⟩; have hE14 := hx13.trans hx14; obtain ⟨z14, _⟩ := (Ext.refl w14).box (hE14.heap G11.out); obtain ⟨y14, _⟩ := (Ext.refl w14).box (hE14.heap G4.out); clear z13 y13)
      | (refine (Hin1.out _).mono ?_; rintro e w13 ⟨rfl, hx13⟩; obtain ⟨z13, _⟩ := (Ext.refl w13).box (hx13.heap G16.out); obtain ⟨y13, _⟩ := (Ext.refl w13).box (hx13.heap G9.out); clear z12 y12))
    | (go_at_call 16; refine (Hse4.out _ _ _ (S1.out.ext hE14) ST.out.1.1 ST.out.1.2).mono ?_; rintro e w16 ⟨b16, c16, rfl, s16, t16, hx16, H16, _⟩; have ST16 := Lib.hid (And.intro s16 t16); clear s16 t16; have hE16 := hE14.trans hx16; clear z14 y14)
    | (go_at_call 24; refine (Hbd5.out _ _ _ (H16.ext ((Ext.refl _).alloc _)) ST16.out.1 ST16.out.2).mono ?_; rintro e w17 ⟨rfl, hx17⟩; have hE17 := (hE16.alloc _).trans hx17))
  have hx178 := ((Ext.refl w17).alloc (.cells #[.int .i64 p0, .int .i64 p1] 28)).alloc (.cells #[.int .i64 q0, .int .i64 q1] 28)
  have g24 := ((Ext.refl _).alloc (.cells #[.int .i64 q0, .int .i64 q1] 28)).heap (heap_alloc_new w17 (.cells #[.int .i64 p0, .int .i64 p1] 28))
  have g25 := alloc_at (w17.alloc (.cells #[.int .i64 p0, .int .i64 p1] 28)) (.cells #[.int .i64 q0, .int .i64 q1] 28) (w17.heap.size + 1) (by simp)
  have hE18 := hE17.trans hx178
  generalize (w17.alloc (.cells #[.int .i64 p0, .int .i64 p1] 28)).alloc (.cells #[.int .i64 q0, .int .i64 q1] 28) = W18 at *
  generalize w17.heap.size = i24 at *
  generalize i24 + 1 = i25 at *
  obtain ⟨z24, _⟩ := (Ext.refl W18).box g24
  obtain ⟨z25, _⟩ := (Ext.refl W18).box g25
  obtain ⟨z15, _⟩ := (Ext.refl W18).box (hE18.heap G15.out)
  obtain ⟨z16, _⟩ := (Ext.refl W18).box (hE18.heap G16.out)
  obtain ⟨z18, _⟩ := (Ext.refl W18).box (hE18.heap G18.out)
  have l18 := heap_lt (hE18.heap G18.out)
  clear hx178 g24 g25 hE17 hx17 hE16 hx16 H16 hE14 hx14 hx13 Hin1 Hin2 Hbd5 Hse4 Hse6 Hse7 Hbd1
  go_upto_region 22 with fail
  rcases HD.out with rfl | ⟨rfl, h8, h9, e', n'⟩
  · clear HD
    go_wp2_with fail
    go_ret
    exact ⟨rfl, HY.out.trans hE18⟩
  · have hin3 := innerYes_any e'
    have hin4 := innerYes_any n'
    obtain ⟨u0, u1⟩ := E2
    obtain ⟨v0, v1⟩ := N2
    simp only at hin3 hin4
    have hb8 := fun W hW => boundsK_any (n := K12) h8 b10 c10 W (R3.out.ext hW) ST10.out.1 ST10.out.2
    have hb9 := fun W hW => boundsK_any (n := K21) h9 b11 c11 W (R4.out.ext hW) ST11.out.1 ST11.out.2
    clear HD h8 h9 e' n'
    have Hin3 := Lib.hid hin3
    have Hin4 := Lib.hid hin4
    have Hb8 := Lib.hid hb8
    have Hb9 := Lib.hid hb9
    clear hin3 hin4 hb8 hb9
    go_upto_region 26 with (go_at_call 24; first
      | (have q := hE19; clear q; refine (Hb9.out _ ((hE19.alloc _).alloc _)).mono ?_; rintro e w20 ⟨rfl, hx20⟩)
      | (refine (Hb8.out _ hE18).mono ?_; rintro e w19 ⟨rfl, hx19⟩; have hE19 := hE18.trans hx19; obtain ⟨z19, _⟩ := (Ext.refl w19).box (hE19.heap G20.out); have l19 := heap_lt (hE19.heap G20.out); clear z24 z25 z15 z16 z18 l18))
    have hx201 := ((Ext.refl w20).alloc (.cells #[.int .i64 u0, .int .i64 u1] 28)).alloc (.cells #[.int .i64 v0, .int .i64 v1] 28)
    have g30 := ((Ext.refl _).alloc (.cells #[.int .i64 v0, .int .i64 v1] 28)).heap (heap_alloc_new w20 (.cells #[.int .i64 u0, .int .i64 u1] 28))
    have g31 := alloc_at (w20.alloc (.cells #[.int .i64 u0, .int .i64 u1] 28)) (.cells #[.int .i64 v0, .int .i64 v1] 28) (w20.heap.size + 1) (by simp)
    have g27 := hx201.heap (hx20.heap (((Ext.refl _).alloc _).heap (heap_alloc_new w19 (.cells #[.int .i64 u0, .int .i64 u1] 28))))
    have g28 := hx201.heap (hx20.heap (alloc_at (w19.alloc (.cells #[.int .i64 u0, .int .i64 u1] 28)) (.cells #[.int .i64 v0, .int .i64 v1] 28) (w19.heap.size + 1) (by simp)))
    have hE21 := (((hE19.alloc _).alloc _).trans hx20).trans hx201
    generalize (w20.alloc (.cells #[.int .i64 u0, .int .i64 u1] 28)).alloc (.cells #[.int .i64 v0, .int .i64 v1] 28) = W21 at *
    generalize w20.heap.size = i30 at *
    generalize w19.heap.size = i27 at *
    generalize i30 + 1 = i31 at *
    generalize i27 + 1 = i28 at *
    obtain ⟨z30, _⟩ := (Ext.refl W21).box g30
    obtain ⟨z31, _⟩ := (Ext.refl W21).box g31
    obtain ⟨z27, _⟩ := (Ext.refl W21).box g27
    obtain ⟨z28, _⟩ := (Ext.refl W21).box g28
    obtain ⟨z15, _⟩ := (Ext.refl W21).box (hE21.heap G15.out)
    have G28 := Lib.hid g28
    clear hx201 g30 g31 g27 g28 hE19 hx19 hx20 z19 l19
    go_wp2_with (go_at_call 47; first
      | (have q := hx22; clear q; refine (Hin4.out _).mono ?_; rintro e w23 ⟨rfl, hx23⟩)
      | (refine (Hin3.out _).mono ?_; rintro e w22 ⟨rfl, hx22⟩; obtain ⟨z22, _⟩ := (Ext.refl w22).box (hx22.heap G28.out); obtain ⟨y22, _⟩ := (Ext.refl w22).box ((hE21.trans hx22).heap G16.out)))
    go_ret
    exact ⟨rfl, HY.out.trans ((hE21.trans hx22).trans hx23)⟩
end Go.Proofs.Ytacdndehlkaaeaa

/- The law GuideOrder. -/
namespace Go.Proofs.Ytacdndehlkaaeaa
open Go.RowKit
set_option linter.unusedVariables false
set_option linter.unusedSimpArgs false
set_option maxRecDepth 100000 in
set_option maxHeartbeats 8000000 in
theorem lawOrder_any (a : Option Addr) (len cap : Nat) (l : List Half) (s t : Sight) (w : World) (hl : HalvesAt w a len l) (hc : len ≤ cap) (hm : cap ≤ maxLen) (s0 : 0 ≤ s.kind) (s1 : s.kind ≤ 255) (t0 : 0 ≤ t.kind) (t1 : t.kind ≤ 255) :
    Calls Try.prog 9 #[.agg #[.slice a len cap], s.val, t.val] w fun e w' => e = .returned (.bool true) ∧ Ext w w' := by
  have hal := alive_any
  have hch := fun W (hW : Ext w W) => rcheckAny_any a len cap l W (hl.ext hW)
  have hls := fun W => looks_any s W
  have hlt := fun W => looks_any t W
  have hll := hl.1
  unfold checkOf at hch
  have his := order_is (l := l) (s := s) (t := t)
  have hseeO := fun (L : List Half) (u : Sight) (n k : Nat) (m : List Half) (hs : seeOf L u = (m, 0)) (hk : m.length = k) (h0 : 0 ≤ u.kind) (h1 : u.kind ≤ 255) (b : Option Addr) c W hL h2 h3 => exSee_any (n := n) hs hk b c W hL h2 h3 h0 h1
  have hseeN := fun (L : List Half) (u : Sight) (n : Nat) (hs : seeOf L u = ([], 43)) (h0 : 0 ≤ u.kind) (h1 : u.kind ≤ 255) (b : Option Addr) c W hL h2 h3 => seeNo_any (n := n) hs b c W hL h2 h3 h0 h1
  generalize hSO : sightOk s = so at *
  generalize hTO : sightOk t = tk at *
  obtain ⟨k1, x1, y1, fx1, fy1, tx1, ty1, nl1, nh1, far1⟩ := s
  obtain ⟨k2, x2, y2, fx2, fy2, tx2, ty2, nl2, nh2, far2⟩ := t
  unfold Sight.val at hls hlt ⊢
  simp only at hls hlt s0 s1 t0 t1 ⊢
  obtain ⟨W0, hW0⟩ : ∃ W0, ((w.alloc (.cells #[.slice a len cap] 24)).alloc (.cells #[.int .u8 k1, .int .i64 x1, .int .i64 y1, .int .i64 fx1, .int .i64 fy1, .int .i64 tx1, .int .i64 ty1, .int .i64 nl1, .int .i64 nh1, .int .i64 far1] 30)).alloc (.cells #[.int .u8 k2, .int .i64 x2, .int .i64 y2, .int .i64 fx2, .int .i64 fy2, .int .i64 tx2, .int .i64 ty2, .int .i64 nl2, .int .i64 nh2, .int .i64 far2] 30) = W0 := ⟨_, rfl⟩
  have hx0 : Ext w W0 := by rw [← hW0]; exact (((Ext.refl w).alloc _).alloc _).alloc _
  have ha0 : W0.heap[w.heap.size]? = some (.cells #[.slice a len cap] 24 (0, 0)) := by rw [← hW0]; exact (((Ext.refl _).alloc _).alloc _).heap (heap_alloc_new w _)
  have hs0 : W0.heap[w.heap.size + 1]? = some (.cells #[.int .u8 k1, .int .i64 x1, .int .i64 y1, .int .i64 fx1, .int .i64 fy1, .int .i64 tx1, .int .i64 ty1, .int .i64 nl1, .int .i64 nh1, .int .i64 far1] 30 (0, 0)) := by rw [← hW0]; exact ((Ext.refl _).alloc _).heap (alloc_at _ _ _ (by simp))
  have ht0 : W0.heap[w.heap.size + 1 + 1]? = some (.cells #[.int .u8 k2, .int .i64 x2, .int .i64 y2, .int .i64 fx2, .int .i64 fy2, .int .i64 tx2, .int .i64 ty2, .int .i64 nl2, .int .i64 nh2, .int .i64 far2] 30 (0, 0)) := by rw [← hW0]; exact alloc_at _ _ _ (by simp)
  have Hx0 := Lib.hid hx0
  have Ha0 := Lib.hid ha0
  have Hs0 := Lib.hid hs0
  have Ht0 := Lib.hid ht0
  have Hal := Lib.hid hal
  clear hx0 ha0 hs0 ht0 hal
  cases hao : areaOk l with
  | false =>
    rw [hao] at hch
    simp only [Bool.false_eq_true, if_false] at hch
    have Hch := Lib.hid hch
    have Hls := Lib.hid hls
    have Hlt := Lib.hid hlt
    clear hch hls hlt
    clear hl his hseeO hseeN hao hSO hTO
    go_enter Try.func9, Try.ntmps9
    go_wp2_with (first
      | (go_at_call 34; refine (Hal.out _).mono ?_; rintro e w1 ⟨rfl, hx1⟩; obtain ⟨z1, _⟩ := (Ext.refl w1).box (hx1.heap Ha0.out); clear hW0)
      | (go_at_call 29; refine (Hch.out _ (Hx0.out.trans hx1)).mono ?_; rintro e w2 ⟨rfl, hx2⟩; have hx12 := hx1.trans hx2; have hxe := hx12; obtain ⟨z2, _⟩ := (Ext.refl w2).box (hx12.heap Hs0.out); clear z1)
      | (go_at_call 42; first | (have q := hx13; clear q; refine (Hlt.out _).mono ?_; rintro e w4 ⟨rfl, hx4⟩; have hx14 := hx13.trans hx4; clear hxe; have hxe := hx14; obtain ⟨z4, _⟩ := (Ext.refl w4).box (hx14.heap Ha0.out); clear z3) | (refine (Hls.out _).mono ?_; rintro e w3 ⟨rfl, hx3⟩; have hx13 := hx12.trans hx3; clear hxe; have hxe := hx13; obtain ⟨z3, _⟩ := (Ext.refl w3).box (hx13.heap Ht0.out); clear z2)))
    go_ret
    exact ⟨rfl, Hx0.out.trans hxe⟩
  | true =>
    rw [hao] at hch
    simp only [if_true] at hch
    cases so with
    | false =>
      have Hch := Lib.hid hch
      have Hls := Lib.hid hls
      have Hlt := Lib.hid hlt
      clear hch hls hlt
      clear hl his hseeO hseeN hao hSO hTO
      go_enter Try.func9, Try.ntmps9
      go_wp2_with (first
        | (go_at_call 34; refine (Hal.out _).mono ?_; rintro e w1 ⟨rfl, hx1⟩; obtain ⟨z1, _⟩ := (Ext.refl w1).box (hx1.heap Ha0.out); clear hW0)
        | (go_at_call 29; refine (Hch.out _ (Hx0.out.trans hx1)).mono ?_; rintro e w2 ⟨rfl, hx2⟩; have hx12 := hx1.trans hx2; have hxe := hx12; obtain ⟨z2, _⟩ := (Ext.refl w2).box (hx12.heap Hs0.out); clear z1)
        | (go_at_call 42; first | (have q := hx13; clear q; refine (Hlt.out _).mono ?_; rintro e w4 ⟨rfl, hx4⟩; have hx14 := hx13.trans hx4; clear hxe; have hxe := hx14; obtain ⟨z4, _⟩ := (Ext.refl w4).box (hx14.heap Ha0.out); clear z3) | (refine (Hls.out _).mono ?_; rintro e w3 ⟨rfl, hx3⟩; have hx13 := hx12.trans hx3; clear hxe; have hxe := hx13; obtain ⟨z3, _⟩ := (Ext.refl w3).box (hx13.heap Ht0.out); clear z2)))
      go_ret
      exact ⟨rfl, Hx0.out.trans hxe⟩
    | true =>
      cases tk with
      | false =>
        have Hch := Lib.hid hch
        have Hls := Lib.hid hls
        have Hlt := Lib.hid hlt
        clear hch hls hlt
        clear hl his hseeO hseeN hao hSO hTO
        go_enter Try.func9, Try.ntmps9
        go_wp2_with (first
          | (go_at_call 34; refine (Hal.out _).mono ?_; rintro e w1 ⟨rfl, hx1⟩; obtain ⟨z1, _⟩ := (Ext.refl w1).box (hx1.heap Ha0.out); clear hW0)
          | (go_at_call 29; refine (Hch.out _ (Hx0.out.trans hx1)).mono ?_; rintro e w2 ⟨rfl, hx2⟩; have hx12 := hx1.trans hx2; have hxe := hx12; obtain ⟨z2, _⟩ := (Ext.refl w2).box (hx12.heap Hs0.out); clear z1)
          | (go_at_call 42; first | (have q := hx13; clear q; refine (Hlt.out _).mono ?_; rintro e w4 ⟨rfl, hx4⟩; have hx14 := hx13.trans hx4; clear hxe; have hxe := hx14; obtain ⟨z4, _⟩ := (Ext.refl w4).box (hx14.heap Ha0.out); clear z3) | (refine (Hls.out _).mono ?_; rintro e w3 ⟨rfl, hx3⟩; have hx13 := hx12.trans hx3; clear hxe; have hxe := hx13; obtain ⟨z3, _⟩ := (Ext.refl w3).box (hx13.heap Ht0.out); clear z2)))
        go_ret
        exact ⟨rfl, Hx0.out.trans hxe⟩
      | true =>
        by_cases h28 : 28 < len
        · have h28B : decide ((28 : Int) < (len : Int)) = true := decide_eq_true (by omega)
          have h28B' : decide (28 < len) = true := decide_eq_true h28
          have Hch := Lib.hid hch
          have Hls := Lib.hid hls
          have Hlt := Lib.hid hlt
          clear hch hls hlt
          clear hl his hseeO hseeN hao hSO hTO
          go_enter Try.func9, Try.ntmps9
          go_wp2_with (first
            | (go_at_call 34; refine (Hal.out _).mono ?_; rintro e w1 ⟨rfl, hx1⟩; obtain ⟨z1, _⟩ := (Ext.refl w1).box (hx1.heap Ha0.out); clear hW0)
            | (go_at_call 29; refine (Hch.out _ (Hx0.out.trans hx1)).mono ?_; rintro e w2 ⟨rfl, hx2⟩; have hx12 := hx1.trans hx2; have hxe := hx12; obtain ⟨z2, _⟩ := (Ext.refl w2).box (hx12.heap Hs0.out); clear z1)
            | (go_at_call 42; first | (have q := hx13; clear q; refine (Hlt.out _).mono ?_; rintro e w4 ⟨rfl, hx4⟩; have hx14 := hx13.trans hx4; clear hxe; have hxe := hx14; obtain ⟨z4, _⟩ := (Ext.refl w4).box (hx14.heap Ha0.out); clear z3) | (refine (Hls.out _).mono ?_; rintro e w3 ⟨rfl, hx3⟩; have hx13 := hx12.trans hx3; clear hxe; have hxe := hx13; obtain ⟨z3, _⟩ := (Ext.refl w3).box (hx13.heap Ht0.out); clear z2)))
          go_ret
          exact ⟨rfl, Hx0.out.trans hxe⟩
        · have h28B : decide ((28 : Int) < (len : Int)) = false := decide_eq_false (by omega)
          have h28B' : decide (28 < len) = false := decide_eq_false h28
          have hA := areaOk_iff.1 hao
          have hI := his hA rfl rfl (by omega)
          have hb0 := fun (e0 e1 n0 n1 k : Int) (h : boundsOf l = (⟨e0, e1⟩, ⟨n0, n1⟩, k)) W (hW : Ext w W) => boundsK_any h a cap W (hl.ext hW) hc hm
          clear his
          cases hI with
          | none h0 h1 h2 =>
            have hbd := hb0 0 0 0 0 43 h0
            have hse1 := fun W (hW : Ext w W) => hseeN _ _ len h1 s0 s1 a cap W (hl.ext hW) hc hm
            have hse2 := fun W (hW : Ext w W) => hseeN _ _ len h2 t0 t1 a cap W (hl.ext hW) hc hm
            unfold NoPost Sight.val at hse1 hse2
            simp only at hse1 hse2
            have Hch := Lib.hid hch
            have Hls := Lib.hid hls
            have Hlt := Lib.hid hlt
            have Hbd := Lib.hid hbd
            have Hse1 := Lib.hid hse1
            have Hse2 := Lib.hid hse2
            clear hch hls hlt hbd hse1 hse2
            clear hl hseeO hseeN hb0 h0 h1 h2 hao hA hSO hTO 
            go_enter Try.func9, Try.ntmps9
            go_wp2_with (first
              | (go_at_call 34; refine (Hal.out _).mono ?_; rintro e w1 ⟨rfl, hx1⟩; obtain ⟨z1, _⟩ := (Ext.refl w1).box (hx1.heap Ha0.out); clear hW0)
              | (go_at_call 29; refine (Hch.out _ (Hx0.out.trans hx1)).mono ?_; rintro e w2 ⟨rfl, hx2⟩; have hx12 := hx1.trans hx2; obtain ⟨z2, _⟩ := (Ext.refl w2).box (hx12.heap Hs0.out); clear z1)
              | (go_at_call 42; first | (have q := hx13; clear q; refine (Hlt.out _).mono ?_; rintro e w4 ⟨rfl, hx4⟩; have hx14 := hx13.trans hx4; obtain ⟨z4, _⟩ := (Ext.refl w4).box (hx14.heap Ha0.out); clear z3) | (refine (Hls.out _).mono ?_; rintro e w3 ⟨rfl, hx3⟩; have hx13 := hx12.trans hx3; obtain ⟨z3, _⟩ := (Ext.refl w3).box (hx13.heap Ht0.out); clear z2))
              | (go_at_call 24; refine (Hbd.out _ (Hx0.out.trans hx14)).mono ?_; rintro e w5 ⟨rfl, hx5⟩; have hx15 := hx14.trans hx5; obtain ⟨z5, _⟩ := (Ext.refl w5).box (hx15.heap Ha0.out); obtain ⟨y5, _⟩ := (Ext.refl w5).box (hx15.heap Hs0.out); have l5 := heap_lt (hx15.heap Ha0.out); have m5 := heap_lt (hx15.heap Hs0.out); clear z4)
              | (go_at_call 16; first | (have q := hx16; clear q; refine (Hse2.out _ (Hx0.out.trans (hx16.alloc _))).mono ?_; rintro e w7 ⟨b7, c7, rfl, hx7⟩; have hx17 := (hx16.alloc _).trans hx7) | (refine (Hse1.out _ (Hx0.out.trans ((hx15.alloc _).alloc _))).mono ?_; rintro e w6 ⟨b6, c6, rfl, hx6⟩; have hx16 := ((hx15.alloc _).alloc _).trans hx6; obtain ⟨z6, _⟩ := (Ext.refl w6).box (hx16.heap Ha0.out); obtain ⟨y6, _⟩ := (Ext.refl w6).box (hx16.heap Ht0.out); have l6 := heap_lt (hx16.heap Ha0.out); have m6 := heap_lt (hx16.heap Ht0.out); clear z5 y5)))
            go_ret
            exact ⟨rfl, Hx0.out.trans (hx17.alloc _)⟩
          | first E N h0 h1 h2 =>
            obtain ⟨e0, e1⟩ := E
            obtain ⟨n0, n1⟩ := N
            have hbd := hb0 e0 e1 n0 n1 0 h0
            have hse1 := fun W (hW : Ext w W) => hseeN _ _ len h1 s0 s1 a cap W (hl.ext hW) hc hm
            rcases h2 with h2 | h2
            · have hse2 := fun W (hW : Ext w W) => hseeN _ _ len h2 t0 t1 a cap W (hl.ext hW) hc hm
              unfold NoPost Sight.val at hse1 hse2
              simp only at hse1 hse2
              have Hch := Lib.hid hch
              have Hls := Lib.hid hls
              have Hlt := Lib.hid hlt
              have Hbd := Lib.hid hbd
              have Hse1 := Lib.hid hse1
              have Hse2 := Lib.hid hse2
              clear hch hls hlt hbd hse1 hse2
              clear hl hseeO hseeN hb0 h0 h1 h2 hao hA hSO hTO 
              go_enter Try.func9, Try.ntmps9
              go_wp2_with (first
                | (go_at_call 34; refine (Hal.out _).mono ?_; rintro e w1 ⟨rfl, hx1⟩; obtain ⟨z1, _⟩ := (Ext.refl w1).box (hx1.heap Ha0.out); clear hW0)
                | (go_at_call 29; refine (Hch.out _ (Hx0.out.trans hx1)).mono ?_; rintro e w2 ⟨rfl, hx2⟩; have hx12 := hx1.trans hx2; obtain ⟨z2, _⟩ := (Ext.refl w2).box (hx12.heap Hs0.out); clear z1)
                | (go_at_call 42; first | (have q := hx13; clear q; refine (Hlt.out _).mono ?_; rintro e w4 ⟨rfl, hx4⟩; have hx14 := hx13.trans hx4; obtain ⟨z4, _⟩ := (Ext.refl w4).box (hx14.heap Ha0.out); clear z3) | (refine (Hls.out _).mono ?_; rintro e w3 ⟨rfl, hx3⟩; have hx13 := hx12.trans hx3; obtain ⟨z3, _⟩ := (Ext.refl w3).box (hx13.heap Ht0.out); clear z2))
                | (go_at_call 24; refine (Hbd.out _ (Hx0.out.trans hx14)).mono ?_; rintro e w5 ⟨rfl, hx5⟩; have hx15 := hx14.trans hx5; obtain ⟨z5, _⟩ := (Ext.refl w5).box (hx15.heap Ha0.out); obtain ⟨y5, _⟩ := (Ext.refl w5).box (hx15.heap Hs0.out); have l5 := heap_lt (hx15.heap Ha0.out); have m5 := heap_lt (hx15.heap Hs0.out); clear z4)
                | (go_at_call 16; first | (have q := hx16; clear q; refine (Hse2.out _ (Hx0.out.trans (hx16.alloc _))).mono ?_; rintro e w7 ⟨b7, c7, rfl, hx7⟩; have hx17 := (hx16.alloc _).trans hx7) | (refine (Hse1.out _ (Hx0.out.trans ((hx15.alloc _).alloc _))).mono ?_; rintro e w6 ⟨b6, c6, rfl, hx6⟩; have hx16 := ((hx15.alloc _).alloc _).trans hx6; obtain ⟨z6, _⟩ := (Ext.refl w6).box (hx16.heap Ha0.out); obtain ⟨y6, _⟩ := (Ext.refl w6).box (hx16.heap Ht0.out); have l6 := heap_lt (hx16.heap Ha0.out); have m6 := heap_lt (hx16.heap Ht0.out); clear z5 y5)))
              go_ret
              exact ⟨rfl, Hx0.out.trans (hx17.alloc _)⟩
            · have hse2 := fun W (hW : Ext w W) => hseeO _ _ len _ _ h2 rfl t0 t1 a cap W (hl.ext hW) hc hm
              generalize (l ++ halvesOf ⟨k2, x2, y2, fx2, fy2, tx2, ty2, nl2, nh2, far2⟩).length = K2 at hse2
              unfold NoPost Sight.val at hse1; unfold AreaPost Sight.val at hse2
              simp only at hse1 hse2
              have Hch := Lib.hid hch
              have Hls := Lib.hid hls
              have Hlt := Lib.hid hlt
              have Hbd := Lib.hid hbd
              have Hse1 := Lib.hid hse1
              have Hse2 := Lib.hid hse2
              clear hch hls hlt hbd hse1 hse2
              clear hl hseeO hseeN hb0 h0 h1 h2 hao hA hSO hTO 
              go_enter Try.func9, Try.ntmps9
              go_wp2_with (first
                | (go_at_call 34; refine (Hal.out _).mono ?_; rintro e w1 ⟨rfl, hx1⟩; obtain ⟨z1, _⟩ := (Ext.refl w1).box (hx1.heap Ha0.out); clear hW0)
                | (go_at_call 29; refine (Hch.out _ (Hx0.out.trans hx1)).mono ?_; rintro e w2 ⟨rfl, hx2⟩; have hx12 := hx1.trans hx2; obtain ⟨z2, _⟩ := (Ext.refl w2).box (hx12.heap Hs0.out); clear z1)
                | (go_at_call 42; first | (have q := hx13; clear q; refine (Hlt.out _).mono ?_; rintro e w4 ⟨rfl, hx4⟩; have hx14 := hx13.trans hx4; obtain ⟨z4, _⟩ := (Ext.refl w4).box (hx14.heap Ha0.out); clear z3) | (refine (Hls.out _).mono ?_; rintro e w3 ⟨rfl, hx3⟩; have hx13 := hx12.trans hx3; obtain ⟨z3, _⟩ := (Ext.refl w3).box (hx13.heap Ht0.out); clear z2))
                | (go_at_call 24; refine (Hbd.out _ (Hx0.out.trans hx14)).mono ?_; rintro e w5 ⟨rfl, hx5⟩; have hx15 := hx14.trans hx5; obtain ⟨z5, _⟩ := (Ext.refl w5).box (hx15.heap Ha0.out); obtain ⟨y5, _⟩ := (Ext.refl w5).box (hx15.heap Hs0.out); have l5 := heap_lt (hx15.heap Ha0.out); have m5 := heap_lt (hx15.heap Hs0.out); clear z4)
                | (go_at_call 16; first | (have q := hx16; clear q; refine (Hse2.out _ (Hx0.out.trans (hx16.alloc _))).mono ?_; rintro e w7 ⟨b7, c7, rfl, _, _, hx7, _, _⟩; have hx17 := (hx16.alloc _).trans hx7) | (refine (Hse1.out _ (Hx0.out.trans ((hx15.alloc _).alloc _))).mono ?_; rintro e w6 ⟨b6, c6, rfl, hx6⟩; have hx16 := ((hx15.alloc _).alloc _).trans hx6; obtain ⟨z6, _⟩ := (Ext.refl w6).box (hx16.heap Ha0.out); obtain ⟨y6, _⟩ := (Ext.refl w6).box (hx16.heap Ht0.out); have l6 := heap_lt (hx16.heap Ha0.out); have m6 := heap_lt (hx16.heap Ht0.out); clear z5 y5)))
              go_ret
              exact ⟨rfl, Hx0.out.trans (hx17.alloc _)⟩
          | second E N h0 h1 h2 =>
            obtain ⟨e0, e1⟩ := E
            obtain ⟨n0, n1⟩ := N
            have hbd := hb0 e0 e1 n0 n1 0 h0
            have hse1 := fun W (hW : Ext w W) => hseeO _ _ len _ _ h1 rfl s0 s1 a cap W (hl.ext hW) hc hm
            generalize (l ++ halvesOf ⟨k1, x1, y1, fx1, fy1, tx1, ty1, nl1, nh1, far1⟩).length = K1 at hse1
            have hse2 := fun W (hW : Ext w W) => hseeN _ _ len h2 t0 t1 a cap W (hl.ext hW) hc hm
            unfold NoPost Sight.val at hse2; unfold AreaPost Sight.val at hse1
            simp only at hse1 hse2
            have Hch := Lib.hid hch
            have Hls := Lib.hid hls
            have Hlt := Lib.hid hlt
            have Hbd := Lib.hid hbd
            have Hse1 := Lib.hid hse1
            have Hse2 := Lib.hid hse2
            clear hch hls hlt hbd hse1 hse2
            clear hl hseeO hseeN hb0 h0 h1 h2 hao hA hSO hTO 
            go_enter Try.func9, Try.ntmps9
            go_wp2_with (first
              | (go_at_call 34; refine (Hal.out _).mono ?_; rintro e w1 ⟨rfl, hx1⟩; obtain ⟨z1, _⟩ := (Ext.refl w1).box (hx1.heap Ha0.out); clear hW0)
              | (go_at_call 29; refine (Hch.out _ (Hx0.out.trans hx1)).mono ?_; rintro e w2 ⟨rfl, hx2⟩; have hx12 := hx1.trans hx2; obtain ⟨z2, _⟩ := (Ext.refl w2).box (hx12.heap Hs0.out); clear z1)
              | (go_at_call 42; first | (have q := hx13; clear q; refine (Hlt.out _).mono ?_; rintro e w4 ⟨rfl, hx4⟩; have hx14 := hx13.trans hx4; obtain ⟨z4, _⟩ := (Ext.refl w4).box (hx14.heap Ha0.out); clear z3) | (refine (Hls.out _).mono ?_; rintro e w3 ⟨rfl, hx3⟩; have hx13 := hx12.trans hx3; obtain ⟨z3, _⟩ := (Ext.refl w3).box (hx13.heap Ht0.out); clear z2))
              | (go_at_call 24; refine (Hbd.out _ (Hx0.out.trans hx14)).mono ?_; rintro e w5 ⟨rfl, hx5⟩; have hx15 := hx14.trans hx5; obtain ⟨z5, _⟩ := (Ext.refl w5).box (hx15.heap Ha0.out); obtain ⟨y5, _⟩ := (Ext.refl w5).box (hx15.heap Hs0.out); have l5 := heap_lt (hx15.heap Ha0.out); have m5 := heap_lt (hx15.heap Hs0.out); clear z4)
              | (go_at_call 16; first | (have q := hx16; clear q; refine (Hse2.out _ (Hx0.out.trans (hx16.alloc _))).mono ?_; rintro e w7 ⟨b7, c7, rfl, hx7⟩; have hx17 := (hx16.alloc _).trans hx7) | (refine (Hse1.out _ (Hx0.out.trans ((hx15.alloc _).alloc _))).mono ?_; rintro e w6 ⟨b6, c6, rfl, _, _, hx6, _, _⟩; have hx16 := ((hx15.alloc _).alloc _).trans hx6; obtain ⟨z6, _⟩ := (Ext.refl w6).box (hx16.heap Ha0.out); obtain ⟨y6, _⟩ := (Ext.refl w6).box (hx16.heap Ht0.out); have l6 := heap_lt (hx16.heap Ha0.out); have m6 := heap_lt (hx16.heap Ht0.out); clear z5 y5)))
            go_ret
            exact ⟨rfl, Hx0.out.trans (hx17.alloc _)⟩
          | apart E N E1 N1 h0 h1 h2 h3 e n h4 h5 h6 h7 => exact orderTwo_any a len cap l _ _ _ ⟨k1, x1, y1, fx1, fy1, tx1, ty1, nl1, nh1, far1⟩ ⟨k2, x2, y2, fx2, fy2, tx2, ty2, nl2, nh2, far2⟩ E N E1 N1 w hl hc hm s0 s1 t0 t1 hao hSO hTO h28 h0 h1 h2 h3 e n h4 h5 [] [] zs zs 43 h6 h7 (.inl rfl)
          | all E N E1 N1 E2 N2 h0 h1 h2 h3 e n h4 h5 h6 h7 h8 h9 e' n' => exact orderTwo_any a len cap l _ _ _ ⟨k1, x1, y1, fx1, fy1, tx1, ty1, nl1, nh1, far1⟩ ⟨k2, x2, y2, fx2, fy2, tx2, ty2, nl2, nh2, far2⟩ E N E1 N1 w hl hc hm s0 s1 t0 t1 hao hSO hTO h28 h0 h1 h2 h3 e n h4 h5 _ _ E2 N2 0 h6 h7 (.inr ⟨rfl, h8, h9, e', n'⟩)
end Go.Proofs.Ytacdndehlkaaeaa

/- It is proved that GuideOrder returns true whatever the input, and that the input reads as it did. No conditions. -/
namespace Go.Proofs.Ytacdndehlkaaeaa.guideOrderDone
open Go.ChangeShapes Go.WideShapes Go.ChangeAt Go.RowKit
open Go.ChangeMaps (open_string shut_string)
set_option linter.unusedVariables false

theorem own : ownKnob Try.prog.godebug = none := by kernel_rfl
theorem laidOut : laidOutB Try.prog = true := by kernel_rfl

set_option maxRecDepth 100000 in
theorem lifted (os : Os) (started : os.Started) (H : Type) (enc : TypeId × Value → H) :
    ReturnsInHanded {} Try.checked os 9 .any (Rows.guideOrderSpec.pre6 enc Try.prog Try.f9 Rows.guideOrderRow.domain false) (Rows.guideOrderSpec.post enc Try.prog Try.f9 false true false false) := by
  refine returnsInHanded_of_change (C := Try.checked) own started (by kernel_rfl) Try.func9
    (ChangeSpec.witness6 (enc := enc) (C := Try.checked) false ⟨#[], #[.agg #[.slice none 0 0], .agg #[.int .u8 0, .int .i64 0, .int .i64 0, .int .i64 0, .int .i64 0, .int .i64 0, .int .i64 0, .int .i64 0, .int .i64 0, .int .i64 0], .agg #[.int .u8 0, .int .i64 0, .int .i64 0, .int .i64 0, .int .i64 0, .int .i64 0, .int .i64 0, .int .i64 0, .int .i64 0, .int .i64 0]], []⟩ 8 (by kernel_rfl) (by kernel_rfl) (by kernel_rfl) (by kernel_rfl)) ?_
  intro W base args ds gs before hval0 hW hcnd _
  have hval : ∀ (j : Nat) t v, Try.f9.params[j]? = some t → args[j]? = some v → Value.okWide Try.prog W .any base t v := hval0
  have hW' := hW
  obtain ⟨p, q, hA0, hV, rfl, hfz, hnd⟩ := hW
  have hA : DataW.TrodAll enc Try.prog W 0 (fun _ => true) true Try.f9.params.toList args.toList ds p := hA0
  rw [Try.params9] at hA hval
  obtain ⟨v0, vs0, d0, ds0, p0, q0, hargs, rfl, rfl, h0, r0⟩ := trodAll_cons hA
  obtain ⟨v1, vs1, d1, ds1, p1, q1, rfl, rfl, rfl, h1, r1⟩ := trodAll_cons r0
  obtain ⟨v2, vs2, d2, ds2, p2, q2, rfl, rfl, rfl, h2, r2⟩ := trodAll_cons r1
  obtain ⟨rfl, rfl, rfl⟩ := trodAll_nil r2
  obtain rfl : args = #[v0, v1, v2] := by cases args; simp_all
  obtain ⟨rfl, rfl⟩ := trodVars_none hV
  obtain ⟨cs0, rfl, hz0⟩ := okWide_struct Try.underlying24 (hval 0 24 v0 rfl rfl)
  have k0 := h0
  have lt0 : ∀ x ∈ p0, x.block < W.heap.size := by obtain ⟨m, hm⟩ := k0; exact DataW.trod_lt m _ _ _ hm
  obtain ⟨a0, len0, cap0, l0, rfl, lc0, cm0, w0⟩ : ∃ a n c l, cs0 = #[.slice a n c] ∧ n ≤ c ∧ c ≤ maxLen ∧ HalvesAt W a n l := by
    obtain ⟨fuel, hf⟩ := h0
    exact take_area (hz0.trans (by kernel_rfl)) hf
  obtain ⟨cs1, rfl, hz1⟩ := okWide_struct Try.underlying30 (hval 1 30 v1 rfl rfl)
  have k1 := h1
  have lt1 : ∀ x ∈ p1, x.block < W.heap.size := by obtain ⟨m, hm⟩ := k1; exact DataW.trod_lt m _ _ _ hm
  obtain ⟨s1, e1, w1⟩ : ∃ s : Sight, s.cells = cs1.toList ∧ 0 ≤ s.kind ∧ s.kind ≤ 255 := by
    obtain ⟨fuel, hf⟩ := h1
    exact take_sight (hz1.trans (by kernel_rfl)) hf
  obtain rfl : cs1 = s1.cells.toArray := by rw [e1]
  obtain ⟨cs2, rfl, hz2⟩ := okWide_struct Try.underlying30 (hval 2 30 v2 rfl rfl)
  have k2 := h2
  have lt2 : ∀ x ∈ p2, x.block < W.heap.size := by obtain ⟨m, hm⟩ := k2; exact DataW.trod_lt m _ _ _ hm
  obtain ⟨s2, e2, w2⟩ : ∃ s : Sight, s.cells = cs2.toList ∧ 0 ≤ s.kind ∧ s.kind ≤ 255 := by
    obtain ⟨fuel, hf⟩ := h2
    exact take_sight (hz2.trans (by kernel_rfl)) hf
  obtain rfl : cs2 = s2.cells.toArray := by rw [e2]
  clear hA0 hval0
  refine (lawOrder_any a0 len0 cap0 l0 s1 s2 W w0 lc0 cm0 w1.1 w1.2 w2.1 w2.2).mono fun e W' ⟨he, bel⟩ => ?_
  subst he
  exact ⟨_, rfl, _, _, _, [], _, [], hW', trodAll_mk1 (shut_bool Try.underlying4 _), (trodAll_cons_mk (Below.trod laidOut (by kernel_rfl) (of_decide_eq_true (by kernel_rfl)) k0 bel lt0) (trodAll_cons_mk (Below.trod laidOut (by kernel_rfl) (of_decide_eq_true (by kernel_rfl)) k1 bel lt1) (trodAll_cons_mk (Below.trod laidOut (by kernel_rfl) (of_decide_eq_true (by kernel_rfl)) k2 bel lt2) trodAll_mk0))), rfl, bel.frame _, fun h => by cases h⟩

theorem over : Rows.guideOrderRow.holds Try.pinned (OpenSpec.ofChange Rows.guideOrderSpec) :=
  OpenClaim.holds_of_wide 9 Try.f9 rfl rfl rfl rfl rfl rfl rfl ⟨rfl, rfl, rfl, rfl, rfl⟩ rfl rfl rfl rfl rfl (by kernel_rfl) Try.func9 (by kernel_rfl)
    (of_decide_eq_true (by kernel_rfl)) (by unfold Func.isWrapper; first | (rw [if_pos (by decide +kernel)]; kernel_rfl) | (rw [if_neg (by decide +kernel)]; exact ⟨rfl, rfl⟩))
    (fun os started H enc _ => lifted os started H enc)

theorem proved : Rows.GuideOrderSaid := over
#print axioms proved
end Go.Proofs.Ytacdndehlkaaeaa.guideOrderDone
