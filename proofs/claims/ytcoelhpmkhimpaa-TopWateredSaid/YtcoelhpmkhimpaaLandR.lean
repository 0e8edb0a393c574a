/- Contracts of layer 3's specification: whether a land is valid: Land, Check. -/
import Derived.Test.YtcoelhpmkhimpaaRefE
import Derived.Test.YtcoelhpmkhimpaaFrom
namespace Go.Proofs.Ytcoelhpmkhimpaa
open Go.RowKit
set_option linter.unusedVariables false
set_option linter.unusedSimpArgs false
set_option maxRecDepth 100000 in
set_option maxHeartbeats 16000000 in
/-- the legs of a land, from region 9 on -/
theorem land3Legs {w W2 : World} {wa la : Option Addr} {wn wc ln lc : Nat} {l : List Leg} {R : Bool} (hx : Ext w W2) (hl : W2.heap[w.heap.size]? = some (.cells #[.slice wa wn wc, .slice la ln lc] 33 (0, 0))) (hL : ∀ W, Ext w W → LegsAt W la ln l) (hlc : ln ≤ lc) (hlm : lc ≤ maxLen) (hwn : 1 ≤ wn ∧ wn ≤ 12) (hwc : wn ≤ wc) (hwm : wc ≤ maxLen) (hR : R = l.all (legOk wn))
    {u0 u2 u3 u4 u5 u6 u7 u8 u9 u10 u11 u12 u13 u14 u15 u16 u17 u18 u19 u20 u21 u22 u23 u24 u25 u26 u27 u28 u29 u30 u31 u32 u33 u34 u35 u36 u37 u38 u39 u40 u41 u42 u43 u44 u45 u46 u47 u48 u49 u50 u51 u52 u53 u54 u55 u56 u57 u58 u59 u60 u61 u62 u63 u64 u65 u66 u67 u68 u69 u70 u71 u72 u73 u74 u75 u76 u77 u78 u79 u80 u81 u82 u83 u84 u85 u86 u87 u88 u89 u90 u91 u92 u93 u94 u95 u96 u97 u98 u99 u100 u101 u102 u103 u104 u105 u106 u107 u108 u109 u110 u111 u112 u113 u114 u115 u116 u117 u118 u119 u120 u121 u122 u123 u124 u125 u126 u127 u128 u129 u130 u131 u132 u133 u134 u135 u136 u137 u138 u139 u140 u141 u142 u143 u144 u145 u146 u147 u148 u149 u150 u151 u152 u153 u154 u155 u156 u157 u158 u159 u160 u161 u162 u163 u164 : Value} :
    (restFrom Try.f87 9).wp Try.prog (bodyPost Try.prog Try.f87 fun e w' => e = .returned (.bool R) ∧ Ext w w') ⟨#[u0, .pointer (some ⟨w.heap.size, 0, none⟩), u2, u3, u4, u5, u6, u7, u8, u9, u10, u11, u12, u13, u14, u15, u16, u17, u18, u19, u20, u21, u22, u23, u24, u25, u26, u27, u28, u29, u30, u31, u32, u33, u34, u35, u36, u37, u38, u39, u40, u41, u42, u43, u44, u45, u46, u47, u48, u49, u50, u51, u52, u53, u54, u55, u56, u57, u58, u59, u60, u61, u62, u63, u64, u65, u66, u67, u68, u69, u70, u71, u72, u73, u74, u75, u76, u77, u78, u79, u80, u81, u82, u83, u84, u85, u86, u87, u88, u89, u90, u91, u92, u93, u94, u95, u96, u97, u98, u99, u100, u101, u102, u103, u104, u105, u106, u107, u108, u109, u110, u111, u112, u113, u114, u115, u116, u117, u118, u119, u120, u121, u122, u123, u124, u125, u126, u127, u128, u129, u130, u131, u132, u133, u134, u135, u136, u137, u138, u139, u140, u141, u142, u143, u144, u145, u146, u147, u148, u149, u150, u151, u152, u153, u154, u155, u156, u157, u158, u159, u160, u161, u162, u163, u164], []⟩ W2 := by
  have hll := (hL w (Ext.refl _)).1
  unfold maxLen at hlm hwm
  have hfalse : ∀ x ∈ l, legOk wn x = false → R = false := fun x hx h => by
    rw [hR, List.all_eq_false]
    exact ⟨x, hx, by rw [h]; simp⟩
  have htrue : l.all (legOk wn) = true → R = true := fun h => by rw [hR, h]
  clear hR
  have Hx := Lib.hid hx
  have Hl := Lib.hid hl
  have HL := Lib.hid hL
  have Hfalse := Lib.hid hfalse
  have Htrue := Lib.hid htrue
  have Hll := Lib.hid hll
  clear hx hl hL hfalse htrue hll
  conv => arg 2; whnf
  go_wp2_with fail
  go_loopw [5] (fun i wr => ∃ k : Nat, i = .int .i64 k ∧ k ≤ ln ∧ Ext W2 wr ∧ (l.take k).all (legOk wn) = true) (fun i _ => ln - (intOf i).toNat)
  case atStart => exact ⟨0, rfl, Nat.zero_le _, Ext.refl _, by simp⟩
  case round =>
    obtain ⟨k, rfl, hk, hxw, hall⟩ := hrel
    have hlx := hxw.heap Hl.out
    obtain ⟨z0, z1⟩ := (Ext.refl wr).box hlx
    have hxa := Hx.out.trans hxw
    by_cases hlt : k < ln
    · have hltB : decide ((k : Int) < (ln : Int)) = true := by simp; omega
      obtain ⟨b, off, x, ka, kn, kc, rfl, hxk, hb, c0, c1, c2, c3, c4, k1, k2, hG⟩ := (HL.out _ hxa).get k hlt
      have hF := Hfalse.out x (List.mem_of_getElem? hxk)
      have hT : legOk wn x = true → (l.take (k + 1)).all (legOk wn) = true := fun h => by
        rw [List.take_add_one, hxk, Option.toList_some, List.all_append, hall]
        simp [h]
      unfold maxLen at k2
      have hgl := hG.1
      have hdef : legOk wn x = ((inB x.frm 0 (wn - 1) && inB x.to 0 (wn - 1)) && !(x.frm == x.to) && spanOk x.long 1 1000000 && decide (kn ≤ 6) && gatesOk 0 x.gates) := by
        unfold legOk
        rw [hgl]
        rfl
      obtain ⟨fr, tw, ⟨l0, l1⟩, gs⟩ := x
      simp only at hdef hG hgl c0 c1 c2 c3
      generalize legOk wn ⟨fr, tw, ⟨l0, l1⟩, gs⟩ = Q at *
      obtain ⟨P1, e1⟩ : ∃ P, inB fr 0 (wn - 1) = P := ⟨_, rfl⟩
      obtain ⟨P2, e2⟩ : ∃ P, inB tw 0 (wn - 1) = P := ⟨_, rfl⟩
      obtain ⟨P3, e3⟩ : ∃ P, (fr == tw) = P := ⟨_, rfl⟩
      obtain ⟨P4, e4⟩ : ∃ P, spanOk ⟨l0, l1⟩ 1 1000000 = P := ⟨_, rfl⟩
      obtain ⟨P5, e5⟩ : ∃ P, decide (kn ≤ 6) = P := ⟨_, rfl⟩
      rw [e1, e2, e3, e4, e5] at hdef
      have h6 : decide ((6 : Int) < (kn : Int)) = !P5 := by rw [← e5, ← decide_not]; exact decide_eq_decide.2 (by omega)
      have h6' : decide (6 < kn) = !P5 := by rw [← e5, ← decide_not]; exact decide_eq_decide.2 (by omega)
      have E1 := Lib.hid e1
      have E2 := Lib.hid e2
      have E4 := Lib.hid e4
      have Hdef := Lib.hid hdef
      have HF := Lib.hid hF
      have HT := Lib.hid hT
      have HG := Lib.hid hG
      have Hgl := Lib.hid hgl
      have Hxk := Lib.hid hxk
      have Hall := Lib.hid hall
      have H6 := Lib.hid h6
      have H6' := Lib.hid h6'
      clear e1 e2 e4 hdef hF hT hG hgl hxk hall h6 h6'
      clear e5
      go_upto_region 13 with fail
      have hbx := heap_alloc_new wr (.cells #[.int .i64 fr, .int .i64 tw, .int .i64 l0, .int .i64 l1, .slice ka kn kc] 106)
      have hwx := (Ext.refl wr).alloc (.cells #[.int .i64 fr, .int .i64 tw, .int .i64 l0, .int .i64 l1, .slice ka kn kc] 106)
      replace hlx := hwx.heap hlx
      have hww := Lib.hid hxa
      clear hxa
      have hxa := hwx
      clear hwx
      generalize wr.alloc (.cells #[.int .i64 fr, .int .i64 tw, .int .i64 l0, .int .i64 l1, .slice ka kn kc] 106) = W4 at *
      generalize wr.heap.size = p6 at *
      have Hxw0 := Lib.hid hxw
      clear z0 z1 c0 c1 c2 c3 c4 hxw
      obtain ⟨f0, _⟩ := (Ext.refl _).box hbx
      obtain ⟨f1, _⟩ := (Ext.refl _).box hlx
      cases P1
      rotate_left
      cases P2
      rotate_left
      cases P3
      cases P4
      rotate_left
      cases P5
      rotate_left
      · have h6 := H6.out
        have h6' := H6'.out
        simp only [Bool.not_true] at h6 h6'
        have hdf := Hdef.out
        simp only [Bool.true_and, Bool.not_false] at hdf
        have Hdf := Lib.hid hdf
        clear hdf
        clear Hdef H6 H6'
        go_upto_region 16 with (first | (go_at_call 88; refine (within3_any _ _ _ _ (by first | exact E1.out | exact E2.out | exact E3.out | exact E5.out | exact E7.out) _).mono ?_; rintro e w1 ⟨rfl, rfl⟩) | (go_at_call 131; refine (spanned3_any _ _ _ _ _ (by first | exact E4.out | exact E6.out) _).mono ?_; rintro e w1 ⟨rfl, hx1⟩; replace hbx := hx1.heap hbx; replace hlx := hx1.heap hlx; replace hxa := hxa.trans hx1; clear hx1 f0 f1; obtain ⟨f0, _⟩ := (Ext.refl _).box hbx; obtain ⟨f1, _⟩ := (Ext.refl _).box hlx))
        clear f0 f1
        obtain ⟨V5, hV5⟩ : ∃ V, V = w1 := ⟨_, rfl⟩
        subst hV5
        have hy5 := Lib.hid hxa
        have hg5 := Lib.hid hlx
        have hb5 := Lib.hid hbx
        clear hxa hlx hbx
        go_wp2_with fail
        go_loopw [8, 7] (fun i z wr => ∃ (j : Nat) (q : Int), i = .int .i64 j ∧ z = .int .i64 q ∧ j ≤ kn ∧ Ext V5 wr ∧ -1 ≤ q ∧ q ≤ 100000 ∧ gatesOk 0 gs = gatesOk (q + 1) (gs.drop j)) (fun i _ _ => kn - (intOf i).toNat)
        case atStart => exact ⟨0, -1, rfl, rfl, Nat.zero_le _, Ext.refl _, by omega, by omega, rfl⟩
        case round =>
          obtain ⟨j, q, rfl, rfl, hj, hxv, hq0, hq1, hgk⟩ := hrel
          have hbx := hxv.heap hb5.out
          have hlx := hxv.heap hg5.out
          have hxa := hy5.out.trans hxv
          obtain ⟨f0, _⟩ := (Ext.refl _).box hbx
          obtain ⟨f1, _⟩ := (Ext.refl _).box hlx
          by_cases hlt2 : j < kn
          · have hlt2B : decide ((j : Int) < (kn : Int)) = true := by simp; omega
            obtain ⟨gb, go, g, rfl, hgg, hgb, c0, c1, c2, c3⟩ := (HG.out.ext hxa).get j hlt2
            rw [gates_drop hgg] at hgk
            obtain ⟨⟨a0, a1⟩, ⟨s0, s1⟩⟩ := g
            simp only at c0 c1 c2 c3 hgk
            obtain ⟨P8, e8⟩ : ∃ P, spanOk ⟨a0, a1⟩ 0 100000 = P := ⟨_, rfl⟩
            obtain ⟨P9, e9⟩ : ∃ P, spanOk ⟨s0, s1⟩ 0 100000 = P := ⟨_, rfl⟩
            have hin : inB a0 (q + 1) s1 = (!decide (s1 < a0) && !decide (a0 ≤ q)) := by
              unfold inB
              rw [← decide_not, ← decide_not, Bool.and_comm]
              congr 1
              · exact decide_eq_decide.2 (by omega)
              · exact decide_eq_decide.2 (by omega)
            obtain ⟨P10, e10⟩ : ∃ P, decide (s1 < a0) = P := ⟨_, rfl⟩
            obtain ⟨P11, e11⟩ : ∃ P, decide (a0 ≤ q) = P := ⟨_, rfl⟩
            rw [hin, e8, e9, e10, e11] at hgk
            have hs1 : P9 = true → 0 ≤ s1 ∧ s1 ≤ 100000 := fun h => by
              rw [h] at e9
              have := spanIs e9
              exact ⟨Int.le_trans this.low this.ord, this.top⟩
            have E8 := Lib.hid e8
            have E9 := Lib.hid e9
            have Hgk := Lib.hid hgk
            have Hs1 := Lib.hid hs1
            clear e8 e9 hgk hs1
            clear hgg hin
            go_upto_region 20 with fail
            clear f0 f1 hbx hlx
            have hbx := heap_alloc_new wr (.cells #[.int .i64 a0, .int .i64 a1, .int .i64 s0, .int .i64 s1] 177)
            have hwx := (Ext.refl wr).alloc (.cells #[.int .i64 a0, .int .i64 a1, .int .i64 s0, .int .i64 s1] 177)
            have hx0 := Lib.hid hxv
            clear hxa hxv
            have hxa := hwx
            clear hwx
            generalize wr.alloc (.cells #[.int .i64 a0, .int .i64 a1, .int .i64 s0, .int .i64 s1] 177) = W7 at *
            generalize wr.heap.size = p9 at *
            clear c0 c1 c2 c3
            obtain ⟨f0, _⟩ := (Ext.refl _).box hbx
            cases P8
            rotate_left
            cases P9
            rotate_left
            cases P10
            cases P11
            · have hs := Hs1.out rfl
              have hgn := Hgk.out
              simp only [Bool.true_and, Bool.not_false] at hgn
              have Hgn := Lib.hid hgn
              clear hgn
              clear Hgk
              go_wp2_with (first | (go_at_call 88; refine (within3_any _ _ _ _ (by first | exact E1.out | exact E2.out | exact E3.out | exact E5.out | exact E7.out) _).mono ?_; rintro e w1 ⟨rfl, rfl⟩) | (go_at_call 131; refine (spanned3_any _ _ _ _ _ (by first | exact E8.out | exact E9.out) _).mono ?_; rintro e w1 ⟨rfl, hx1⟩; replace hbx := hx1.heap hbx; replace hxa := hxa.trans hx1; clear hx1 f0; obtain ⟨f0, _⟩ := (Ext.refl _).box hbx))
              go_roundw
              case rel => exact ⟨j + 1, s1, by go_num, rfl, by omega, hx0.out.trans hxa, by omega, by omega, Hgn.out⟩
              case measure => simp [intOf]; omega
            all_goals
              have hQ : Q = false := by rw [Hdf.out, Hgk.out]; simp
              obtain rfl := HF.out hQ
              clear Hgk
              go_wp2_with (first | (go_at_call 88; refine (within3_any _ _ _ _ (by first | exact E1.out | exact E2.out | exact E3.out | exact E5.out | exact E7.out) _).mono ?_; rintro e w1 ⟨rfl, rfl⟩) | (go_at_call 131; refine (spanned3_any _ _ _ _ _ (by first | exact E8.out | exact E9.out) _).mono ?_; rintro e w1 ⟨rfl, hx1⟩; replace hbx := hx1.heap hbx; replace hxa := hxa.trans hx1; clear hx1 f0; obtain ⟨f0, _⟩ := (Ext.refl _).box hbx))
              go_ret
              exact ⟨rfl, hww.out.trans ((hy5.out.trans hx0.out).trans hxa)⟩
          · have hlt2B : decide ((j : Int) < (kn : Int)) = false := by simp; omega
            have hQ : Q = true := by
              rw [Hdf.out, hgk, List.drop_of_length_le (by have := Hgl.out; omega)]
              rfl
            have hA := HT.out hQ
            have hxn := Hxw0.out.trans (hy5.out.trans hxv)
            have HA := Lib.hid hA
            have Hxn := Lib.hid hxn
            clear hA hxn
            clear hgk hxa hbx hlx
            go_wp2_with fail
            go_roundw
            case rel => exact ⟨k + 1, by go_num, by omega, Hxn.out, HA.out⟩
            case measure => simp [intOf]; omega
      all_goals
        have hQ : Q = false := by rw [Hdef.out]; simp
        obtain rfl := HF.out hQ
        have h6 := H6.out
        have h6' := H6'.out
        try simp only [Bool.not_false, Bool.not_true] at h6 h6'
        clear Hdef HF HT H6 H6'
        go_wp2_with (first | (go_at_call 88; refine (within3_any _ _ _ _ (by first | exact E1.out | exact E2.out | exact E3.out | exact E5.out | exact E7.out) _).mono ?_; rintro e w1 ⟨rfl, rfl⟩) | (go_at_call 131; refine (spanned3_any _ _ _ _ _ (by first | exact E4.out | exact E6.out) _).mono ?_; rintro e w1 ⟨rfl, hx1⟩; replace hbx := hx1.heap hbx; replace hlx := hx1.heap hlx; replace hxa := hxa.trans hx1; clear hx1 f0 f1; obtain ⟨f0, _⟩ := (Ext.refl _).box hbx; obtain ⟨f1, _⟩ := (Ext.refl _).box hlx))
        go_ret
        exact ⟨rfl, hww.out.trans hxa⟩
    · have hltB : decide ((k : Int) < (ln : Int)) = false := by simp; omega
      obtain rfl := Htrue.out (by rw [List.take_of_length_le (by have := Hll.out; omega)] at hall; exact hall)
      have Hxa := Lib.hid hxa
      clear hxa
      clear hall hlx
      go_wp2_with fail
      go_ret
      exact ⟨rfl, Hxa.out⟩
set_option maxRecDepth 100000 in
set_option maxHeartbeats 16000000 in
theorem land3_any (wa : Option Addr) (wn wc : Nat) (la : Option Addr) (ln lc : Nat) (l : Land) (w : World) (h : LandAt w wa wn wc la ln lc l) : Calls Try.prog 87 #[.agg #[.slice wa wn wc, .slice la ln lc]] w fun e w' => e = .returned (.bool (landOk l)) ∧ Ext w w' := by
  have hb0 := heap_alloc_new w (.cells #[.slice wa wn wc, .slice la ln lc] 33)
  have hx0 : Ext w (w.alloc (.cells #[.slice wa wn wc, .slice la ln lc] 33)) := (Ext.refl w).alloc _
  obtain ⟨W0, hW0⟩ : ∃ W0, w.alloc (.cells #[.slice wa wn wc, .slice la ln lc] 33) = W0 := ⟨_, rfl⟩
  rw [hW0] at hb0 hx0
  obtain ⟨ws, ls⟩ := l
  obtain ⟨hws, hls, c1, c2, c3, c4, n1, n2⟩ := h
  have hwl := hws.1
  have hll := (hls.1 : ls.length = ln)
  simp only at hwl hws hls
  have hdef : landOk ⟨ws, ls⟩ = (decide (1 ≤ wn) && decide (wn ≤ 12) && decide (ln ≤ 24) && ws.all wellOk && ls.all (legOk wn)) := by unfold landOk; simp only; rw [hwl, hll]
  obtain ⟨R, hR⟩ : ∃ R, landOk ⟨ws, ls⟩ = R := ⟨_, rfl⟩
  rw [hR] at hdef ⊢
  have hLS := fun W (hW : Ext w W) => hls.ext hW
  have hWS := fun W (hW : Ext w W) => hws.ext hW
  clear hR hws hls
  obtain ⟨z0, z1⟩ := (Ext.refl W0).box hb0
  have c2' := c2
  have c4' := c4
  unfold maxLen at c2 c4
  obtain ⟨P, hP⟩ : ∃ P, inB (wn : Int) 1 12 = P := ⟨_, rfl⟩
  have hP' : P = (decide (1 ≤ wn) && decide (wn ≤ 12)) := by
    rw [← hP]
    unfold inB
    congr 1
    · exact decide_eq_decide.2 (by omega)
    · exact decide_eq_decide.2 (by omega)
  rw [← hP'] at hdef
  have e1 := hP
  have E1 := Lib.hid e1
  have Hdef := Lib.hid hdef
  have HLS := Lib.hid hLS
  have HWS := Lib.hid hWS
  have Hb0 := Lib.hid hb0
  have Hx0 := Lib.hid hx0
  have Hwl := Lib.hid hwl
  have Hll := Lib.hid hll
  clear e1 hdef hLS hWS hb0 hx0 hwl hll
  cases P
  · obtain rfl : R = false := by rw [Hdef.out]; simp
    clear hP hP'
    go_enter Try.func87, Try.ntmps87
    go_wp2_with (go_at_call 88; refine (within3_any _ _ _ _ (by exact E1.out) _).mono ?_; rintro e w1 ⟨rfl, rfl⟩)
    go_ret
    exact ⟨rfl, Hx0.out⟩
  have hwn : 1 ≤ wn ∧ wn ≤ 12 := by
    have := hP'.symm
    simp only [Bool.and_eq_true, decide_eq_true_eq] at this
    exact this
  clear hP hP'
  by_cases h24 : 24 < ln
  · have h24B : decide (24 < (ln : Int)) = true := by simp; omega
    obtain rfl : R = false := by rw [Hdef.out, decide_eq_false (show ¬ln ≤ 24 by omega)]; simp
    clear h24
    go_enter Try.func87, Try.ntmps87
    go_wp2_with (go_at_call 88; refine (within3_any _ _ _ _ (by exact E1.out) _).mono ?_; rintro e w1 ⟨rfl, rfl⟩)
    go_ret
    exact ⟨rfl, Hx0.out⟩
  have h24B : decide (24 < (ln : Int)) = false := by simp; omega
  have hdf : R = (ws.all wellOk && ls.all (legOk wn)) := by rw [Hdef.out, decide_eq_true (show ln ≤ 24 by omega)]; simp
  have hfalse : ∀ x ∈ ws, wellOk x = false → R = false := fun x hx h => by
    rw [hdf, show ws.all wellOk = false by rw [List.all_eq_false]; exact ⟨x, hx, by rw [h]; simp⟩]
    rfl
  have hrest : ws.all wellOk = true → R = ls.all (legOk wn) := fun h => by rw [hdf, h]; rfl
  clear h24 hdf Hdef
  have Hfalse := Lib.hid hfalse
  have Hrest := Lib.hid hrest
  clear hfalse hrest
  go_enter Try.func87, Try.ntmps87
  go_upto_region 4 with (go_at_call 88; refine (within3_any _ _ _ _ (by exact E1.out) _).mono ?_; rintro e w1 ⟨rfl, rfl⟩)
  clear z0 z1 E1
  go_loopw [3] (fun i wr => ∃ k : Nat, i = .int .i64 k ∧ k ≤ wn ∧ Ext w1 wr ∧ (ws.take k).all wellOk = true) (fun i _ => wn - (intOf i).toNat)
  case atStart => exact ⟨0, rfl, Nat.zero_le _, Ext.refl _, by simp⟩
  case round =>
    obtain ⟨k, rfl, hk, hxw, hall⟩ := hrel
    have hlx := hxw.heap Hb0.out
    obtain ⟨z0, z1⟩ := (Ext.refl wr).box hlx
    have hxa0 := Hx0.out.trans hxw
    by_cases hlt : k < wn
    · have hltB : decide ((k : Int) < (wn : Int)) = true := by simp; omega
      obtain ⟨b, off, x, rfl, hxk, hb, c0, d1, d2, d3, d4, d5, d6, d7, d8⟩ := (HWS.out _ hxa0).get k hlt
      have hF := Hfalse.out x (List.mem_of_getElem? hxk)
      have hT : wellOk x = true → (ws.take (k + 1)).all wellOk = true := fun h => by
        rw [List.take_add_one, hxk, Option.toList_some, List.all_append, hall]
        simp [h]
      obtain ⟨qx, qy, dp, ⟨y0, y1⟩, rm, ⟨a0, a1⟩, ow⟩ := x
      have hdef : wellOk ⟨qx, qy, dp, ⟨y0, y1⟩, rm, ⟨a0, a1⟩, ow⟩ = ((inB qx (-10000000) 10000000 && inB qy (-10000000) 10000000) && inB dp 0 200 && spanOk ⟨y0, y1⟩ 0 10000000 && inB rm 0 1000000000 && spanOk ⟨a0, a1⟩ 0 rm && inB ow 0 9999) := rfl
      generalize wellOk ⟨qx, qy, dp, ⟨y0, y1⟩, rm, ⟨a0, a1⟩, ow⟩ = Q at *
      simp only at c0 d1 d2 d3 d4 d5 d6 d7 d8
      obtain ⟨P1, e1⟩ : ∃ P, inB qx (-10000000) 10000000 = P := ⟨_, rfl⟩
      obtain ⟨P2, e2⟩ : ∃ P, inB qy (-10000000) 10000000 = P := ⟨_, rfl⟩
      obtain ⟨P3, e3⟩ : ∃ P, inB dp 0 200 = P := ⟨_, rfl⟩
      obtain ⟨P4, e4⟩ : ∃ P, spanOk ⟨y0, y1⟩ 0 10000000 = P := ⟨_, rfl⟩
      obtain ⟨P5, e5⟩ : ∃ P, inB rm 0 1000000000 = P := ⟨_, rfl⟩
      obtain ⟨P6, e6⟩ : ∃ P, spanOk ⟨a0, a1⟩ 0 rm = P := ⟨_, rfl⟩
      obtain ⟨P7, e7⟩ : ∃ P, inB ow 0 9999 = P := ⟨_, rfl⟩
      rw [e1, e2, e3, e4, e5, e6, e7] at hdef
      have E1 := Lib.hid e1
      have E2 := Lib.hid e2
      have E3 := Lib.hid e3
      have E4 := Lib.hid e4
      have E5 := Lib.hid e5
      have E6 := Lib.hid e6
      have E7 := Lib.hid e7
      have Hdef := Lib.hid hdef
      have HF := Lib.hid hF
      have HT := Lib.hid hT
      have Hxa0 := Lib.hid hxa0
      have Hall := Lib.hid hall
      clear e1 e2 e3 e4 e5 e6 e7 hdef hF hT hxa0 hall
      clear hxk
      go_upto_region 7 with fail
      have hbx := heap_alloc_new wr (.cells #[.int .i64 qx, .int .i64 qy, .int .i64 dp, .int .i64 y0, .int .i64 y1, .int .i64 rm, .int .i64 a0, .int .i64 a1, .int .i64 ow] 131)
      have hxa := (Ext.refl wr).alloc (.cells #[.int .i64 qx, .int .i64 qy, .int .i64 dp, .int .i64 y0, .int .i64 y1, .int .i64 rm, .int .i64 a0, .int .i64 a1, .int .i64 ow] 131)
      generalize wr.alloc (.cells #[.int .i64 qx, .int .i64 qy, .int .i64 dp, .int .i64 y0, .int .i64 y1, .int .i64 rm, .int .i64 a0, .int .i64 a1, .int .i64 ow] 131) = W4 at *
      generalize wr.heap.size = p4 at *
      clear z0 z1 c0 d1 d2 d3 d4 d5 d6 d7 d8
      have hxw' := Lib.hid hxw
      clear hxw hlx
      obtain ⟨f0, _⟩ := (Ext.refl _).box hbx
      cases P1
      rotate_left
      cases P2
      rotate_left
      cases P3
      rotate_left
      cases P4
      rotate_left
      cases P5
      rotate_left
      cases P6
      rotate_left
      cases P7
      rotate_left
      · have hQ : Q = true := by rw [Hdef.out]; rfl
        have hA := HT.out hQ
        have HA := Lib.hid hA
        clear hA
        clear Hdef HF HT
        go_wp2_with (first | (go_at_call 88; refine (within3_any _ _ _ _ (by first | exact E1.out | exact E2.out | exact E3.out | exact E5.out | exact E7.out) _).mono ?_; rintro e w1 ⟨rfl, rfl⟩) | (go_at_call 131; refine (spanned3_any _ _ _ _ _ (by first | exact E4.out | exact E6.out) _).mono ?_; rintro e w1 ⟨rfl, hx1⟩; replace hbx := hx1.heap hbx; replace hxa := hxa.trans hx1; clear hx1 f0; obtain ⟨f0, _⟩ := (Ext.refl _).box hbx))
        go_roundw
        case rel => exact ⟨k + 1, by go_num, by omega, hxw'.out.trans hxa, HA.out⟩
        case measure => simp [intOf]; omega
      all_goals
        have hQ : Q = false := by rw [Hdef.out]; simp
        obtain rfl := HF.out hQ
        clear Hdef HF HT
        go_wp2_with (first | (go_at_call 88; refine (within3_any _ _ _ _ (by first | exact E1.out | exact E2.out | exact E3.out | exact E5.out | exact E7.out) _).mono ?_; rintro e w1 ⟨rfl, rfl⟩) | (go_at_call 131; refine (spanned3_any _ _ _ _ _ (by first | exact E4.out | exact E6.out) _).mono ?_; rintro e w1 ⟨rfl, hx1⟩; replace hbx := hx1.heap hbx; replace hxa := hxa.trans hx1; clear hx1 f0; obtain ⟨f0, _⟩ := (Ext.refl _).box hbx))
        go_ret
        exact ⟨rfl, Hxa0.out.trans hxa⟩
    · have hltB : decide ((k : Int) < (wn : Int)) = false := by simp; omega
      have hre := Hrest.out (by rw [List.take_of_length_le (by have := Hwl.out; omega)] at hall; exact hall)
      have Hre := Lib.hid hre
      have Hxa0 := Lib.hid hxa0
      clear hre hxa0
      have hlx' := Lib.hid hlx
      clear hall hlx
      go_upto_if 25 with fail
      iterate 6 go_step
      exact land3Legs Hxa0.out hlx'.out HLS.out c3 c4' hwn c1 c2' Hre.out
def checkErr3 (l : Land) : Int := if landOk l then 0 else 30
theorem check3_any (wa : Option Addr) (wn wc : Nat) (la : Option Addr) (ln lc : Nat) (l : Land) (w : World) (h : LandAt w wa wn wc la ln lc l) : Calls Try.prog 33 #[.agg #[.slice wa wn wc, .slice la ln lc]] w fun e w' => e = .returned (.int .i64 (checkErr3 l)) ∧ Ext w w' := by
  have hx1 : Ext w (w.alloc (.cells #[.slice wa wn wc, .slice la ln lc] 33)) := (Ext.refl _).alloc _
  have hb1 := heap_alloc_new w (.cells #[.slice wa wn wc, .slice la ln lc] 33)
  obtain ⟨W0, hW0⟩ : ∃ W0, w.alloc (.cells #[.slice wa wn wc, .slice la ln lc] 33) = W0 := ⟨_, rfl⟩
  rw [hW0] at hb1 hx1
  have hla := fun W (hW : Ext w W) => land3_any wa wn wc la ln lc l W (h.ext hW)
  obtain ⟨z0, z1⟩ := (Ext.refl W0).box hb1
  unfold checkErr3
  generalize landOk l = R at *
  have Hla := Lib.hid hla
  have Hx1 := Lib.hid hx1
  have Hb1 := Lib.hid hb1
  clear hla hx1 hb1
  cases R
  · go_enter Try.func33, Try.ntmps33
    go_wp2_with (first | (refine wpList_load_row rfl 33 (.tmp 1) rfl w.heap.size rfl 33 _ (0, 0) _ Hb1.out Try.underlying33 rfl (by kernel_rfl) ?_) | (go_at_call 87; refine (Hla.out _ Hx1.out).mono ?_; rintro e w1 ⟨rfl, hx2⟩))
    go_ret
    exact ⟨rfl, Hx1.out.trans hx2⟩
  · go_enter Try.func33, Try.ntmps33
    go_wp2_with (first | (refine wpList_load_row rfl 33 (.tmp 1) rfl w.heap.size rfl 33 _ (0, 0) _ Hb1.out Try.underlying33 rfl (by kernel_rfl) ?_) | (go_at_call 87; refine (Hla.out _ Hx1.out).mono ?_; rintro e w1 ⟨rfl, hx2⟩))
    go_ret
    exact ⟨rfl, Hx1.out.trans hx2⟩
end Go.Proofs.Ytcoelhpmkhimpaa
