/- TopStage: the loop over the stops. -/
import Derived.Test.YtcoelhpmkhimpaaStageD
namespace Go.Proofs.Ytcoelhpmkhimpaa
open Go.RowKit
set_option linter.unusedVariables false
set_option linter.unusedSimpArgs false
set_option maxRecDepth 100000 in
set_option maxHeartbeats 8000000 in
theorem stageTail {w W2 : World} (s : Breed) (c : Camel) (m : March) (l : Land) (p : Span) {wa la ga sa : Option Addr} {wn wc ln lc gn gc sc : Nat} (ss : List Stop)
    (hx : Ext w W2) (hb : W2.heap[w.heap.size]? = some (.cells s.cells.toArray 25 (0, 0))) (hc : W2.heap[w.heap.size + 1]? = some (.cells c.cells.toArray 27 (0, 0))) (hm : W2.heap[w.heap.size + 1 + 1]? = some (.cells m.cells.toArray 29 (0, 0))) (hl : W2.heap[w.heap.size + 1 + 1 + 1]? = some (.cells #[.slice wa wn wc, .slice la ln lc] 33 (0, 0))) (hp : W2.heap[w.heap.size + 1 + 1 + 1 + 1]? = some (.cells #[.int .i64 p.lo, .int .i64 p.hi] 23 (0, 0)))
    (hL : ∀ W, Ext w W → LandAt W wa wn wc la ln lc l) (hst : StopsAt W2 sa gn ss) (hsf : ∀ x, sa = some x → x.block ≠ w.heap.size + 1) (hsc : gn ≤ sc) (hsm : sc ≤ maxLen) (hgn : gn ≤ 24) (hbo : breedOk s = true) (hco : camelOk s c = true) (hdo : dayOk m = true) (ho : openErr l p = 0) (hS : ∀ x ∈ ss, StopOk l p x)
    {u0 u1 u2 u3 u4 u5 u6 u12 u13 u15 u16 u19 u20 u21 u22 u23 u24 u25 u26 u27 u28 u29 u30 u31 u32 u33 u34 u35 u36 u37 u38 u39 u40 u41 u42 u43 u44 u45 u46 u47 u48 u49 u50 u51 u52 u53 u54 u55 u56 u57 u58 u59 u60 u61 u62 u63 u64 u65 u66 u67 u68 u69 u70 u71 u72 u73 u74 u75 u76 u77 u78 u79 u80 u81 u82 u83 u84 u85 u86 u87 u88 u89 u90 u91 u92 u93 u94 u95 u96 u97 u98 u99 u100 u101 u102 u103 u104 u105 u106 u107 u108 u109 u110 u111 u112 u113 u114 u115 u116 u117 u118 u119 u120 u121 u122 u123 u124 u125 u126 u127 u128 u129 u130 u131 u132 u133 u134 u135 u136 u137 u138 u139 u140 u141 u142 u143 u144 u145 u146 u147 u148 u149 u150 u151 u152 u153 u154 u155 u156 u157 u158 u159 u160 u161 u162 u163 u164 u165 u166 u167 u168 u169 u170 u171 u172 u173 u174 u175 u176 u177 u178 u179 u180 u181 u182 u183 u184 u185 u186 u187 u188 : Value} :
    (restFrom Try.f3 9).wp Try.prog (bodyPost Try.prog Try.f3 fun e w' => e = .returned (.bool true) ∧ Ext w w')
      ⟨#[u0, u1, u2, u3, u4, u5, u6, .slice ga gn gc, .pointer (some ⟨w.heap.size, 0, none⟩), .pointer (some ⟨w.heap.size + 1, 0, none⟩), .pointer (some ⟨w.heap.size + 1 + 1, 0, none⟩), .pointer (some ⟨w.heap.size + 1 + 1 + 1, 0, none⟩), u12, u13, .pointer (some ⟨w.heap.size + 1 + 1 + 1 + 1, 0, none⟩), u15, u16, .bool true, .slice sa gn sc, u19, u20, u21, u22, u23, u24, u25, u26, u27, u28, u29, u30, u31, u32, u33, u34, u35, u36, u37, u38, u39, u40, u41, u42, u43, u44, u45, u46, u47, u48, u49, u50, u51, u52, u53, u54, u55, u56, u57, u58, u59, u60, u61, u62, u63, u64, u65, u66, u67, u68, u69, u70, u71, u72, u73, u74, u75, u76, u77, u78, u79, u80, u81, u82, u83, u84, u85, u86, u87, u88, u89, u90, u91, u92, u93, u94, u95, u96, u97, u98, u99, u100, u101, u102, u103, u104, u105, u106, u107, u108, u109, u110, u111, u112, u113, u114, u115, u116, u117, u118, u119, u120, u121, u122, u123, u124, u125, u126, u127, u128, u129, u130, u131, u132, u133, u134, u135, u136, u137, u138, u139, u140, u141, u142, u143, u144, u145, u146, u147, u148, u149, u150, u151, u152, u153, u154, u155, u156, u157, u158, u159, u160, u161, u162, u163, u164, u165, u166, u167, u168, u169, u170, u171, u172, u173, u174, u175, u176, u177, u178, u179, u180, u181, u182, u183, u184, u185, u186, u187, u188], []⟩ W2 := by
  have hwd := fun W (hW : Ext w W) (g : Int) => wdays_any wa wn wc la ln lc l g p W (hL W hW)
  have hsp := stretch_any
  have hbi := breedIs hbo
  have hda := dayIs hdo
  have hnB : ((gn : Int) != (gn : Int)) = false := by simp
  have hpl := heap_lt hp
  unfold maxLen at hsm
  obtain ⟨p0, p1⟩ := p
  unfold Span.val at hwd
  simp only at hwd hp
  have hco' := camelIs.1 hco
  have Hx := Lib.hid hx
  have Hb := Lib.hid hb
  have Hc := Lib.hid hc
  have Hm := Lib.hid hm
  have Hl := Lib.hid hl
  have Hp := Lib.hid hp
  have HL := Lib.hid hL
  have Hst := Lib.hid hst
  have Hsf := Lib.hid hsf
  have Hbo := Lib.hid hbo
  have Hdo := Lib.hid hdo
  have Ho := Lib.hid ho
  have HS := Lib.hid hS
  have Hwd := Lib.hid hwd
  have Hsp := Lib.hid hsp
  have Hbi := Lib.hid hbi
  have Hda := Lib.hid hda
  have Hco' := Lib.hid hco'
  clear hx hb hc hm hl hp hL hst hsf hbo hdo ho hS hwd hsp hbi hda hco'
  clear hco
  conv => arg 2; whnf
  go_wp2_with fail
  go_loopw [79] (fun i wr => ∃ (k : Nat) (q : Camel), i = .int .i64 k ∧ k ≤ gn ∧ CamelOk s q ∧ StIn W2 (w.heap.size + 1) q wr) (fun i _ => gn - (intOf i).toNat)
  case atStart => exact ⟨0, c, rfl, by omega, Hco'.out, ⟨But.refl _ _, Hc.out⟩⟩
  case round =>
    obtain ⟨k, q, rfl, hk, hq, hD⟩ := hrel
    have hxw := But.ext Hx.out hD.but (fun b hb => by omega)
    by_cases hlt : k < gn
    · have hltB : decide ((k : Int) < (gn : Int)) = true := by simp; omega
      have hsw : StopsAt wr sa gn ss := ⟨Hst.out.1, Hst.out.2.but hD.but Hsf.out⟩
      obtain ⟨sb, so, x, rfl, hxk, hsb, c0, c1, c2, c3, c4, c5⟩ := hsw.get k hlt
      have hSx := HS.out x (List.mem_of_getElem? hxk)
      have hwo := wdays_ok Ho.out hSx
      have hle := leg_is Ho.out hSx
      have hhi := hSx.high
      have hlo := hSx.low
      have hz0 := hSx.zero
      have hz1 := hSx.ord
      have hz2 := hSx.top
      have hwd := fun W hW => Hwd.out W hW x.leg
      rw [hwo.1, hwo.2] at hwd
      obtain ⟨g, e, ⟨l0, l1⟩, ⟨a0, a1⟩⟩ := x
      simp only at hwd hle hhi hlo hz0 hz1 hz2 c0 c1 c2 c3 c4 c5
      generalize legDays (legAt l g) ⟨p0, p1⟩ = N at *
      obtain ⟨n0, n1⟩ := N
      simp only at hwd hle hhi hlo
      have hask := ask_ok Hbo.out (camelIs.2 hq) (l := [m]) (by simp) (by simpa using Hdo.out)
      have hlv := lasts_val Hbo.out (camelIs.2 hq) Hdo.out
      have hla := fun W => lasts_any s q m W
      unfold LastsPost at hla
      rw [hlv, Breed.val_eq, Camel.val_eq, March.val_eq] at hla
      have hlb := lasts_le s m 60 q
      have hlives := fun h => @lasts_days s m Hbi.out Hda.out n1.toNat 60 q hq h
      obtain ⟨L, hL0⟩ : ∃ L, lastsOf s m q 60 = L := ⟨_, rfl⟩
      rw [hL0] at hla hlb hlives
      obtain ⟨L0, L1⟩ := L
      unfold Span.val at hla
      have hb1 := hD.but.block _ _ Hb.out (by omega)
      have hm1 := hD.but.block _ _ Hm.out (by omega)
      have hl1 := hD.but.block _ _ Hl.out (by omega)
      have hp1 := hD.but.block _ _ Hp.out (by omega)
      have hc1 := hD.at'
      simp only at hla hlb hlives
      have Hwd := Lib.hid hwd
      have Hla := Lib.hid hla
      have Hlives := Lib.hid hlives
      have HD := Lib.hid hD
      have Hq := Lib.hid hq
      have Hxw := Lib.hid hxw
      have Hask := Lib.hid hask
      clear hwd hla hlives hD hq hxw hask
      clear hsw hSx hwo hlv hL0 hxk
      go_upto_region 14 with fail
      have hv1 := (Ext.refl wr).alloc (.cells #[.int .i64 g, .int .i64 e, .int .i64 l0, .int .i64 l1, .int .i64 a0, .int .i64 a1] 44)
      have hp22 := heap_alloc_new wr (.cells #[.int .i64 g, .int .i64 e, .int .i64 l0, .int .i64 l1, .int .i64 a0, .int .i64 a1] 44)
      generalize wr.alloc (.cells #[.int .i64 g, .int .i64 e, .int .i64 l0, .int .i64 l1, .int .i64 a0, .int .i64 a1] 44) = V1 at *
      generalize wr.heap.size = p22 at *
      have hb2 := hv1.heap hb1
      have hm2 := hv1.heap hm1
      have hl2 := hv1.heap hl1
      have hp2 := hv1.heap hp1
      have hc2 := hv1.heap hc1
      have hx2 := Hxw.out.trans hv1
      have hD2 := HD.out.next hv1
      obtain ⟨z22, _⟩ := (Ext.refl V1).box hp22
      obtain ⟨z14, _⟩ := (Ext.refl V1).box hp2
      have h22l := heap_lt hp22
      have Hp22 := Lib.hid hp22
      have Hb2 := Lib.hid hb2
      have Hm2 := Lib.hid hm2
      have Hl2 := Lib.hid hl2
      have Hp2 := Lib.hid hp2
      have Hc2 := Lib.hid hc2
      have Hx2 := Lib.hid hx2
      have HD2 := Lib.hid hD2
      clear hp22 hb2 hm2 hl2 hp2 hc2 hx2 hD2
      clear hb1 hm1 hl1 hp1 hc1 hv1 c0 c1 c2 c3 c4 c5 HD Hxw
      go_upto_region 15 with (first | (refine wpList_load_row rfl 33 (.tmp 11) rfl (w.heap.size + 1 + 1 + 1) rfl 33 _ (0, 0) _ Hl2.out Try.underlying33 rfl (by kernel_rfl) ?_) | (go_at_call 13; refine (Hwd.out _ Hx2.out).mono ?_; rintro er v3 ⟨rfl, hx3⟩))
      have hv3 := hx3.alloc (.cells #[.int .i64 n0, .int .i64 n1] 23)
      have hp23 := heap_alloc_new v3 (.cells #[.int .i64 n0, .int .i64 n1] 23)
      generalize v3.alloc (.cells #[.int .i64 n0, .int .i64 n1] 23) = V3 at *
      generalize v3.heap.size = p23 at *
      have hb3 := hv3.heap Hb2.out
      have hm3 := hv3.heap Hm2.out
      have hc3 := hv3.heap Hc2.out
      have hq3 := hv3.heap Hp22.out
      have hx4 := Hx2.out.trans hv3
      have hD4 := HD2.out.next hv3
      have Hp23 := Lib.hid hp23
      have Hb3 := Lib.hid hb3
      have Hm3 := Lib.hid hm3
      have Hc3 := Lib.hid hc3
      have Hq3 := Lib.hid hq3
      have Hx4 := Lib.hid hx4
      have HD4 := Lib.hid hD4
      clear hp23 hb3 hm3 hc3 hq3 hx4 hD4
      clear z22 z14 h22l hx3 hv3 Hb2 Hm2 Hl2 Hp2 Hc2 Hx2 Hp22 HD2 Hwd
      go_upto_region 16 with (first | (refine wpList_load_row rfl 25 (.tmp 8) rfl w.heap.size rfl 25 _ (0, 0) _ Hb3.out Try.underlying25 rfl (by kernel_rfl) ?_) | (refine wpList_load_row rfl 27 (.tmp 9) rfl (w.heap.size + 1) rfl 27 _ (0, 0) _ Hc3.out Try.underlying27 rfl (by kernel_rfl) ?_) | (refine wpList_load_row rfl 29 (.tmp 10) rfl (w.heap.size + 1 + 1) rfl 29 _ (0, 0) _ Hm3.out Try.underlying29 rfl (by kernel_rfl) ?_) | (go_at_call 14; refine (Hla.out _).mono ?_; rintro er v5 ⟨rfl, hx5⟩))
      have hv5 := hx5.alloc (.cells #[.int .i64 L0, .int .i64 L1] 23)
      have hp25 := heap_alloc_new v5 (.cells #[.int .i64 L0, .int .i64 L1] 23)
      generalize v5.alloc (.cells #[.int .i64 L0, .int .i64 L1] 23) = V5 at *
      generalize v5.heap.size = p25 at *
      have hb5 := hv5.heap Hb3.out
      have hm5 := hv5.heap Hm3.out
      have hd5 := hv5.heap Hp23.out
      have hq5 := hv5.heap Hq3.out
      have hx6 := Hx4.out.trans hv5
      have hD6 := HD4.out.next hv5
      obtain ⟨z22, _⟩ := (Ext.refl V5).box hq5
      obtain ⟨z23, _⟩ := (Ext.refl V5).box hd5
      obtain ⟨z25, _⟩ := (Ext.refl V5).box hp25
      have hhB : (a1 - l1 != n1) = false := by rw [hhi]; simp
      have hlB : (a0 - l0 != n0) = false := by rw [hlo]; simp
      have hn1B : decide (n0 < 1) = false := by simp; omega
      have hn2B : decide (n1 < n0) = false := by simp; omega
      have Hp25 := Lib.hid hp25
      have Hb5 := Lib.hid hb5
      have Hm5 := Lib.hid hm5
      have Hd5 := Lib.hid hd5
      have Hq5 := Lib.hid hq5
      have Hx6 := Lib.hid hx6
      have HD6 := Lib.hid hD6
      clear hp25 hb5 hm5 hd5 hq5 hx6 hD6
      clear hx5 hv5 Hb3 Hm3 Hc3 Hq3 Hx4 HD4 Hp23 Hla
      by_cases hdn : (L0 : Int) < n1
      · have hdB : decide ((L0 : Int) < n1) = true := decide_eq_true hdn
        go_wp2_with fail
        go_ret
        exact ⟨rfl, Hx6.out⟩
      · have hdB : decide ((L0 : Int) < n1) = false := decide_eq_false hdn
        obtain ⟨n, rfl⟩ : ∃ n : Nat, n1 = (n : Int) + 1 := ⟨(n1 - 1).toNat, by omega⟩
        have hlv := Hlives.out (by omega)
        rw [show ((n : Int) + 1).toNat = n + 1 by omega] at hlv
        obtain ⟨ll, hl1, hl2, hl3⟩ := hlv
        go_upto_if 142 with fail
        iterate 4 go_step
        refine stageDays s q m ll HD6.out Hx6.out Hb5.out Hm5.out Hd5.out (by omega) Hbo.out Hq.out Hdo.out hl1 hl2 hl3 ?_
        intro q' W' hq' hS'
        intros
        have Hq' := Lib.hid hq'
        have HS' := Lib.hid hS'
        clear hq' hS' hl1 hl2 hl3
        dsimp only
        go_wp2_with fail
        go_roundw
        case rel => exact ⟨k + 1, q', by go_num, by omega, Hq'.out, HS'.out⟩
        case measure => simp [intOf]; omega
    · have hltB : decide ((k : Int) < (gn : Int)) = false := by simp; omega
      have Hxw := Lib.hid hxw
      have HD := Lib.hid hD
      have Hq := Lib.hid hq
      clear hxw hD hq
      go_wp2_with fail
      go_ret
      exact ⟨rfl, Hxw.out⟩
end Go.Proofs.Ytcoelhpmkhimpaa
