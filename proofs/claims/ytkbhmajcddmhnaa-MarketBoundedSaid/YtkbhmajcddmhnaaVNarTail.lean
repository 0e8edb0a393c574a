/- The law MarketNarrow: what comes after both runs. -/
import Derived.Test.YtkbhmajcddmhnaaVNarLaw
import Derived.Test.YtkbhmajcddmhnaaVMapP
import Derived.Test.YtkbhmajcddmhnaaVGr19
import Derived.Test.YtkbhmajcddmhnaaVGr15
import Derived.Deep.CutRange
import Derived.Carry
namespace Go.Proofs.Ytkbhmajcddmhnaa
open Go.RowKit
set_option linter.unusedVariables false
set_option linter.unusedSimpArgs false

theorem stocks_all (a : Option Addr) (n cap : Nat) (l : List Int) (w : World) (hl : IntsAt .i64 w a n l) (hn : n ≤ 9223372036854775807) :
    Calls Try.prog 34 #[.slice a n cap] w fun e w' => e = .returned (.bool (stocksOk l)) ∧ Ext w w' := by
  by_cases h5 : n = 5
  · exact stocks_any a n cap l w hl (by omega)
  · have hB : ((n : Int) != 5) = true := by rw [bne_iff_ne]; omega
    have hf : stocksOk l = false := by simp [stocksOk, hl.1, h5]
    rw [hf]
    clear hl hf h5
    go_enter Try.func34, Try.ntmps34
    go_wp2
    go_ret
    exact ⟨rfl, Ext.refl _⟩
/-- the losses so far, by road and good -/
def namedV (l : List Loss) (p : PK) : Option Value := (named l p.a p.b).map fun z => .agg #[.int .i64 z.lo, .int .i64 z.hi]
theorem namedV_snoc (l : List Loss) (x : Loss) : namedV (l ++ [x]) = fun q => if q = ⟨x.road, x.good⟩ then some (.agg #[.int .i64 x.lo, .int .i64 x.hi]) else namedV l q := by
  funext q
  obtain ⟨a, b⟩ := q
  unfold namedV
  rw [named_snoc]
  simp only [PK.mk.injEq]
  split <;> rfl
theorem zero70 (w : World) : (zeroValue 70).run Try.prog w = .ok (.agg #[.int .i64 0, .int .i64 0]) w := by kernel_rfl

set_option maxRecDepth 100000 in
set_option maxHeartbeats 4000000 in
theorem narTail {w w7 : World} {h h' : List Span} {x y : List Loss} {ha xa hb ya : Option Addr} {hc xn xc hc' yn yc : Nat}
    (h5 : h.length = 5) (h5' : h'.length = 5) (hin : HIn h h') (lin : LIn x y) (hpw : x.Pairwise LossLt)
    (hh : SpansAt w7 ha 5 h) (hh' : SpansAt w7 hb 5 h') (hx : LossesAt w7 xa xn x) (hy : LossesAt w7 ya yn y) (hxn : xn ≤ 1000) (hyn : yn ≤ 1000) (hx07 : Ext w w7)
    {u0 u1 u2 u3 u4 u5 u6 u7 u8 u9 u10 u14 u15 u16 u17 u20 u21 u22 u23 u24 u25 u26 u27 u28 u29 u30 u31 u32 u33 u34 u35 u36 u37 u38 u39 u40 u41 u42 u43 u44 u45 u46 u47 u48 u49 u50 u51 u52 u53 u54 u55 u56 u57 u58 u59 u60 u61 u62 u63 u64 u65 u66 u67 u68 u69 u70 u71 u72 u73 u74 u75 u76 u77 u78 u79 u80 u81 u82 u83 u84 u85 u86 u87 u88 u89 u90 u91 u92 u93 u94 u95 u96 u97 u98 u99 u100 u101 u102 u103 u104 u105 u106 u107 u108 u109 u110 u111 u112 u113 u114 u115 u116 u117 u118 u119 u120 u121 u122 u123 u124 u125 u126 u127 u128 u129 u130 u131 u132 u133 u134 u135 u136 u137 u138 u139 u140 u141 u142 u143 u144 u145 u146 u147 u148 u149 u150 u151 u152 u153 u154 u155 u156 u157 u158 u159 u160 u161 u162 u163 u164 u165 u166 u167 u168 u169 u170 u171 u172 u173 : Value} :
    (restFrom Try.f12 11).wp Try.prog (bodyPost Try.prog Try.f12 fun e w' => e = .returned (.bool true) ∧ Ext w w')
      ⟨#[u0, u1, u2, u3, u4, u5, u6, u7, u8, u9, u10, .bool true, .slice ha 5 hc, .slice xa xn xc, u14, u15, u16, u17, .slice hb 5 hc', .slice ya yn yc, u20, u21, u22, u23, u24, u25, u26, u27, u28, u29, u30, u31, u32, u33, u34, u35, u36, u37, u38, u39, u40, u41, u42, u43, u44, u45, u46, u47, u48, u49, u50, u51, u52, u53, u54, u55, u56, u57, u58, u59, u60, u61, u62, u63, u64, u65, u66, u67, u68, u69, u70, u71, u72, u73, u74, u75, u76, u77, u78, u79, u80, u81, u82, u83, u84, u85, u86, u87, u88, u89, u90, u91, u92, u93, u94, u95, u96, u97, u98, u99, u100, u101, u102, u103, u104, u105, u106, u107, u108, u109, u110, u111, u112, u113, u114, u115, u116, u117, u118, u119, u120, u121, u122, u123, u124, u125, u126, u127, u128, u129, u130, u131, u132, u133, u134, u135, u136, u137, u138, u139, u140, u141, u142, u143, u144, u145, u146, u147, u148, u149, u150, u151, u152, u153, u154, u155, u156, u157, u158, u159, u160, u161, u162, u163, u164, u165, u166, u167, u168, u169, u170, u171, u172, u173], []⟩ w7 := by
  have hxl := hx.1
  have hyl := hy.1
  have hmm := @run_makeMap Try.prog
  have Hin := Lib.hid hin
  have Lin := Lib.hid lin
  have Hpw := Lib.hid hpw
  have Hh := Lib.hid hh
  have Hh' := Lib.hid hh'
  have Hx := Lib.hid hx
  have Hy := Lib.hid hy
  have Hx07 := Lib.hid hx07
  have Hxl := Lib.hid hxl
  have Hyl := Lib.hid hyl
  clear hin lin hpw hh hh' hx hy hx07 hxl hyl
  conv => arg 2; whnf
  go_wp2_with fail
  go_loopw [94] (fun i wr => ∃ k : Nat, k ≤ 5 ∧ i = .int .i64 k ∧ Ext w7 wr) (fun i _ => 5 - (intOf i).toNat)
  case atStart => exact ⟨0, Nat.zero_le _, rfl, Ext.refl _⟩
  case round =>
    obtain ⟨k, hk, rfl, hx⟩ := hrel
    by_cases hlt : k < 5
    · have hlt' : decide ((k : Int) < 5) = true := by simp; omega
      obtain ⟨ab, ao, s, rfl, hsk, hab, c0, c1⟩ := (Hh.out.ext hx).get k hlt
      obtain ⟨bb, bo, t, rfl, htk, hbb, d0, d1⟩ := (Hh'.out.ext hx).get k hlt
      obtain ⟨i1, i2⟩ := Hin.out.2 k
      simp only [List.getD, hsk, htk, Option.getD_some] at i1 i2
      have hB1 : decide (t.lo < s.lo) = false := by simp; omega
      have hB2 : decide (s.hi < t.hi) = false := by simp; omega
      have Hx := Lib.hid hx
      clear hx
      clear hsk htk i1 i2
      go_wp2_with fail
      refine wp_region_ext (by kernel_rfl) (by kernel_rfl) (fun f hf hs => ?_)
      have f0 := fun q => (hf q).cell c0
      have f1 := fun q => (hf q).cell c1
      have f2 := fun q => (hf q).cell d0
      have f3 := fun q => (hf q).cell d1
      clear hf hs
      repeat (go_big_quiet_step (fail))
      refine wpQuiet_nil ?_
      intro W8 hW8
      clear f0 f1 f2 f3
      go_wp2_with fail
      go_roundw
      case rel => exact ⟨k + 1, by omega, by go_num, Hx.out.trans hW8⟩
      case measure => simp [intOf]; omega
    · obtain rfl : k = 5 := by omega
      rw [show ((5 : Nat) : Int) = 5 from rfl]
      obtain ⟨w8, rfl⟩ : ∃ w8 : World, w8 = wr := ⟨_, rfl⟩
      have hx8 := Hx.out.ext hx
      have hy8 := Hy.out.ext hx
      have hx08 := Hx07.out.trans hx
      have Hx8 := Lib.hid hx8
      have Hy8 := Lib.hid hy8
      have Hx08 := Lib.hid hx08
      clear hx8 hy8 hx08
      clear Hx Hy hx Hx07 Hh Hh' Hin
      go_upto_region 18 with fail
      have hm9 := PMapIs.made w8
      have hx9 : Ext w8 (w8.alloc (.map #[] 0)) := (Ext.refl _).alloc _
      clear hmm
      obtain ⟨mb, hmb⟩ : ∃ mb, w8.heap.size = mb := ⟨_, rfl⟩
      rw [hmb] at hm9
      rw [hmb]
      have hmb' : w8.heap.size ≤ mb := by omega
      clear hmb
      generalize w8.alloc (.map #[] 0) = w9 at *
      have Hm9 := Lib.hid hm9
      have Hx9 := Lib.hid hx9
      clear hm9 hx9
      go_wp2_with fail
      go_loopw [125] (fun i wr => ∃ k : Nat, k ≤ xn ∧ i = .int .i64 k ∧ Ext w8 wr ∧ PMapIs wr mb (namedV (x.take k))) (fun i _ => xn - (intOf i).toNat)
      case atStart => exact ⟨0, Nat.zero_le _, rfl, Hx9.out, Hm9.out⟩
      case round =>
        clear Hm9 Hx9
        obtain ⟨k, hk, rfl, hx, hm⟩ := hrel
        by_cases hlt : k < xn
        · have hlt' : decide ((k : Int) < (xn : Int)) = true := by simp; omega
          obtain ⟨xb, xo, z, rfl, hzk, hzb, c0, c1, c2, c3⟩ := (Hx8.out.ext hx).get k hlt
          have hx1 : Ext wr (wr.alloc (.cells #[.int .i64 z.road, .int .i64 z.good, .int .i64 z.lo, .int .i64 z.hi] 73)) := (Ext.refl _).alloc _
          have hbz := heap_alloc_new wr (.cells #[.int .i64 z.road, .int .i64 z.good, .int .i64 z.lo, .int .i64 z.hi] 73)
          obtain ⟨w2, hrun, hm2, hg2⟩ := run_mapUpdate_pair (hm.ext hx1) Try.underlying91 ⟨z.road, z.good⟩ (.agg #[.int .i64 z.lo, .int .i64 z.hi])
          have hrun : (Instr.mapUpdate 91 (.map (some mb)) (.agg #[.int .i64 z.road, .int .i64 z.good]) (.agg #[.int .i64 z.lo, .int .i64 z.hi])).run Try.prog (wr.alloc (.cells #[.int .i64 z.road, .int .i64 z.good, .int .i64 z.lo, .int .i64 z.hi] 73)) = .ok () w2 := hrun
          have hx2 : Ext w8 w2 := (hx.trans hx1).only_trans (p := mb) hg2 hmb'
          have htk : x.take (k + 1) = x.take k ++ [z] := by rw [List.take_add_one, hzk]; rfl
          have hm3 : PMapIs w2 mb (namedV (x.take (k + 1))) := by rw [htk, namedV_snoc]; exact hm2
          obtain ⟨f0, _⟩ := (Ext.refl (wr.alloc (.cells #[.int .i64 z.road, .int .i64 z.good, .int .i64 z.lo, .int .i64 z.hi] 73))).box hbz
          have Hx2 := Lib.hid hx2
          have Hm3 := Lib.hid hm3
          clear hx2 hm3
          clear hzk htk hm2 hg2 hx1 hbz hm hx
          go_wp2_with fail
          go_roundw
          case rel => exact ⟨k + 1, by omega, by go_num, Hx2.out, Hm3.out⟩
          case measure => simp [intOf]; omega
        · have hlt' : decide ((k : Int) < (xn : Int)) = false := by simp; omega
          obtain rfl : k = xn := by omega
          rw [List.take_of_length_le (by have := Hxl.out; omega)] at hm
          obtain ⟨w3, rfl⟩ : ∃ w3 : World, w3 = wr := ⟨_, rfl⟩
          have hy3 := Hy8.out.ext hx
          have hx03 := Hx08.out.trans hx
          have Hm := Lib.hid hm
          have Hy3 := Lib.hid hy3
          have Hx03 := Lib.hid hx03
          clear hm hy3 hx03
          clear Hx8 Hy8 Hx08 hx
          go_wp2_with fail
          go_loopw [140] (fun i wr => ∃ k : Nat, k ≤ yn ∧ i = .int .i64 k ∧ Ext w3 wr) (fun i _ => yn - (intOf i).toNat)
          case atStart => exact ⟨0, Nat.zero_le _, rfl, Ext.refl _⟩
          case round =>
            obtain ⟨k, hk, rfl, hx⟩ := hrel
            by_cases hlt : k < yn
            · have hlt' : decide ((k : Int) < (yn : Int)) = true := by simp; omega
              obtain ⟨yb, yo, z, rfl, hzk, hzb, c0, c1, c2, c3⟩ := (Hy3.out.ext hx).get k hlt
              obtain ⟨q, hq, q1, q2, q3, q4⟩ := Lin.out z (List.mem_of_getElem? hzk)
              have hnm : namedV x ⟨z.road, z.good⟩ = some (.agg #[.int .i64 q.lo, .int .i64 q.hi]) := by
                unfold namedV
                simp only [← q1, ← q2, named_of Hpw.out hq]
                rfl
              have hx1 : Ext wr (wr.alloc (.cells #[.int .i64 z.road, .int .i64 z.good, .int .i64 z.lo, .int .i64 z.hi] 73)) := (Ext.refl _).alloc _
              have hbz := heap_alloc_new wr (.cells #[.int .i64 z.road, .int .i64 z.good, .int .i64 z.lo, .int .i64 z.hi] 73)
              have hlk := (run_lookup_pair ((Hm.out.ext hx).ext hx1) Try.underlying91 (zero70 _) ⟨z.road, z.good⟩).1
              rw [hnm] at hlk
              have hlk : (Instr.lookup 91 (.map (some mb)) (.agg #[.int .i64 z.road, .int .i64 z.good]) true).run Try.prog (wr.alloc (.cells #[.int .i64 z.road, .int .i64 z.good, .int .i64 z.lo, .int .i64 z.hi] 73)) = .ok (.tuple #[.agg #[.int .i64 q.lo, .int .i64 q.hi], .bool true]) (wr.alloc (.cells #[.int .i64 z.road, .int .i64 z.good, .int .i64 z.lo, .int .i64 z.hi] 73)) := hlk
              have hB1 : decide (z.lo < q.lo) = false := by simp; omega
              have hB2 : decide (q.hi < z.hi) = false := by simp; omega
              obtain ⟨f0, _⟩ := (Ext.refl (wr.alloc (.cells #[.int .i64 z.road, .int .i64 z.good, .int .i64 z.lo, .int .i64 z.hi] 73))).box hbz
              have Hx := Lib.hid hx
              have Hx1 := Lib.hid hx1
              clear hx hx1
              clear hzk hnm q1 q2 q3 q4 hq
              go_upto_region 27 with fail
              clear f0
              obtain ⟨W1, hW1⟩ : ∃ W1, wr.alloc (.cells #[.int .i64 z.road, .int .i64 z.good, .int .i64 z.lo, .int .i64 z.hi] 73) = W1 := ⟨_, rfl⟩
              have hsz1 : W1.heap.size = wr.heap.size + 1 := by rw [← hW1]; simp
              have hbq := heap_alloc_new W1 (.cells #[.int .i64 q.lo, .int .i64 q.hi] 70)
              rw [hW1] at hbz ⊢
              rw [hsz1] at hbq
              have hx12 : Ext W1 (W1.alloc (.cells #[.int .i64 q.lo, .int .i64 q.hi] 70)) := (Ext.refl _).alloc _
              have hx2 : Ext w3 (W1.alloc (.cells #[.int .i64 q.lo, .int .i64 q.hi] 70)) := by have := Hx1.out; rw [hW1] at this; exact Hx.out.trans (this.trans hx12)
              have f0 := (hx12.box hbz).1
              obtain ⟨f1, _⟩ := (Ext.refl (W1.alloc (.cells #[.int .i64 q.lo, .int .i64 q.hi] 70))).box hbq
              clear hbz hbq hx12 hsz1 hW1 hlk
              generalize W1.alloc (.cells #[.int .i64 q.lo, .int .i64 q.hi] 70) = W2 at *
              have Hx2 := Lib.hid hx2
              clear hx2
              go_wp2_with fail
              go_roundw
              case rel => exact ⟨k + 1, by omega, by go_num, Hx2.out⟩
              case measure => simp [intOf]; omega
            · have hlt' : decide ((k : Int) < (yn : Int)) = false := by simp; omega
              have hx0 := Hx03.out.trans hx
              have Hx0 := Lib.hid hx0
              clear hx0
              clear hx
              go_wp2_with fail
              go_ret
              exact ⟨rfl, Hx0.out⟩
end Go.Proofs.Ytkbhmajcddmhnaa
