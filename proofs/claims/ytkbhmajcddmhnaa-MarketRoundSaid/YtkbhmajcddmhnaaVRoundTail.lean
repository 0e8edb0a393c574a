/- The law MarketRound: what comes after the lists are compared. -/
import Derived.Test.YtkbhmajcddmhnaaVLawDone
import Derived.Test.YtkbhmajcddmhnaaVRoundLaw
import Derived.Test.YtkbhmajcddmhnaaVFrom
import Derived.Deep.CutRange
namespace Go.Proofs.Ytkbhmajcddmhnaa
open Go.RowKit
set_option linter.unusedVariables false
set_option linter.unusedSimpArgs false

def zeros5 : Obj := .cells (spanRows (List.replicate 5 z0)).flatten.toArray 70
theorem mk35 : ∀ w, (Instr.makeSlice 35 (.int .i64 5) (.int .i64 5)).run Try.prog w = .ok (.slice (some ⟨w.heap.size, 0, none⟩) 5 5) (w.alloc zeros5) := fun _ => by kernel_rfl

set_option maxRecDepth 100000 in
set_option maxHeartbeats 4000000 in
theorem roundTail {a : Option Addr} {n cap : Nat} (l : List Offer) {p d : Int} {w w7 : World} {c : List Int} {ra : Option Addr} {rc : Nat}
    (hl : OffersAt w a n l) (ho : offersOk l = true) (hnl : l.length = n) (hn10 : n ≤ 10) (b1 : 0 ≤ p) (b2 : p ≤ 9999) (b3 : 0 ≤ d) (b4 : d ≤ 100000)
    (hc1 : 0 < c.length) (hc5 : c.length ≤ 5) (hcr : roundsB l p d c = true) (hcb : ∀ k ∈ c, 0 ≤ k ∧ k < (n : Int)) (hri7 : IntsAt .i64 w7 ra c.length c) (hx07 : Ext w w7)
    {u3 u4 u5 u6 u7 u8 u10 u11 u12 u13 u15 u16 u17 u18 u19 u20 u21 u22 u23 u24 u25 u26 u27 u28 u29 u30 u31 u32 u33 u34 u35 u36 u37 u38 u39 u40 u41 u42 u43 u44 u45 u46 u47 u48 u49 u50 u51 u52 u53 u54 u55 u56 u57 u58 u59 u60 u61 u62 u63 u64 u65 u66 u67 u68 u69 u70 u71 u72 u73 u74 u75 u76 u77 u78 u79 u80 u81 u82 u83 u84 u85 u86 u87 u88 u89 u90 u91 u92 u93 u94 u95 u96 u97 u98 u99 u100 u101 u102 u103 u104 u105 u106 u107 u108 u109 u110 u111 u112 u113 u114 u115 u116 u117 u118 u119 u120 u121 u122 u123 u124 u125 u126 u127 u128 u129 u130 u131 u132 u133 u134 u135 u136 u137 u138 u139 u140 u141 u142 u143 u144 u145 u146 u147 u148 u149 u150 u151 u152 u153 u154 u155 u156 u157 u158 u159 u160 u161 u162 u163 u164 u165 u166 u167 u168 u169 u170 u171 u172 u173 u174 u175 u176 u177 u178 u179 u180 u181 u182 u183 u184 u185 u186 u187 u188 u189 u190 u191 u192 u193 u194 u195 u196 u197 u198 u199 u200 u201 u202 u203 u204 u205 u206 u207 u208 u209 u210 u211 u212 u213 u214 u215 u216 u217 u218 u219 u220 u221 u222 u223 u224 u225 u226 u227 u228 u229 u230 u231 u232 u233 u234 u235 u236 u237 u238 u239 u240 u241 u242 u243 u244 u245 u246 u247 u248 u249 u250 u251 u252 u253 u254 u255 u256 u257 u258 u259 u260 u261 u262 u263 u264 u265 u266 u267 u268 u269 u270 u271 u272 u273 u274 u275 u276 u277 u278 u279 u280 u281 u282 u283 u284 u285 u286 u287 u288 u289 u290 u291 u292 u293 : Value} :
    (restFrom Try.f13 31).wp Try.prog (bodyPost Try.prog Try.f13 fun e w' => e = .returned (.bool true) ∧ Ext w w')
      ⟨#[.slice a n cap, .int .i64 p, .int .i64 d, u3, u4, u5, u6, u7, u8, .bool true, u10, u11, u12, u13, .slice ra c.length rc, u15, u16, u17, u18, u19, u20, u21, u22, u23, u24, u25, u26, u27, u28, u29, u30, u31, u32, u33, u34, u35, u36, u37, u38, u39, u40, u41, u42, u43, u44, u45, u46, u47, u48, u49, u50, u51, u52, u53, u54, u55, u56, u57, u58, u59, u60, u61, u62, u63, u64, u65, u66, u67, u68, u69, u70, u71, u72, u73, u74, u75, u76, u77, u78, u79, u80, u81, u82, u83, u84, u85, u86, u87, u88, u89, u90, u91, u92, u93, u94, u95, u96, u97, u98, u99, u100, u101, u102, u103, u104, u105, u106, u107, u108, u109, u110, u111, u112, u113, u114, u115, u116, u117, u118, u119, u120, u121, u122, u123, u124, u125, u126, u127, u128, u129, u130, u131, u132, u133, u134, u135, u136, u137, u138, u139, u140, u141, u142, u143, u144, u145, u146, u147, u148, u149, u150, u151, u152, u153, u154, u155, u156, u157, u158, u159, u160, u161, u162, u163, u164, u165, u166, u167, u168, u169, u170, u171, u172, u173, u174, u175, u176, u177, u178, u179, u180, u181, u182, u183, u184, u185, u186, u187, u188, u189, u190, u191, u192, u193, u194, u195, u196, u197, u198, u199, u200, u201, u202, u203, u204, u205, u206, u207, u208, u209, u210, u211, u212, u213, u214, u215, u216, u217, u218, u219, u220, u221, u222, u223, u224, u225, u226, u227, u228, u229, u230, u231, u232, u233, u234, u235, u236, u237, u238, u239, u240, u241, u242, u243, u244, u245, u246, u247, u248, u249, u250, u251, u252, u253, u254, u255, u256, u257, u258, u259, u260, u261, u262, u263, u264, u265, u266, u267, u268, u269, u270, u271, u272, u273, u274, u275, u276, u277, u278, u279, u280, u281, u282, u283, u284, u285, u286, u287, u288, u289, u290, u291, u292, u293], []⟩ w7 := by
  have hn' : n ≤ 1000000 := by omega
  have hrun := fun fa fc fs sa sc xs ba bn bc bs W (hW : Ext w W) (hf : FairsAt W fa 1 fs) (h1 : IntsAt .i64 W sa 5 xs) (h2 : BartersAt W ba bn bs) (hb : bn ≤ 5) => run_any a n cap l fa 1 fc fs sa 5 sc xs ba bn bc bs W (hl.ext hW) hf h1 h2 (by omega) (by omega) (by omega) (by omega)
  have Hl := Lib.hid hl
  have Ho := Lib.hid ho
  have Hnl := Lib.hid hnl
  have Hcr := Lib.hid hcr
  have Hcb := Lib.hid hcb
  have Hrun := Lib.hid hrun
  clear hl ho hnl hcr hcb hrun
  have hUb0 := True.intro
  conv => arg 2; whnf
  have hcbl : ∀ k ∈ c, 0 ≤ k ∧ k < (l.length : Int) := by rw [Hnl.out]; exact Hcb.out
  have hUb : ∀ k, k ≤ c.length → 1 ≤ prodU l c k ∧ prodU l c k ≤ 312500000 := fun k hk => by
    have h1 := prodTo_bd (f := fun i => (nth l c i).units) (n := k) fun i hi => by
      obtain ⟨j, _, _, hj⟩ := nth_ok Ho.out hcbl hc5 (show i < c.length by omega)
      obtain ⟨gi, ge, hgi, hge, hgi5, hge5, hgne, hu1, hu2, hlo1, hlo2, hhi, _⟩ := offer_bounds Ho.out hj
      exact ⟨hu1, hu2⟩
    have := pow50 (i := k) (by omega)
    unfold prodU
    exact ⟨h1.1, by omega⟩
  have HUb := Lib.hid hUb
  have Hx07 := Lib.hid hx07
  have Hri7 := Lib.hid hri7
  have Hcbl := Lib.hid hcbl
  clear hUb hx07 hri7 hcbl
  go_wp2_with fail
  go_loopw [19, 195] (fun vu i wr => ∃ (k : Nat) (t : Int), k ≤ c.length ∧ i = .int .i64 k ∧ vu = .int .i64 t ∧ prodU l c k = t ∧ Ext w7 wr) (fun _ i _ => c.length - (intOf i).toNat)
  case atStart => exact ⟨0, 1, Nat.zero_le _, rfl, rfl, rfl, Ext.refl _⟩
  case round =>
    obtain ⟨k, t, hk, rfl, rfl, ht, hx⟩ := hrel
    obtain ⟨t1, t2⟩ := HUb.out k hk
    rw [ht] at t1 t2
    by_cases hlt : k < c.length
    · have hlt' : decide ((k : Int) < (c.length : Int)) = true := by simp; omega
      obtain ⟨zb, zo, z, rfl, hzk, hzb, e0⟩ := (Hri7.out.ext hx).get k hlt
      obtain ⟨z1, z2⟩ := Hcb.out z (List.mem_of_getElem? hzk)
      obtain ⟨j, rfl⟩ : ∃ j : Nat, z = j := ⟨z.toNat, by omega⟩
      obtain ⟨ob, oo, o, rfl, hoj, hob, q0, q1, q2, q3, q4, q5, q6, q7⟩ := (Hl.out.ext (Hx07.out.trans hx)).get j (by omega)
      have hnth : nth l c k = o := by simp [nth, offerAt, List.getD, hzk, hoj]
      obtain ⟨P, hP⟩ : ∃ P, t * o.units = P := ⟨_, rfl⟩
      have hs : prodU l c (k + 1) = P := by rw [← hP, ← ht, ← hnth]; rfl
      obtain ⟨m1, m2⟩ := HUb.out (k + 1) hlt
      rw [hs] at m1 m2
      obtain ⟨gi, ge, hgi, hge, hgi5, hge5, hgne, hu1, hu2, hlo1, hlo2, hhi, _⟩ := offer_bounds Ho.out hoj
      have Hs := Lib.hid hs
      have Hx := Lib.hid hx
      clear hs hx
      clear hzk hoj hnth ht hgi hge q0 q1 q2 q4 q5 q6 q7
      go_wp2_with fail
      go_roundw
      case rel => exact ⟨k + 1, P, hlt, by go_num, rfl, Hs.out, Hx.out⟩
      case measure => simp [intOf]; omega
    · have hlt' : decide ((k : Int) < (c.length : Int)) = false := by simp; omega
      obtain rfl : k = c.length := by omega
      rw [prodU_suf] at ht
      have hx08 := Hx07.out.trans hx
      have hri8 := Hri7.out.ext hx
      obtain ⟨w8, rfl⟩ : ∃ w8 : World, w8 = wr := ⟨_, rfl⟩
      clear Hx07 Hri7 hx HUb
      by_cases hbig : 1000000 < t
      · have hbigB : decide (1000000 < t) = true := decide_eq_true hbig
        have Hx08 := Lib.hid hx08
        clear hx08
        clear hri8 ht
        go_wp2_with fail
        go_ret
        exact ⟨rfl, Hx08.out⟩
      · have hbigB : decide (1000000 < t) = false := decide_eq_false hbig
        obtain ⟨zb, zo, z, rfl, hz0, hzb, e0⟩ := hri8.get 0 hc1
        obtain ⟨z1, z2⟩ := Hcb.out z (List.mem_of_getElem? hz0)
        obtain ⟨j, rfl⟩ : ∃ j : Nat, z = j := ⟨z.toNat, by omega⟩
        obtain ⟨ob, oo, o, rfl, hoj, hob, q0, q1, q2, q3, q4, q5, q6, q7⟩ := (Hl.out.ext hx08).get j (by omega)
        have hnth : nth l c 0 = o := by simp [nth, offerAt, List.getD, hz0, hoj]
        obtain ⟨g, _, hg, _⟩ := offer_bounds Ho.out hoj
        obtain ⟨hg5, _, held, losses, hrn, hheld, hge1, hge2⟩ := round_run Ho.out (p := p) (d := d) (by omega) Hcbl.out hc1 hc5 Hcr.out (g := g) (by rw [hnth, hg]) (by omega)
        rw [ht] at hrn hge1 hge2
        rw [hg] at q1
        have hmk := mk5
        have hmk2 := mk35
        simp only [Nat.add_zero] at e0
        have Hx08 := Lib.hid hx08
        have Hri8 := Lib.hid hri8
        have Ht := Lib.hid ht
        have Hrn := Lib.hid hrn
        have Hheld := Lib.hid hheld
        have Hge1 := Lib.hid hge1
        have Hge2 := Lib.hid hge2
        clear hx08 hri8 ht hrn hheld hge1 hge2
        clear hz0 hoj hnth hg q0 q2 q3 q4 q5 q6 q7
        go_upto_region 41 with fail
        have harr := arr_new w8 5
        have hx9 : Ext w8 (w8.alloc (.cells (Array.replicate 5 (.int .i64 0)) 3)) := (Ext.refl _).alloc _
        obtain ⟨sb, hsb⟩ : ∃ sb, w8.heap.size = sb := ⟨_, rfl⟩
        have hsbw : w8.heap.size ≤ sb := by omega
        rw [hsb] at harr
        rw [hsb]
        generalize w8.alloc (.cells (Array.replicate 5 (.int .i64 0)) 3) = w9 at *
        have k0 := harr.cell (i := g) (x := 0) (by rw [List.getElem?_replicate_of_lt hg5])
        have kf := harr.free g
        have har9 := harr.set g t
        have hx10 := hx9.setCell (p := ⟨sb, g, none⟩) hsbw (.int .i64 t)
        have Har9 := Lib.hid har9
        have Hx10 := Lib.hid hx10
        clear har9 hx10
        clear harr hx9 e0 q1
        go_upto_region 42 with fail
        clear k0 kf
        generalize w9.setCell ⟨sb, g, none⟩ (.int .i64 t) = w10 at *
        have hkb := spans_block (List.replicate 5 z0) (heap_alloc_new w10 zeros5)
        have hx11 : Ext w10 (w10.alloc zeros5) := (Ext.refl _).alloc _
        have har11 := Har9.out.ints
        have hri11 := (Hri8.out.ext Hx10.out).ext hx11
        have hx011 := (Hx08.out.trans Hx10.out).trans hx11
        simp only [List.length_set, List.length_replicate] at har11 hkb
        have har11 := har11.ext hx11
        have Hkb := Lib.hid hkb
        have Hx011 := Lib.hid hx011
        have Har11 := Lib.hid har11
        have Hri11 := Lib.hid hri11
        clear hkb hx011 har11 hri11
        clear hx11 Har9 Hx10 Hri8 Hx08 hsb hsbw
        go_upto_region 43 with fail
        clear hmk hmk2
        generalize w10.heap.size = kb at *
        generalize w10.alloc zeros5 = w11 at *
        have hrb : ∀ i, i ≤ c.length → 1 ≤ (rdTo l c t i).hand ∧ (rdTo l c t i).hand ≤ 312500000 ∧ (i < c.length → 1 ≤ (rdTo l c t i).hand / (nth l c i).units ∧ (rdTo l c t i).hand / (nth l c i).units ≤ 312500000) := fun i hi => by
          have := rd_bd Ho.out Hcbl.out hc5 hi
          rw [Ht.out] at this
          exact this
        have Hrb := Lib.hid hrb
        clear hrb
        go_wp2_with fail
        go_loopw [25, 26, 226] (fun vu vb i wr => ∃ (k : Nat) (u : Int) (bs : List Barter), k ≤ c.length ∧ i = .int .i64 k ∧ vu = .int .i64 u ∧ rdTo l c t k = ⟨u, bs⟩ ∧ Ext w11 wr ∧ Owns wr w11.heap.size 46 3 vb (barterRows bs)) (fun _ _ i _ => c.length - (intOf i).toNat)
        case atStart => exact ⟨0, t, [], Nat.zero_le _, rfl, rfl, rfl, Ext.refl _, Owns.nil _ _ _ _⟩
        case round =>
          obtain ⟨k, u, bs, hk, rfl, rfl, hdo, hx, hown⟩ := hrel
          obtain ⟨b1, b2, b3⟩ := Hrb.out k hk
          rw [hdo] at b1 b2 b3
          simp only at b1 b2 b3
          have hbl : bs.length = k := by have := rdTo_len l c t k; rw [hdo] at this; exact this
          have Hx := Lib.hid hx
          have Hown := Lib.hid hown
          have Hbl := Lib.hid hbl
          clear hx hown hbl
          by_cases hlt : k < c.length
          · have hlt' : decide ((k : Int) < (c.length : Int)) = true := by simp; omega
            obtain ⟨zb2, zo2, z, hza, hzk, hzb2, e0⟩ := (Hri11.out.ext Hx.out).get k hlt
            cases hza
            obtain ⟨z1, z2⟩ := Hcb.out z (List.mem_of_getElem? hzk)
            obtain ⟨j, rfl⟩ : ∃ j : Nat, z = j := ⟨z.toNat, by omega⟩
            obtain ⟨ob2, oo2, o, hoa, hoj, hob2, q0, q1, q2, q3, q4, q5, q6, q7⟩ := (Hl.out.ext (Hx011.out.trans Hx.out)).get j (by omega)
            cases hoa
            have hnth : nth l c k = o := by simp [nth, offerAt, List.getD, hzk, hoj]
            have hckj : c.getD k 0 = (j : Int) := by simp [List.getD, hzk]
            obtain ⟨gi, ge, hgi, hge, hgi5, hge5, hgne, hu1, hu2, hlo1, hlo2, hhi, _⟩ := offer_bounds Ho.out hoj
            obtain ⟨d1, d2⟩ := b3 hlt
            rw [hnth] at d1 d2
            have hnext : rdTo l c t (k + 1) = ⟨u / o.units * o.lo, bs ++ [⟨0, j, u / o.units⟩]⟩ := by
              simp only [rdTo, hdo, hnth, hckj]
            obtain ⟨D, hD⟩ : ∃ D, u / o.units = D := ⟨_, rfl⟩
            rw [hD] at d1 d2 hnext
            obtain ⟨P, hP⟩ : ∃ P, D * o.lo = P := ⟨_, rfl⟩
            rw [hP] at hnext
            obtain ⟨m1, m2, _⟩ := Hrb.out (k + 1) hlt
            rw [hnext] at m1 m2
            simp only at m1 m2
            have hxA : Ext wr (wr.alloc (.cells #[.int .i64 0, .int .i64 j, .int .i64 D] 46)) := (Ext.refl _).alloc _
            have hb46 := heap_alloc_new wr (.cells #[.int .i64 0, .int .i64 j, .int .i64 D] 46)
            have hsrc := (barters_block [⟨0, j, D⟩] hb46).src
            have hownA := Hown.out.ext hxA
            have Hnext := Lib.hid hnext
            have HxA := Lib.hid hxA
            have Hsrc := Lib.hid hsrc
            have HownA := Lib.hid hownA
            have Hoj := Lib.hid hoj
            clear hnext hxA hsrc hownA hoj
            clear hb46 hzk hnth hckj hdo b3 hgi hge
            go_wp2_with (at_builtin; refine wpList_app elem33 _ rfl (.tmp 237) (.tmp 241) rfl w11.heap.size _ (barterRows bs) rfl HownA.out (some ⟨wr.heap.size, 0, none⟩) 1 1 (barterRows [⟨0, j, D⟩]) rfl rfl Hsrc.out (barterRows_row _) ?_ ?_ ?_)
            · have := Hbl.out; simp [barterRows]; omega
            · have := Hx.out.size; simp; omega
            · intro v6 w6 ho6 hg6 _
              rw [← barterRows_append] at ho6
              have hx6 : Ext w11 w6 := (Hx.out.trans HxA.out).app HownA.out hg6
              obtain ⟨ob3, oo3, o3, hoa3, hoj3, hob3, r0, r1, r2, r3, r4, r5, r6, r7⟩ := (Hl.out.ext (Hx011.out.trans hx6)).get j (by omega)
              cases hoa3
              obtain rfl : o3 = o := by have := Hoj.out; rw [hoj3] at this; exact Option.some.inj this
              have Ho6 := Lib.hid ho6
              have Hx6 := Lib.hid hx6
              clear ho6 hx6
              clear e0 q0 q1 q2 q3 q4 q5 q6 q7 hg6 hoj3 r0 r1 r2 r3 r5 r6 r7 hD
              go_wp2_with fail
              go_roundw
              case rel => exact ⟨k + 1, P, _, hlt, by go_num, rfl, Hnext.out, Hx6.out, Ho6.out⟩
              case measure => simp [intOf]; omega
          · have hlt' : decide ((k : Int) < (c.length : Int)) = false := by simp; omega
            obtain rfl : k = c.length := by omega
            have hfin := congrArg RD.hand hdo
            have hfin2 := congrArg RD.bs hdo
            simp only at hfin hfin2
            have hrn := Hrn.out
            have hge1 := Hge1.out
            have hge2 := Hge2.out
            rw [hfin] at hge1
            rw [hfin2] at hrn
            obtain ⟨la, lc, rfl, _, _, _, hlb⟩ := barters_of_owns Hown.out
            have hxF : Ext wr (wr.alloc (.cells #[.int .i64 p, .int .i64 d, .slice (some ⟨kb, 0, none⟩) 5 5] 83)) := (Ext.refl _).alloc _
            have hbF := heap_alloc_new wr (.cells #[.int .i64 p, .int .i64 d, .slice (some ⟨kb, 0, none⟩) 5 5] 83)
            have hfF : FairsAt (wr.alloc (.cells #[.int .i64 p, .int .i64 d, .slice (some ⟨kb, 0, none⟩) 5 5] 83)) (some ⟨wr.heap.size, 0, none⟩) 1 [zfair p d] := by
              have c7 := ((Ext.refl (wr.alloc (.cells #[.int .i64 p, .int .i64 d, .slice (some ⟨kb, 0, none⟩) 5 5] 83))).box hbF).1
              refine ⟨rfl, fun _ => ⟨_, 0, rfl, fun k f hk => ?_⟩⟩
              match k, hk with
              | 0, hk => cases hk; exact ⟨_, 5, 5, fun j v hj => by (match j, hj with | 0, hj => cases hj; exact c7 0 | 1, hj => cases hj; exact c7 1 | 2, hj => cases hj; exact c7 2 | j + 3, hj => simp at hj), Nat.le_refl _, by unfold maxLen; omega, (Hkb.out.ext Hx.out).ext hxF⟩
              | k + 1, hk => simp at hk
            have hcall := Hrun.out _ 1 _ (some ⟨sb, 0, none⟩) 5 _ la bs.length lc bs _ ((Hx011.out.trans Hx.out).trans hxF) hfF ((Har11.out.ext Hx.out).ext hxF) (hlb.ext hxF) (by have := Hbl.out; omega)
            rw [hrn] at hcall
            have hx0F := (Hx011.out.trans Hx.out).trans hxF
            obtain ⟨lo, hlo⟩ : ∃ lo, (held.getD g z0).lo = lo := ⟨_, rfl⟩
            rw [hlo] at hge1 hge2
            have hloB : decide (t < lo) = true := decide_eq_true hge2
            have hloB2 : decide (u ≤ lo) = true := decide_eq_true hge1
            have Hcall := Lib.hid hcall
            have Hx0F := Lib.hid hx0F
            have Hlo := Lib.hid hlo
            clear hcall hx0F hlo
            clear hrn hfin hfin2 hlb hxF hbF hfF Hrun hdo Hown hge1 hge2
            go_wp2_with (go_at_call 19; refine Hcall.out.mono ?_; rintro e w6 ⟨ha, hn6, hc6, la6, ln6, lc6, rfl, hx6, hn6b, ln6b, hsp6, hlo6⟩; obtain rfl : hn6 = 5 := (by rw [← hsp6.1]; exact Hheld.out); obtain ⟨sb6, so6, s6, rfl, hs6, hb6, cl6, ch6⟩ := hsp6.get g hg5; obtain rfl : s6.lo = lo := (by have := Hlo.out; simp only [List.getD, hs6, Option.getD_some] at this; exact this); clear hs6 hlo6 hsp6)
            go_ret
            exact ⟨rfl, Hx0F.out.trans hx6⟩
end Go.Proofs.Ytkbhmajcddmhnaa
