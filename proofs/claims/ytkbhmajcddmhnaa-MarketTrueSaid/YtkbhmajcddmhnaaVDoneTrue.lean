/- The law MarketTrue. -/
import Derived.Test.YtkbhmajcddmhnaaVTrueT
import Derived.Test.YtkbhmajcddmhnaaVGoes
import Derived.Test.YtkbhmajcddmhnaaVGr10
import Derived.OpenShut
import Derived.ShutString
import Derived.ChangeOld
import Derived.Below
namespace Go.Proofs.Ytkbhmajcddmhnaa
open Go.RowKit
set_option linter.unusedVariables false
set_option linter.unusedSimpArgs false

set_option maxRecDepth 100000 in
set_option maxHeartbeats 4000000 in
theorem lawTrue_any (a : Option Addr) (n cap : Nat) (l : List Offer) (fa : Option Addr) (fn fc : Nat) (fs : List Fair) (sa : Option Addr) (sn sc : Nat) (xs : List Int) (ba : Option Addr) (bn bc : Nat) (bs : List Barter) (ca : Option Addr) (cn cc : Nat) (by_ : List Int) (w : World)
    (hl : OffersAt w a n l) (hf : FairsAt w fa fn fs) (hs : IntsAt .i64 w sa sn xs) (hp : BartersAt w ba bn bs) (hby : IntsAt .u32 w ca cn by_) (hu : u32s by_) (hn : n ≤ maxLen) (hfn : fn ≤ maxLen) (hsn : sn ≤ maxLen) (hbn : bn ≤ maxLen) (hcn : cn ≤ maxLen) :
    Calls Try.prog 6 #[.slice a n cap, .slice fa fn fc, .slice sa sn sc, .slice ba bn bc, .slice ca cn cc] w fun e w' => e = .returned (.bool true) ∧ Ext w w' := by
  have hal := fun W => alive_any W
  have hrd := fun W (hW : Ext w W) => ready_any a n cap l fa fn fc fs W (hl.ext hW) (hf.ext hW) hn hfn
  have hst := fun W (hW : Ext w W) => stocks_all sa sn sc xs W (hs.ext hW) hsn
  unfold maxLen at hn hfn hsn hbn hcn
  cases hr : readyB l fs with
  | false =>
    rw [hr] at hrd
    have Hal := Lib.hid hal
    have Hrd := Lib.hid hrd
    clear hal hrd
    clear hl hf hr hby hu hs hp hst
    go_enter Try.func6, Try.ntmps6
    go_wp2_with (first | (go_at_call 32; refine (Hal.out _).mono ?_; rintro e w1 ⟨rfl, hx1⟩) | (go_at_call 33; refine (Hrd.out _ hx1).mono ?_; rintro e w2 ⟨rfl, hx2⟩; have hx02 := hx1.trans hx2) | (go_at_call 34; refine (Hst.out _ hx02).mono ?_; rintro e w3 ⟨rfl, hx3⟩; have hx03 := hx02.trans hx3))
    go_ret
    exact ⟨rfl, hx02⟩
  | true =>
  have hr2 := hr
  simp only [readyB, Bool.and_eq_true, Bool.not_eq_true', decide_eq_true_eq] at hr2
  obtain ⟨ho, ht⟩ := checkOf_zero hr2.2
  rw [hr] at hrd
  have hc0 := hr2.2
  clear hr hr2
  cases hxo : stocksOk xs with
  | false =>
    rw [hxo] at hst
    have Hal := Lib.hid hal
    have Hrd := Lib.hid hrd
    have Hst := Lib.hid hst
    clear hal hrd hst
    clear hl hf hby hu hs hp hxo ho ht hc0
    go_enter Try.func6, Try.ntmps6
    go_wp2_with (first | (go_at_call 32; refine (Hal.out _).mono ?_; rintro e w1 ⟨rfl, hx1⟩) | (go_at_call 33; refine (Hrd.out _ hx1).mono ?_; rintro e w2 ⟨rfl, hx2⟩; have hx02 := hx1.trans hx2) | (go_at_call 34; refine (Hst.out _ hx02).mono ?_; rintro e w3 ⟨rfl, hx3⟩; have hx03 := hx02.trans hx3))
    go_ret
    exact ⟨rfl, hx03⟩
  | true =>
  rw [hxo] at hst
  by_cases b1 : 60 < bn
  · have b1' : decide ((60 : Int) < (bn : Int)) = true := by simp; omega
    have Hal := Lib.hid hal
    have Hrd := Lib.hid hrd
    have Hst := Lib.hid hst
    clear hal hrd hst
    clear hl hf hby hu hs hp hxo ho ht hc0
    go_enter Try.func6, Try.ntmps6
    go_wp2_with (first | (go_at_call 32; refine (Hal.out _).mono ?_; rintro e w1 ⟨rfl, hx1⟩) | (go_at_call 33; refine (Hrd.out _ hx1).mono ?_; rintro e w2 ⟨rfl, hx2⟩; have hx02 := hx1.trans hx2) | (go_at_call 34; refine (Hst.out _ hx02).mono ?_; rintro e w3 ⟨rfl, hx3⟩; have hx03 := hx02.trans hx3))
    go_ret
    exact ⟨rfl, hx03⟩
  have b1' : decide ((60 : Int) < (bn : Int)) = false := by simp; omega
  have hnl := hl.1
  have hfl := hf.1
  have hsl := hs.1
  have hbl := hp.1
  have hol := offers_len ho
  have htl := trip_len ht
  have hn10 : n ≤ 10 := by omega
  have hfn5 : fn ≤ 5 := by omega
  have hs5 : xs.length = 5 := by simp only [stocksOk, Bool.and_eq_true, decide_eq_true_eq] at hxo; exact hxo.1
  have hsn5 : sn ≤ 1000000 := by omega
  have hrun := fun W (hW : Ext w W) => run_any a n cap l fa fn fc fs sa sn sc xs ba bn bc bs W (hl.ext hW) (hf.ext hW) (hs.ext hW) (hp.ext hW) (by omega) (by omega) (by omega) (by omega)
  obtain ⟨T, hT⟩ : ∃ T, runOf l fs xs bs = T := ⟨_, rfl⟩
  rw [hT] at hrun
  obtain ⟨h, x, q, e⟩ := T
  by_cases he : e = 0
  case neg =>
    have heB : (e != 0) = true := by rw [bne_iff_ne]; exact he
    obtain ⟨rfl, rfl, hcases, k, s, rfl, hk, _, _⟩ := run_err hc0 hxo (by omega) hT he
    have hkn : k < bn := by omega
    have hk2 : decide (k < bn) = true := decide_eq_true hkn
    have hk1 : decide ((k : Int) < (bn : Int)) = true := by simp; omega
    have hk0 : decide ((0 : Int) ≤ (k : Int)) = true := by simp
    have Hal := Lib.hid hal
    have Hrd := Lib.hid hrd
    have Hst := Lib.hid hst
    have Hrun := Lib.hid hrun
    clear hal hrd hst hrun
    clear hl hf hby hu hs hp hxo ho ht hc0 hT he hs5 hbl hsl hnl hfl
    rcases hcases with rfl | rfl | rfl
    all_goals
      go_enter Try.func6, Try.ntmps6
      go_wp2_with (first | (go_at_call 32; refine (Hal.out _).mono ?_; rintro e w1 ⟨rfl, hx1⟩) | (go_at_call 33; refine (Hrd.out _ hx1).mono ?_; rintro e w2 ⟨rfl, hx2⟩; have hx02 := hx1.trans hx2) | (go_at_call 34; refine (Hst.out _ hx02).mono ?_; rintro e w3 ⟨rfl, hx3⟩; have hx03 := hx02.trans hx3) | (go_at_call 19; refine (Hrun.out _ hx03).mono ?_; rintro e w4 ⟨ha, hn4, hc4, xa, xn, xc, rfl, hx4, hn4b, hxn, hsp4, hlo4⟩; obtain rfl : hn4 = 0 := hsp4.1.symm; obtain rfl : xn = 0 := hlo4.1.symm))
      go_ret
      exact ⟨rfl, hx03.trans hx4⟩
  case pos =>
    subst he
    obtain ⟨rfl, t, hgoes, F⟩ := true_of (by_ := by_) hc0 hxo (by omega) hT
    obtain rfl : sn = 5 := by omega
    have hgo1 := fun W (hW : Ext w W) => goes_any a n cap l fa fn fc fs sa sc xs ba bn bc bs ca cn cc by_ W (hl.ext hW) (hf.ext hW) (hs.ext hW) (hp.ext hW) (hby.ext hW) hu ho ht hxo (by omega) (by omega)
    rw [hgoes] at hgo1
    have h5 := F.h5
    have hR : fs.length - 1 ≤ 10 := by omega
    have hrl := F.ok.roads.1
    have hl5 := F.ok.l5
    generalize fs.length - 1 = R at *
    have hgo : ∀ W, Ext w W → Calls Try.prog 35 #[.slice a n cap, .slice fa fn fc, .slice sa 5 sc, .slice ba bn bc, .slice ca cn cc] W fun e w' => ∃ ra rc, e = .returned (.tuple #[.agg (truCells t (.slice ra R rc)).toArray, .bool true]) ∧ Ext W w' ∧ SlAt w' 5 ra R (fun k => (roadRows t.roads).getD k []) := fun W hW =>
      (hgo1 W hW).mono fun e w' hp => by
        obtain ⟨ra, rc, h1, h2, h3⟩ := hp
        rw [hrl] at h1 h3
        exact ⟨ra, rc, h1, h2, h3⟩
    have hcp : ∀ (ra : Option Addr) (rc : Nat), (Try.prog.info? 66).map (·.size) = some (truCells t (.slice ra R rc)).toArray.size ∧ (#[.int .i64 0, .int .i64 0, .int .i64 0, .int .i64 0, .int .i64 0, .int .i64 0, .int .i64 0, .int .i64 0, .int .i64 0, .int .i64 0, .int .i64 0, .int .i64 0, .int .i64 0, .int .i64 0, .int .i64 0, .int .i64 0, .int .i64 0, .int .i64 0, .int .i64 0, .int .i64 0, .slice none 0 0] : Array Value).size = (truCells t (.slice ra R rc)).toArray.size ∧ (truCells t (.slice ra R rc)).toArray.all (·.oneCell') = true := fun ra rc => ⟨by rw [info66, tru_size hl5], by rw [tru_size hl5]; rfl, tru_one⟩
    have hset := fun (W : World) (b : Nat) (c : Array Value) (v : Array Value) (hb : W.heap[b]? = some (.cells c 66 (0, 0))) => setRow_heap W b c v 66 (0, 0) hb
    have hfx := stock_get hxo
    have tf := F
    have Hal := Lib.hid hal
    have Hrd := Lib.hid hrd
    have Hst := Lib.hid hst
    have Hrun := Lib.hid hrun
    have Hgo := Lib.hid hgo
    have Tf := Lib.hid tf
    have Hs := Lib.hid hs
    have Hrl := Lib.hid hrl
    have Hcp := Lib.hid hcp
    have Hl5 := Lib.hid hl5
    have Hset := Lib.hid hset
    have Hfx := Lib.hid hfx
    have Hbl := Lib.hid hbl
    clear hal hrd hst hrun hgo tf hs hrl hcp hl5 hset hfx hbl
    clear hl hf hby hu hp hxo ho ht hc0 hT hs5 hsl hnl hfl hgoes hgo1 F
    go_enter Try.func6, Try.ntmps6
    go_upto_region 7 with (first | (go_at_call 32; refine (Hal.out _).mono ?_; rintro e w1 ⟨rfl, hx1⟩) | (go_at_call 33; refine (Hrd.out _ hx1).mono ?_; rintro e w2 ⟨rfl, hx2⟩; have hx02 := hx1.trans hx2) | (go_at_call 34; refine (Hst.out _ hx02).mono ?_; rintro e w3 ⟨rfl, hx3⟩; have hx03 := hx02.trans hx3) | (go_at_call 19; refine (Hrun.out _ hx03).mono ?_; rintro e w4 ⟨ha, hn4, hc4, xa, xn, xc, rfl, hx4, hn4b, hxn, hsp4, hlo4⟩; have hx04 := hx03.trans hx4; obtain rfl : hn4 = 5 := (by rw [← hsp4.1]; exact h5); clear Hrun))
    go_upto_region 10 with (first | (go_at_call 35; refine (Hgo.out _ hx04).mono ?_; rintro e w5 ⟨ra, rc, rfl, hx5, hsl5⟩; have hx05 := hx04.trans hx5; obtain ⟨cp1, cp2, cp3⟩ := Hcp.out ra rc; have hz5 := heap_alloc_new w5 (.cells #[.int .i64 0, .int .i64 0, .int .i64 0, .int .i64 0, .int .i64 0, .int .i64 0, .int .i64 0, .int .i64 0, .int .i64 0, .int .i64 0, .int .i64 0, .int .i64 0, .int .i64 0, .int .i64 0, .int .i64 0, .int .i64 0, .int .i64 0, .int .i64 0, .int .i64 0, .int .i64 0, .slice none 0 0] 66); have hx56 := below_setRow ((Ext.refl w5).alloc (.cells #[.int .i64 0, .int .i64 0, .int .i64 0, .int .i64 0, .int .i64 0, .int .i64 0, .int .i64 0, .int .i64 0, .int .i64 0, .int .i64 0, .int .i64 0, .int .i64 0, .int .i64 0, .int .i64 0, .int .i64 0, .int .i64 0, .int .i64 0, .int .i64 0, .int .i64 0, .int .i64 0, .slice none 0 0] 66)) (Nat.le_refl _) (truCells t (.slice ra R rc)).toArray; have hT6 := Hset.out _ _ _ (truCells t (.slice ra R rc)).toArray hz5) | (refine wpList_store_row rfl 66 (.tmp 16) (.tmp 98) rfl w5.heap.size _ rfl rfl 66 _ hz5 cp1 cp2 cp3 ?_))
    have hT6 : TrAt _ _ t (.slice ra R rc) := hT6
    have hx06 := hx05.trans hx56
    have hsl6 := hsl5.ext hx56
    have hsp6 := hsp4.ext (hx5.trans hx56)
    have hlo6 := hlo4.ext (hx5.trans hx56)
    clear cp1 cp2 cp3 hz5 Hcp Hset hsl5 hsp4 hlo4 hx56 hx05 hx04 hx03 hx02 hx1 hx2 hx3 hx4 hx5 Hgo
    generalize (w5.alloc (.cells #[.int .i64 0, .int .i64 0, .int .i64 0, .int .i64 0, .int .i64 0, .int .i64 0, .int .i64 0, .int .i64 0, .int .i64 0, .int .i64 0, .int .i64 0, .int .i64 0, .int .i64 0, .int .i64 0, .int .i64 0, .int .i64 0, .int .i64 0, .int .i64 0, .int .i64 0, .int .i64 0, .slice none 0 0] 66)).setRow w5.heap.size (truCells t (.slice ra R rc)).toArray = w6 at *
    generalize w5.heap.size = tb at *
    have hs6 := Hs.out.ext hx06
    have HT6 := Lib.hid hT6
    have Hx06 := Lib.hid hx06
    have Hsl6 := Lib.hid hsl6
    have Hsp6 := Lib.hid hsp6
    have Hlo6 := Lib.hid hlo6
    have Hs6 := Lib.hid hs6
    clear hT6 hx06 hsl6 hsp6 hlo6 hs6
    clear Hs
    go_wp2_with fail
    go_loopw [113] (fun i wr => ∃ k : Nat, k ≤ 5 ∧ i = .int .i64 k ∧ Ext w6 wr) (fun i _ => 5 - (intOf i).toNat)
    case atStart => exact ⟨0, Nat.zero_le _, rfl, Ext.refl _⟩
    case round =>
      obtain ⟨k, hk, rfl, hx⟩ := hrel
      by_cases hlt : k < 5
      · have hlt' : decide ((k : Int) < 5) = true := by simp; omega
        obtain ⟨ab, ao, s, rfl, hsk, hab, c0, c1⟩ := (Hsp6.out.ext hx).get k hlt
        obtain ⟨sb, so, y, rfl, hyk, hsb, d0⟩ := (Hs6.out.ext hx).get k hlt
        have htr := HT6.out.ext hx
        have cH := htr.cH Hl5.out hlt
        have cG := htr.cG Hl5.out hlt
        have cO := htr.cO Hl5.out hlt
        have cL := htr.cL Hl5.out hlt
        obtain ⟨b1, b2⟩ := Tf.out.held k hlt
        have b3 := Tf.out.cons k hlt
        have v1 := Tf.out.ok.held.2 k
        have v2 := Tf.out.ok.given.2 k
        have v3 := Tf.out.ok.got.2 k
        have v4 := Tf.out.ok.lost.2 k
        have v5 := Hfx.out.2 k y hyk
        have hbl' := Hbl.out
        rw [hbl'] at v2 v3
        have e1 : h.getD k z0 = s := by simp [List.getD, hsk]
        have e2 : xs.getD k 0 = y := by simp [List.getD, hyk]
        rw [e1] at b1 b2
        rw [e2] at b3
        generalize t.held.getD k 0 = H at *
        generalize t.given.getD k 0 = G at *
        generalize t.got.getD k 0 = O at *
        generalize t.lost.getD k 0 = L at *
        have hB1 : decide (H < s.lo) = false := decide_eq_false (by omega)
        have hB2 : decide (s.hi < H) = false := decide_eq_false (by omega)
        have hB3 : (y + O != G + L + H) = false := by rw [bne_eq_false_iff_eq]; exact b3
        have w1 : O ≤ 1000000000000000 * 60 := by omega
        have w2 : G ≤ 1000000000000000 * 60 := by omega
        have w3 : L ≤ 1000000000000000 * 10 := by omega
        have hx1 : Ext wr (wr.alloc (.cells #[.int .i64 s.lo, .int .i64 s.hi] 70)) := (Ext.refl _).alloc _
        have hbz := heap_alloc_new wr (.cells #[.int .i64 s.lo, .int .i64 s.hi] 70)
        have cH := hx1.cell cH
        have cG := hx1.cell cG
        have cO := hx1.cell cO
        have cL := hx1.cell cL
        have d0 := hx1.cell d0
        have hx61 := hx.trans hx1
        have Hx61 := Lib.hid hx61
        clear hx61
        clear htr hx hyk hsk e1 e2 hx1
        go_upto_region 13 with fail
        clear c0 c1
        generalize wr.alloc (.cells #[.int .i64 s.lo, .int .i64 s.hi] 70) = W1 at *
        refine wp_region_ext (by kernel_rfl) (by kernel_rfl) (fun f hf hs => ?_)
        have f0 := fun q => ((hf q).box hbz).1
        have f1 := fun q => (hf q).cell cH
        have f2 := fun q => (hf q).cell cG
        have f3 := fun q => (hf q).cell cO
        have f4 := fun q => (hf q).cell cL
        have f5 := fun q => (hf q).cell d0
        clear hf hs
        repeat (go_big_quiet_step (fail))
        refine wpQuiet_nil ?_
        intro W8 hW8
        clear f0 f1 f2 f3 f4 f5
        go_wp2_with fail
        go_roundw
        case rel => exact ⟨k + 1, by omega, by go_num, Hx61.out.trans hW8⟩
        case measure => simp [intOf]; omega
      · obtain rfl : k = 5 := by omega
        rw [show ((5 : Nat) : Int) = 5 from rfl]
        have hx0 := Hx06.out.trans hx
        have hT0 := HT6.out.ext hx
        have hsl0 := Hsl6.out.ext hx
        have hlo0 := Hlo6.out.ext hx
        have Hx0 := Lib.hid hx0
        have HT0 := Lib.hid hT0
        have Hsl0 := Lib.hid hsl0
        have Hlo0 := Lib.hid hlo0
        clear hx0 hT0 hsl0 hlo0
        clear hx HT6 Hsl6 Hlo6 Hsp6 Hs6 Hfx
        go_upto_if 114 with fail
        iterate 6 go_step
        exact trueTail Tf.out HT0.out hR Hsl0.out Hlo0.out hxn Hx0.out
end Go.Proofs.Ytkbhmajcddmhnaa

/- It is proved that MarketTrue returns true whatever the input, and that the input reads as it did. No conditions. -/
namespace Go.Proofs.Ytkbhmajcddmhnaa.marketTrueDone
open Go.ChangeShapes Go.WideShapes Go.ChangeAt Go.RowKit
open Go.ChangeMaps (open_string shut_string)
set_option linter.unusedVariables false

theorem own : ownKnob Try.prog.godebug = none := by kernel_rfl
theorem laidOut : laidOutB Try.prog = true := by kernel_rfl

set_option maxRecDepth 100000 in
theorem lifted (os : Os) (started : os.Started) (H : Type) (enc : TypeId × Value → H) :
    ReturnsInHanded {} Try.checked os 6 .any (Rows.marketTrueSpec.pre6 enc Try.prog Try.f6 Rows.marketTrueRow.domain false) (Rows.marketTrueSpec.post enc Try.prog Try.f6 false true false false) := by
  refine returnsInHanded_of_change (C := Try.checked) own started (by kernel_rfl) Try.func6
    (ChangeSpec.witness6 (enc := enc) (C := Try.checked) false ⟨#[], #[.slice none 0 0, .slice none 0 0, .slice none 0 0, .slice none 0 0, .slice none 0 0], []⟩ 8 (by kernel_rfl) (by kernel_rfl) (by kernel_rfl) (by kernel_rfl)) ?_
  intro W base args ds gs before hval0 hW hcnd _
  have hval : ∀ (j : Nat) t v, Try.f6.params[j]? = some t → args[j]? = some v → Value.okWide Try.prog W .any base t v := hval0
  have hW' := hW
  obtain ⟨p, q, hA0, hV, rfl, hfz, hnd⟩ := hW
  have hA : DataW.TrodAll enc Try.prog W 0 (fun _ => true) true Try.f6.params.toList args.toList ds p := hA0
  rw [Try.params6] at hA hval
  obtain ⟨v0, vs0, d0, ds0, p0, q0, hargs, rfl, rfl, h0, r0⟩ := trodAll_cons hA
  obtain ⟨v1, vs1, d1, ds1, p1, q1, rfl, rfl, rfl, h1, r1⟩ := trodAll_cons r0
  obtain ⟨v2, vs2, d2, ds2, p2, q2, rfl, rfl, rfl, h2, r2⟩ := trodAll_cons r1
  obtain ⟨v3, vs3, d3, ds3, p3, q3, rfl, rfl, rfl, h3, r3⟩ := trodAll_cons r2
  obtain ⟨v4, vs4, d4, ds4, p4, q4, rfl, rfl, rfl, h4, r4⟩ := trodAll_cons r3
  obtain ⟨rfl, rfl, rfl⟩ := trodAll_nil r4
  obtain rfl : args = #[v0, v1, v2, v3, v4] := by cases args; simp_all
  obtain ⟨rfl, rfl⟩ := trodVars_none hV
  obtain ⟨a0, len0, cap0, rfl⟩ := okWide_slice Try.underlying22 (hval 0 22 v0 rfl rfl)
  have k0 := h0
  have lt0 : ∀ x ∈ p0, x.block < W.heap.size := by obtain ⟨m, hm⟩ := k0; exact DataW.trod_lt m _ _ _ hm
  obtain ⟨lc0, cm0, l0, w0⟩ : len0 ≤ cap0 ∧ cap0 ≤ maxLen ∧ ∃ l, OffersAt W a0 len0 l := by
    obtain ⟨fuel, hf⟩ := h0
    exact take_offers hf
  obtain ⟨a1, len1, cap1, rfl⟩ := okWide_slice Try.underlying23 (hval 1 23 v1 rfl rfl)
  have k1 := h1
  have lt1 : ∀ x ∈ p1, x.block < W.heap.size := by obtain ⟨m, hm⟩ := k1; exact DataW.trod_lt m _ _ _ hm
  obtain ⟨lc1, cm1, l1, w1⟩ : len1 ≤ cap1 ∧ cap1 ≤ maxLen ∧ ∃ l, FairsAt W a1 len1 l := by
    obtain ⟨fuel, hf⟩ := h1
    exact take_fairs hf
  obtain ⟨a2, len2, cap2, rfl⟩ := okWide_slice Try.underlying24 (hval 2 24 v2 rfl rfl)
  have k2 := h2
  have lt2 : ∀ x ∈ p2, x.block < W.heap.size := by obtain ⟨m, hm⟩ := k2; exact DataW.trod_lt m _ _ _ hm
  obtain ⟨lc2, cm2, l2, w2⟩ : len2 ≤ cap2 ∧ cap2 ≤ maxLen ∧ ∃ l, IntsAt .i64 W a2 len2 l ∧ ∀ i ∈ l, (Lit.int .i64 i).wf = true := by
    obtain ⟨fuel, hf⟩ := h2
    exact take_ints Try.underlying24 Try.underlying3 (by kernel_rfl) hf
  obtain ⟨a3, len3, cap3, rfl⟩ := okWide_slice Try.underlying33 (hval 3 33 v3 rfl rfl)
  have k3 := h3
  have lt3 : ∀ x ∈ p3, x.block < W.heap.size := by obtain ⟨m, hm⟩ := k3; exact DataW.trod_lt m _ _ _ hm
  obtain ⟨lc3, cm3, l3, w3⟩ : len3 ≤ cap3 ∧ cap3 ≤ maxLen ∧ ∃ l, BartersAt W a3 len3 l := by
    obtain ⟨fuel, hf⟩ := h3
    exact take_barters hf
  obtain ⟨a4, len4, cap4, rfl⟩ := okWide_slice Try.underlying60 (hval 4 60 v4 rfl rfl)
  have k4 := h4
  have lt4 : ∀ x ∈ p4, x.block < W.heap.size := by obtain ⟨m, hm⟩ := k4; exact DataW.trod_lt m _ _ _ hm
  obtain ⟨lc4, cm4, l4, w4⟩ : len4 ≤ cap4 ∧ cap4 ≤ maxLen ∧ ∃ l, IntsAt .u32 W a4 len4 l ∧ ∀ i ∈ l, (Lit.int .u32 i).wf = true := by
    obtain ⟨fuel, hf⟩ := h4
    exact take_ints Try.underlying60 Try.underlying137 (by kernel_rfl) hf
  clear hA0 hval0
  refine (lawTrue_any a0 len0 cap0 l0 a1 len1 cap1 l1 a2 len2 cap2 l2 a3 len3 cap3 l3 a4 len4 cap4 l4 W w0 w1 w2.1 w3 w4.1 (wf_u32 w4.2) (Nat.le_trans lc0 cm0) (Nat.le_trans lc1 cm1) (Nat.le_trans lc2 cm2) (Nat.le_trans lc3 cm3) (Nat.le_trans lc4 cm4)).mono fun e W' ⟨he, bel⟩ => ?_
  subst he
  exact ⟨_, rfl, _, _, _, [], _, [], hW', trodAll_mk1 (shut_bool Try.underlying4 _), (trodAll_cons_mk (Below.trod laidOut (by kernel_rfl) (of_decide_eq_true (by kernel_rfl)) k0 bel lt0) (trodAll_cons_mk (Below.trod laidOut (by kernel_rfl) (of_decide_eq_true (by kernel_rfl)) k1 bel lt1) (trodAll_cons_mk (Below.trod laidOut (by kernel_rfl) (of_decide_eq_true (by kernel_rfl)) k2 bel lt2) (trodAll_cons_mk (Below.trod laidOut (by kernel_rfl) (of_decide_eq_true (by kernel_rfl)) k3 bel lt3) (trodAll_cons_mk (Below.trod laidOut (by kernel_rfl) (of_decide_eq_true (by kernel_rfl)) k4 bel lt4) trodAll_mk0))))), rfl, bel.frame _, fun h => by cases h⟩

theorem over : Rows.marketTrueRow.holds Try.pinned (OpenSpec.ofChange Rows.marketTrueSpec) :=
  OpenClaim.holds_of_wide 6 Try.f6 rfl rfl rfl rfl rfl rfl rfl ⟨rfl, rfl, rfl, rfl, rfl⟩ rfl rfl rfl rfl rfl (by kernel_rfl) Try.func6 (by kernel_rfl)
    (of_decide_eq_true (by kernel_rfl)) (by unfold Func.isWrapper; first | (rw [if_pos (by decide +kernel)]; kernel_rfl) | (rw [if_neg (by decide +kernel)]; exact ⟨rfl, rfl⟩))
    (fun os started H enc _ => lifted os started H enc)

theorem proved : Rows.MarketTrueSaid := over
#print axioms proved
end Go.Proofs.Ytkbhmajcddmhnaa.marketTrueDone
