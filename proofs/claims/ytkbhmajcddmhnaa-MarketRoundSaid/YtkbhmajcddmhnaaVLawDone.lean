/- The law MarketDone. -/
import Derived.Test.YtkbhmajcddmhnaaVReady
import Derived.Test.YtkbhmajcddmhnaaVDoneLaw
import Derived.Deep.CutRange
namespace Go.Proofs.Ytkbhmajcddmhnaa
open Go.RowKit
set_option linter.unusedVariables false
set_option linter.unusedSimpArgs false

theorem mk5 : ∀ w, (Instr.makeSlice 24 (.int .i64 5) (.int .i64 5)).run Try.prog w = .ok (.slice (some ⟨w.heap.size, 0, none⟩) 5 5) (w.alloc (.cells (Array.replicate 5 (.int .i64 0)) 3)) := fun w => mk24 5 (by omega) w
theorem barterRows_append (l m : List Barter) : barterRows (l ++ m) = barterRows l ++ barterRows m := by simp [barterRows]
set_option maxRecDepth 100000 in
set_option maxHeartbeats 4000000 in
theorem lawDone_any (a : Option Addr) (n cap : Nat) (l : List Offer) (fa : Option Addr) (fn fc : Nat) (fs : List Fair) (g0 u0 want : Int) (w : World)
    (hl : OffersAt w a n l) (hf : FairsAt w fa fn fs) (hn : n ≤ maxLen) (hfn : fn ≤ maxLen) :
    Calls Try.prog 9 #[.slice a n cap, .slice fa fn fc, .int .i64 g0, .int .i64 u0, .int .i64 want] w fun e w' => e = .returned (.bool true) ∧ Ext w w' := by
  have hal := fun W => alive_any W
  have hrd := fun W (hW : Ext w W) => ready_any a n cap l fa fn fc fs W (hl.ext hW) (hf.ext hW) hn hfn
  unfold maxLen at hn hfn
  cases hr : readyB l fs with
  | false =>
    rw [hr] at hrd
    have Hal := Lib.hid hal
    have Hrd := Lib.hid hrd
    clear hal hrd
    clear hl hf hr
    go_enter Try.func9, Try.ntmps9
    go_wp2_with (first | (go_at_call 32; refine (Hal.out _).mono ?_; rintro e w1 ⟨rfl, hx1⟩) | (go_at_call 33; refine (Hrd.out _ hx1).mono ?_; rintro e w2 ⟨rfl, hx2⟩))
    go_ret
    exact ⟨rfl, hx1.trans hx2⟩
  | true =>
  have hr2 := hr
  simp only [readyB, Bool.and_eq_true, Bool.not_eq_true', decide_eq_true_eq] at hr2
  obtain ⟨ho, ht⟩ := checkOf_zero hr2.2
  rw [hr] at hrd
  have hc0 := hr2.2
  clear hr hr2
  by_cases b1 : g0 < 0
  · have b1' : decide (g0 < 0) = true := decide_eq_true b1
    have Hal := Lib.hid hal
    have Hrd := Lib.hid hrd
    clear hal hrd
    clear hl hf ho ht hc0
    go_enter Try.func9, Try.ntmps9
    go_wp2_with (first | (go_at_call 32; refine (Hal.out _).mono ?_; rintro e w1 ⟨rfl, hx1⟩) | (go_at_call 33; refine (Hrd.out _ hx1).mono ?_; rintro e w2 ⟨rfl, hx2⟩))
    go_ret
    exact ⟨rfl, hx1.trans hx2⟩
  have b1' : decide (g0 < 0) = false := decide_eq_false b1
  by_cases b2 : 5 ≤ g0
  · have b2' : decide (5 ≤ g0) = true := decide_eq_true b2
    have Hal := Lib.hid hal
    have Hrd := Lib.hid hrd
    clear hal hrd
    clear hl hf ho ht hc0
    go_enter Try.func9, Try.ntmps9
    go_wp2_with (first | (go_at_call 32; refine (Hal.out _).mono ?_; rintro e w1 ⟨rfl, hx1⟩) | (go_at_call 33; refine (Hrd.out _ hx1).mono ?_; rintro e w2 ⟨rfl, hx2⟩))
    go_ret
    exact ⟨rfl, hx1.trans hx2⟩
  have b2' : decide (5 ≤ g0) = false := decide_eq_false b2
  by_cases b3 : want < 0
  · have b3' : decide (want < 0) = true := decide_eq_true b3
    have Hal := Lib.hid hal
    have Hrd := Lib.hid hrd
    clear hal hrd
    clear hl hf ho ht hc0
    go_enter Try.func9, Try.ntmps9
    go_wp2_with (first | (go_at_call 32; refine (Hal.out _).mono ?_; rintro e w1 ⟨rfl, hx1⟩) | (go_at_call 33; refine (Hrd.out _ hx1).mono ?_; rintro e w2 ⟨rfl, hx2⟩))
    go_ret
    exact ⟨rfl, hx1.trans hx2⟩
  have b3' : decide (want < 0) = false := decide_eq_false b3
  by_cases b4 : 5 ≤ want
  · have b4' : decide (5 ≤ want) = true := decide_eq_true b4
    have Hal := Lib.hid hal
    have Hrd := Lib.hid hrd
    clear hal hrd
    clear hl hf ho ht hc0
    go_enter Try.func9, Try.ntmps9
    go_wp2_with (first | (go_at_call 32; refine (Hal.out _).mono ?_; rintro e w1 ⟨rfl, hx1⟩) | (go_at_call 33; refine (Hrd.out _ hx1).mono ?_; rintro e w2 ⟨rfl, hx2⟩))
    go_ret
    exact ⟨rfl, hx1.trans hx2⟩
  have b4' : decide (5 ≤ want) = false := decide_eq_false b4
  by_cases b5 : u0 < 0
  · have b5' : decide (u0 < 0) = true := decide_eq_true b5
    have Hal := Lib.hid hal
    have Hrd := Lib.hid hrd
    clear hal hrd
    clear hl hf ho ht hc0
    go_enter Try.func9, Try.ntmps9
    go_wp2_with (first | (go_at_call 32; refine (Hal.out _).mono ?_; rintro e w1 ⟨rfl, hx1⟩) | (go_at_call 33; refine (Hrd.out _ hx1).mono ?_; rintro e w2 ⟨rfl, hx2⟩))
    go_ret
    exact ⟨rfl, hx1.trans hx2⟩
  have b5' : decide (u0 < 0) = false := decide_eq_false b5
  by_cases b6 : 1000000 < u0
  · have b6' : decide (1000000 < u0) = true := decide_eq_true b6
    have Hal := Lib.hid hal
    have Hrd := Lib.hid hrd
    clear hal hrd
    clear hl hf ho ht hc0
    go_enter Try.func9, Try.ntmps9
    go_wp2_with (first | (go_at_call 32; refine (Hal.out _).mono ?_; rintro e w1 ⟨rfl, hx1⟩) | (go_at_call 33; refine (Hrd.out _ hx1).mono ?_; rintro e w2 ⟨rfl, hx2⟩))
    go_ret
    exact ⟨rfl, hx1.trans hx2⟩
  have b6' : decide (1000000 < u0) = false := decide_eq_false b6
  have hao : argsOk g0 u0 want = true := by simp only [argsOk, inB, Bool.and_eq_true, decide_eq_true_eq]; omega
  have hh0 : HandOk 0 ⟨g0, u0⟩ := ⟨⟨g0.toNat, by simp only; omega, by omega⟩, by simp only; omega, by simp; omega⟩
  have hbo : bestOf l fs g0 u0 want = chosen (bestTo l fs ⟨g0, u0⟩ want ((l.length + 1) ^ fs.length)) := by unfold bestOf; rw [if_neg (by simp [hc0]), if_neg (by simp [hao])]
  have hspec := best_spec (l := l) (fs := fs) (h0 := ⟨g0, u0⟩) (want := want) ho ht hh0
  obtain ⟨F, hF⟩ : ∃ F, bestTo l fs ⟨g0, u0⟩ want ((l.length + 1) ^ fs.length) = F := ⟨_, rfl⟩
  rw [hF] at hbo hspec
  have hlen := trip_len ht
  have hfl := hf.1
  have hnl := hl.1
  have hol := offers_len ho
  have hn10 : n ≤ 10 := by omega
  have hfn5 : fn ≤ 5 := by omega
  have hfn1 : 1 ≤ fn := by omega
  have hbest := fun W (hW : Ext w W) => mBest_any a n cap l fa fn fc fs g0 u0 want W (hl.ext hW) (hf.ext hW) (by omega) (by omega)
  rw [hbo] at hbest
  clear hol hF
  cases F with
  | none =>
    have hbest2 : ∀ W, Ext w W → Calls Try.prog 28 #[.slice a n cap, .slice fa fn fc, .int .i64 g0, .int .i64 u0, .int .i64 want] W (BestPost ⟨[], 0, 6⟩ W) := hbest
    have Hal := Lib.hid hal
    have Hrd := Lib.hid hrd
    have Hbest2 := Lib.hid hbest2
    clear hal hrd hbest2
    clear hl hf hbo hspec ho ht hc0 hbest hlen hfl hnl
    go_enter Try.func9, Try.ntmps9
    go_wp2_with (first | (go_at_call 32; refine (Hal.out _).mono ?_; rintro e w1 ⟨rfl, hx1⟩) | (go_at_call 33; refine (Hrd.out _ hx1).mono ?_; rintro e w2 ⟨rfl, hx2⟩) | (go_at_call 28; refine (Hbest2.out _ (hx1.trans hx2)).mono ?_; rintro e w5 ⟨ba, bn, bc, rfl, hx5, hbn, hbi⟩))
    go_ret
    exact ⟨rfl, (hx1.trans hx2).trans hx5⟩
  | some x =>
  obtain ⟨B, V⟩ := x
  have hbest2 : ∀ W, Ext w W → Calls Try.prog 28 #[.slice a n cap, .slice fa fn fc, .int .i64 g0, .int .i64 u0, .int .i64 want] W (BestPost ⟨B, V, 0⟩ W) := hbest
  obtain ⟨hB1, hB2, _⟩ := hspec
  simp only at hB1 hB2
  obtain ⟨g, rfl⟩ : ∃ g : Nat, g0 = g := ⟨g0.toNat, by omega⟩
  have hgo := gains_some hB2
  obtain ⟨hfin, hlb, held, losses, hrun, hheld, hge⟩ := do_run ho ht hc0 (show g < 5 by omega) (by omega) (by omega) hB1 hgo
  have hBl : B.length = fn := by rw [hB1.1, hfl]
  have hBr := fun (z : Int) (hz : z ∈ B) => hB1.2 z hz
  rw [hnl] at hBr
  have hok : ∀ k, k ≤ fn → HandOk k (doTo l fs B ⟨g, u0⟩ k).hand := by
    intro k hk
    have hs : ∃ h, goneTo l fs B ⟨g, u0⟩ k = some h := by
      cases e : goneTo l fs B ⟨g, u0⟩ k with
      | none => rw [goneOf, goneTo_none e _ (by omega)] at hgo; cases hgo
      | some h => exact ⟨h, rfl⟩
    obtain ⟨h, hh⟩ := hs
    rw [doTo_hand hh]
    exact goneTo_ok ho ht (fun k hk => (hB1.2 k hk).2) hh0 (by omega) hh
  rw [hfl] at hfin hlb hrun
  have hmk := mk5
  have hrun2 := fun sa sc ba bc W (hW : Ext w W) (h1 : IntsAt .i64 W sa 5 ((List.replicate 5 0).set g u0)) (h2 : BartersAt W ba (doTo l fs B ⟨g, u0⟩ fn).bs.length (doTo l fs B ⟨g, u0⟩ fn).bs) =>
    run_any a n cap l fa fn fc fs sa 5 sc _ ba _ bc _ W (hl.ext hW) (hf.ext hW) h1 h2 (by omega) (by omega) (by omega) (by omega)
  rw [hrun] at hrun2
  have Hal := Lib.hid hal
  have Hrd := Lib.hid hrd
  have Hbest2 := Lib.hid hbest2
  have Hl := Lib.hid hl
  have Hf := Lib.hid hf
  have Ho := Lib.hid ho
  have Ht := Lib.hid ht
  have Hfin := Lib.hid hfin
  have HBl := Lib.hid hBl
  have HBr := Lib.hid hBr
  have Hok := Lib.hid hok
  have Hrun2 := Lib.hid hrun2
  have Hheld := Lib.hid hheld
  have Hge := Lib.hid hge
  have Hfl := Lib.hid hfl
  have Hnl := Lib.hid hnl
  clear hal hrd hbest2 hl hf ho ht hfin hBl hBr hok hrun2 hheld hge hfl hnl
  clear hbo hc0 hbest hlen hB1 hB2 hgo hrun hlb
  go_enter Try.func9, Try.ntmps9
  go_upto_region 10 with (first | (go_at_call 32; refine (Hal.out _).mono ?_; rintro e w1 ⟨rfl, hx1⟩) | (go_at_call 33; refine (Hrd.out _ hx1).mono ?_; rintro e w2 ⟨rfl, hx2⟩) | (go_at_call 28; refine (Hbest2.out _ (hx1.trans hx2)).mono ?_; rintro e w3 ⟨ba, bn, bc, rfl, hx3, hbn, hbi⟩; obtain rfl : fn = bn := HBl.out.symm.trans hbi.1; have Hbi := Lib.hid hbi; clear hbi))
  have hxw3 := (hx1.trans hx2).trans hx3
  have harr := arr_new w3 5
  have hx4 : Ext w (w3.alloc (.cells (Array.replicate 5 (.int .i64 0)) 3)) := hxw3.alloc _
  have hx34 : Ext w3 (w3.alloc (.cells (Array.replicate 5 (.int .i64 0)) 3)) := (Ext.refl _).alloc _
  obtain ⟨sb, hsb⟩ : ∃ sb, w3.heap.size = sb := ⟨_, rfl⟩
  have hsbw : w.heap.size ≤ sb := by rw [← hsb]; exact hxw3.size
  rw [hsb] at harr
  rw [hsb]
  have hbi4 := Hbi.out.ext hx34
  generalize w3.alloc (.cells (Array.replicate 5 (.int .i64 0)) 3) = w4 at *
  have hg5 : g < 5 := by omega
  have c0 := harr.cell (i := g) (x := 0) (by rw [List.getElem?_replicate_of_lt hg5])
  have cf := harr.free g
  have har5 := harr.set g u0
  have hx5 := hx4.setCell (p := ⟨sb, g, none⟩) hsbw (.int .i64 u0)
  have hbi5 : IntsAt .i64 (w4.setCell ⟨sb, g, none⟩ (.int .i64 u0)) ba fn B := by
    refine hbi4.same fun x hx => heap_setCell_other _ _ _ _ ?_
    obtain ⟨b', o', e, hk⟩ := Hbi.out.2 (by omega)
    rw [hx] at e
    cases e
    have hlb := block_lt_of_cell (hk 0 (by omega) 0 _ rfl)
    simp only at hlb
    rw [hsb] at hlb
    exact Nat.ne_of_lt hlb
  have Har5 := Lib.hid har5
  have Hx5 := Lib.hid hx5
  have Hbi5 := Lib.hid hbi5
  clear har5 hx5 hbi5
  clear harr hx4 hx34 hbi4 hx1 hx2 hx3 hxw3 Hbi hmk
  go_wp2_with fail
  clear c0 cf
  generalize w4.setCell ⟨sb, g, none⟩ (.int .i64 u0) = w5 at *
  go_loopw [16, 17, 18, 88] (fun vu vg vb i wr => ∃ (k : Nat) (gn : Nat) (u : Int) (bs : List Barter), k ≤ fn ∧ i = .int .i64 k ∧ vu = .int .i64 u ∧ vg = .int .i64 gn ∧ doTo l fs B ⟨g, u0⟩ k = ⟨⟨gn, u⟩, bs⟩ ∧ Ext w5 wr ∧ Owns wr w5.heap.size 46 3 vb (barterRows bs)) (fun _ _ _ i _ => fn - (intOf i).toNat)
  case atStart => exact ⟨0, g, u0, [], Nat.zero_le _, rfl, rfl, rfl, rfl, Ext.refl _, Owns.nil _ _ _ _⟩
  case round =>
    obtain ⟨k, gn, u, bs, hk, rfl, rfl, rfl, hdo, hx, hown⟩ := hrel
    have hokk := Hok.out k hk
    rw [hdo] at hokk
    have hokk2 := hokk
    obtain ⟨⟨gn', hgn, hgn5⟩, hu0, _⟩ := hokk2
    simp only at hgn hu0
    obtain rfl : gn = gn' := by omega
    have Hdo := Lib.hid hdo
    have Hx := Lib.hid hx
    have Hown := Lib.hid hown
    clear hdo hx hown
    by_cases hlt : k < fn
    · have hlt' : decide ((k : Int) < (fn : Int)) = true := by simp; omega
      have hule := hokk.le4 (by omega)
      simp only at hule
      obtain ⟨zb, zo, z, rfl, hzk, hzb, e0⟩ := (Hbi5.out.ext Hx.out).get k hlt
      obtain ⟨z1, z2⟩ := HBr.out z (List.mem_of_getElem? hzk)
      have z1' : decide (z < -1) = false := by simp; omega
      have z2' : decide ((n : Int) ≤ z) = false := by simp; omega
      have hnext : doTo l fs B ⟨g, u0⟩ (k + 1) = BD.step l fs k z ⟨⟨gn, u⟩, bs⟩ := by
        simp only [doTo, Hdo.out, List.getD, hzk, Option.getD_some]
      have Hnext := Lib.hid hnext
      clear hnext
      clear hzk
      by_cases hz0 : 0 ≤ z
      · obtain ⟨j, rfl⟩ : ∃ j : Nat, z = j := ⟨z.toNat, by omega⟩
        have hz0B : decide ((0 : Int) ≤ (j : Int)) = true := by simp
        obtain ⟨ob, oo, o, rfl, hoj, hob, q0, q1, q2, q3, q4, q5, q6, q7⟩ := (Hl.out.ext (Hx5.out.trans Hx.out)).get j (by omega)
        obtain ⟨gi, ge, hgi, hge, hgi5, hge5, hgne, hu1, hu2, hlo1, hlo2, hhi, _⟩ := offer_bounds Ho.out hoj
        have hoat : offerAt l (j : Int) = o := by simp [offerAt, List.getD, hoj]
        have Hoat := Lib.hid hoat
        have Hoj := Lib.hid hoj
        clear hoat hoj
        obtain ⟨pl, og, oe, un, lo, hi, fr, tu⟩ := o
        simp only at hgi hge q0 q1 q2 q3 q4 q5 q6 q7 hu1 hu2 hlo1 hlo2 hhi
        subst hgi hge
        obtain ⟨dv1, dv2⟩ := div_bd hu0 hu1
        obtain ⟨D, hD⟩ : ∃ D, u / un = D := ⟨_, rfl⟩
        rw [hD] at dv1 dv2
        obtain ⟨m1, m2⟩ := mul_bd dv1 (show D ≤ 6250000000000 by omega) (show 0 ≤ lo by omega) (show lo ≤ 50 by omega)
        simp only [Int.reduceMul] at m2
        obtain ⟨P, hP⟩ : ∃ P, D * lo = P := ⟨_, rfl⟩
        rw [hP] at m1 m2
        have hmid : midHand l (j : Int) ⟨gn, u⟩ = ⟨ge, P⟩ := by simp only [midHand, Hoat.out, takeHand, hD, hP]; rw [if_pos (by omega)]
        by_cases hD0 : 0 < D
        · have hD0B : decide (0 < D) = true := decide_eq_true hD0
          have hmb : midBs l k (j : Int) ⟨⟨gn, u⟩, bs⟩ = bs ++ [⟨k, j, D⟩] := by simp only [midBs, Hoat.out, hD]; rw [if_pos ⟨by omega, hD0⟩]
          have hn2 := Hnext.out
          rw [BD.step, hmid, hmb] at hn2
          have Hn2 := Lib.hid hn2
          clear hn2
          clear hmid hmb Hnext
          have hxA : Ext wr ((wr.alloc (.cells #[.int .i64 pl, .int .i64 gi, .int .i64 ge, .int .i64 un, .int .i64 lo, .int .i64 hi, .int .i64 fr, .int .i64 tu] 81)).alloc (.cells #[.int .i64 k, .int .i64 j, .int .i64 D] 46)) := ((Ext.refl _).alloc _).alloc _
          have hb46 := heap_alloc_new (wr.alloc (.cells #[.int .i64 pl, .int .i64 gi, .int .i64 ge, .int .i64 un, .int .i64 lo, .int .i64 hi, .int .i64 fr, .int .i64 tu] 81)) (.cells #[.int .i64 k, .int .i64 j, .int .i64 D] 46)
          rw [show (wr.alloc (.cells #[.int .i64 pl, .int .i64 gi, .int .i64 ge, .int .i64 un, .int .i64 lo, .int .i64 hi, .int .i64 fr, .int .i64 tu] 81)).heap.size = wr.heap.size + 1 by simp] at hb46
          have hsrc := (barters_block [⟨k, j, D⟩] hb46).src
          have hownA := Hown.out.ext hxA
          have hbox1 := ((Ext.refl (wr.alloc (.cells #[.int .i64 pl, .int .i64 gi, .int .i64 ge, .int .i64 un, .int .i64 lo, .int .i64 hi, .int .i64 fr, .int .i64 tu] 81))).alloc (.cells #[.int .i64 k, .int .i64 j, .int .i64 D] 46)).heap (heap_alloc_new wr (.cells #[.int .i64 pl, .int .i64 gi, .int .i64 ge, .int .i64 un, .int .i64 lo, .int .i64 hi, .int .i64 fr, .int .i64 tu] 81))
          have hlen5 : bs.length ≤ 5 := by
            have := doTo_len l fs B ⟨g, u0⟩ k
            rw [Hdo.out] at this
            simp only at this
            omega
          have HxA := Lib.hid hxA
          have Hsrc := Lib.hid hsrc
          have HownA := Lib.hid hownA
          have Hbox1 := Lib.hid hbox1
          clear hxA hsrc hownA hbox1
          clear hb46
          go_wp2_with (at_builtin; refine wpList_app elem33 _ rfl (.tmp 113) (.tmp 118) rfl w5.heap.size _ (barterRows bs) rfl HownA.out (some ⟨wr.heap.size + 1, 0, none⟩) 1 1 (barterRows [⟨k, j, D⟩]) rfl rfl Hsrc.out (barterRows_row _) ?_ ?_ ?_)
          · simp [barterRows]; omega
          · have := Hx.out.size; simp; omega
          · intro v6 w6 ho6 hg6 _
            rw [← barterRows_append] at ho6
            have hx6 : Ext w5 w6 := (Hx.out.trans HxA.out).app HownA.out hg6
            have hb6 := (hg6.block wr.heap.size (by simp; omega) (by intro h; have := (Hown.out.lt _ h.symm).2; omega)).trans Hbox1.out
            have Ho6 := Lib.hid ho6
            have Hx6 := Lib.hid hx6
            clear ho6 hx6
            clear hg6 Hbox1 HownA Hown Hsrc HxA
            go_wp2_with fail
            refine wp_region_ext (by kernel_rfl) (by kernel_rfl) (fun f hf hs => ?_)
            have f0 := fun q => ((hf q).box hb6).1
            clear hf hs
            repeat (go_big_quiet_step (fail))
            refine wpQuiet_nil ?_
            intro W7 hW7
            clear f0
            have hx7 := Hx6.out.trans hW7
            have ho7 := Ho6.out.ext hW7
            clear hb6 hW7 hP hD
            have Hx7 := Lib.hid hx7
            have Ho7 := Lib.hid ho7
            clear hx7 ho7
            by_cases hlast : k + 1 < fn
            · have hlastB : decide ((k : Int) < (fn : Int) - 1) = true := by simp; omega
              obtain ⟨fb, fo, f, ka, kn, kc, rfl, hfk, hfb, d0, d1, d2, _, _, d3⟩ := (Hf.out.ext (Hx5.out.trans Hx7.out)).get k hlt
              have hfk5 := (fair_bounds Ht.out hfk).1
              obtain rfl : kn = 5 := by rw [← d3.1]; exact hfk5
              have hke : keepsOf fs k = f.keeps := by simp [keepsOf, List.getD, hfk]
              have hfb2 := (fair_bounds Ht.out hfk).2.2.2.2.2
              obtain ⟨kb, ko, s, rfl, hs, hkb, z0c, z1c⟩ := d3.get ge hge5
              obtain ⟨s0, s1, s2⟩ := hfb2 ge s hs
              obtain ⟨n1, n2⟩ := mul_bd m1 m2 s0 (show s.lo ≤ 1000 by omega)
              simp only [Int.reduceMul] at n2
              obtain ⟨Q, hQ⟩ : ∃ Q, P * s.lo = Q := ⟨_, rfl⟩
              rw [hQ] at n1 n2
              have hroad : roadHand fs k ⟨ge, P⟩ = ⟨ge, Q / 1000⟩ := by
                simp only [roadHand, hke, Int.toNat_natCast, List.getD, hs, Option.getD_some]
                rw [if_pos (by rw [Hfl.out]; omega)]
                simp only [lf, hQ]
              rw [hroad] at Hn2
              clear hroad hs hfk hfk5 hke hfb2 d3
              go_wp2_with fail
              go_roundw
              case rel => exact ⟨k + 1, ge, Q / 1000, _, by omega, by go_num, rfl, rfl, Hn2.out, Hx7.out, Ho7.out⟩
              case measure => simp [intOf]; omega
            · have hlastB : decide ((k : Int) < (fn : Int) - 1) = false := by simp; omega
              have hroad : roadHand fs k ⟨ge, P⟩ = ⟨ge, P⟩ := by
                simp only [roadHand]
                rw [if_neg (by rw [Hfl.out]; omega)]
              rw [hroad] at Hn2
              clear hroad
              go_wp2_with fail
              go_roundw
              case rel => exact ⟨k + 1, ge, P, _, by omega, by go_num, rfl, rfl, Hn2.out, Hx7.out, Ho7.out⟩
              case measure => simp [intOf]; omega
        · have hD0B : decide (0 < D) = false := decide_eq_false hD0
          have hmb : midBs l k (j : Int) ⟨⟨gn, u⟩, bs⟩ = bs := by simp only [midBs, Hoat.out, hD]; rw [if_neg (by omega)]
          have hn2 := Hnext.out
          rw [BD.step, hmid, hmb] at hn2
          have Hn2 := Lib.hid hn2
          clear hn2
          clear hmid hmb Hnext
          have hxA : Ext wr (wr.alloc (.cells #[.int .i64 pl, .int .i64 gi, .int .i64 ge, .int .i64 un, .int .i64 lo, .int .i64 hi, .int .i64 fr, .int .i64 tu] 81)) := (Ext.refl _).alloc _
          have hb6 := heap_alloc_new wr (.cells #[.int .i64 pl, .int .i64 gi, .int .i64 ge, .int .i64 un, .int .i64 lo, .int .i64 hi, .int .i64 fr, .int .i64 tu] 81)
          have HxA := Lib.hid hxA
          clear hxA
          go_wp2_with fail
          refine wp_region_ext (by kernel_rfl) (by kernel_rfl) (fun f hf hs => ?_)
          have f0 := fun q => ((hf q).box hb6).1
          clear hf hs
          repeat (go_big_quiet_step (fail))
          refine wpQuiet_nil ?_
          intro W7 hW7
          clear f0
          have hx7 := Hx.out.trans (HxA.out.trans hW7)
          have ho7 := Hown.out.ext (HxA.out.trans hW7)
          clear hb6 hW7 hP hD
          have Hx7 := Lib.hid hx7
          have Ho7 := Lib.hid ho7
          clear hx7 ho7
          by_cases hlast : k + 1 < fn
          · have hlastB : decide ((k : Int) < (fn : Int) - 1) = true := by simp; omega
            obtain ⟨fb, fo, f, ka, kn, kc, rfl, hfk, hfb, d0, d1, d2, _, _, d3⟩ := (Hf.out.ext (Hx5.out.trans Hx7.out)).get k hlt
            have hfk5 := (fair_bounds Ht.out hfk).1
            obtain rfl : kn = 5 := by rw [← d3.1]; exact hfk5
            have hke : keepsOf fs k = f.keeps := by simp [keepsOf, List.getD, hfk]
            have hfb2 := (fair_bounds Ht.out hfk).2.2.2.2.2
            obtain ⟨kb, ko, s, rfl, hs, hkb, z0c, z1c⟩ := d3.get ge hge5
            obtain ⟨s0, s1, s2⟩ := hfb2 ge s hs
            obtain ⟨n1, n2⟩ := mul_bd m1 m2 s0 (show s.lo ≤ 1000 by omega)
            simp only [Int.reduceMul] at n2
            obtain ⟨Q, hQ⟩ : ∃ Q, P * s.lo = Q := ⟨_, rfl⟩
            rw [hQ] at n1 n2
            have hroad : roadHand fs k ⟨ge, P⟩ = ⟨ge, Q / 1000⟩ := by
              simp only [roadHand, hke, Int.toNat_natCast, List.getD, hs, Option.getD_some]
              rw [if_pos (by rw [Hfl.out]; omega)]
              simp only [lf, hQ]
            rw [hroad] at Hn2
            clear hroad hs hfk hfk5 hke hfb2 d3
            go_wp2_with fail
            go_roundw
            case rel => exact ⟨k + 1, ge, Q / 1000, _, by omega, by go_num, rfl, rfl, Hn2.out, Hx7.out, Ho7.out⟩
            case measure => simp [intOf]; omega
          · have hlastB : decide ((k : Int) < (fn : Int) - 1) = false := by simp; omega
            have hroad : roadHand fs k ⟨ge, P⟩ = ⟨ge, P⟩ := by
              simp only [roadHand]
              rw [if_neg (by rw [Hfl.out]; omega)]
            rw [hroad] at Hn2
            clear hroad
            go_wp2_with fail
            go_roundw
            case rel => exact ⟨k + 1, ge, P, _, by omega, by go_num, rfl, rfl, Hn2.out, Hx7.out, Ho7.out⟩
            case measure => simp [intOf]; omega
      · have hz0B : decide ((0 : Int) ≤ z) = false := decide_eq_false hz0
        have hn2 := Hnext.out
        have hmid : midHand l z ⟨gn, u⟩ = ⟨gn, u⟩ := by unfold midHand; rw [if_neg hz0]
        have hmb : midBs l k z ⟨⟨gn, u⟩, bs⟩ = bs := by unfold midBs; rw [if_neg (by omega)]
        rw [BD.step, hmid, hmb] at hn2
        have Hn2 := Lib.hid hn2
        clear hn2
        clear hmid hmb Hnext
        have UB : u ≤ 312500000000000 := by omega
        go_upto_region 24 with (fail)
        by_cases hlast : k + 1 < fn
        · have hlastB : decide ((k : Int) < (fn : Int) - 1) = true := by simp; omega
          obtain ⟨fb, fo, f, ka, kn, kc, rfl, hfk, hfb, d0, d1, d2, _, _, d3⟩ := (Hf.out.ext (Hx5.out.trans Hx.out)).get k hlt
          have hfk5 := (fair_bounds Ht.out hfk).1
          obtain rfl : kn = 5 := by rw [← d3.1]; exact hfk5
          have hke : keepsOf fs k = f.keeps := by simp [keepsOf, List.getD, hfk]
          have hfb2 := (fair_bounds Ht.out hfk).2.2.2.2.2
          obtain ⟨kb, ko, s, rfl, hs, hkb, z0c, z1c⟩ := d3.get gn hgn5
          obtain ⟨s0, s1, s2⟩ := hfb2 gn s hs
          obtain ⟨n1, n2⟩ := mul_bd hu0 UB s0 (show s.lo ≤ 1000 by omega)
          simp only [Int.reduceMul] at n2
          obtain ⟨Q, hQ⟩ : ∃ Q, u * s.lo = Q := ⟨_, rfl⟩
          rw [hQ] at n1 n2
          have hroad : roadHand fs k ⟨gn, u⟩ = ⟨gn, Q / 1000⟩ := by
            simp only [roadHand, hke, Int.toNat_natCast, List.getD, hs, Option.getD_some]
            rw [if_pos (by rw [Hfl.out]; omega)]
            simp only [lf, hQ]
          rw [hroad] at Hn2
          clear hroad hs hfk hfk5 hke hfb2 d3
          go_wp2_with fail
          go_roundw
          case rel => exact ⟨k + 1, gn, Q / 1000, _, by omega, by go_num, rfl, rfl, Hn2.out, Hx.out, Hown.out⟩
          case measure => simp [intOf]; omega
        · have hlastB : decide ((k : Int) < (fn : Int) - 1) = false := by simp; omega
          have hroad : roadHand fs k ⟨gn, u⟩ = ⟨gn, u⟩ := by
            simp only [roadHand]
            rw [if_neg (by rw [Hfl.out]; omega)]
          rw [hroad] at Hn2
          clear hroad
          go_wp2_with fail
          go_roundw
          case rel => exact ⟨k + 1, gn, u, _, by omega, by go_num, rfl, rfl, Hn2.out, Hx.out, Hown.out⟩
          case measure => simp [intOf]; omega
    · obtain rfl : k = fn := by omega
      have hlt' : decide ((k : Int) < (k : Int)) = false := by simp
      have hfin := Hfin.out
      rw [Hdo.out] at hfin
      obtain ⟨rfl, rfl⟩ := Hand.mk.inj hfin
      have hrun2 := Hrun2.out
      rw [Hdo.out] at hrun2
      obtain ⟨la, lc, rfl, _, _, _, hlb⟩ := barters_of_owns Hown.out
      have hints := Har5.out.ints
      simp only [List.length_set, List.length_replicate] at hints
      have hcall := hrun2 (some ⟨sb, 0, none⟩) 5 la lc wr (Hx5.out.trans Hx.out) (hints.ext Hx.out) hlb
      have hge := Hge.out
      simp only [Int.toNat_natCast] at hge
      have Hcall := Lib.hid hcall
      clear hcall
      have HGe := Lib.hid hge
      clear hrun2 hlb hfin hge
      go_wp2_with (go_at_call 19; refine Hcall.out.mono ?_; rintro e w6 ⟨ha, hn6, hc6, la6, ln6, lc6, rfl, hx6, hn6b, ln6b, hsp6, hlo6⟩; obtain rfl : hn6 = 5 := (by rw [← hsp6.1]; exact Hheld.out); obtain ⟨sb6, so6, s6, rfl, hs6, hb6, cl6, ch6⟩ := hsp6.get gn hgn5; have hge6 := HGe.out; simp only [List.getD, hs6, Option.getD_some] at hge6; have hgeB : decide (u ≤ s6.lo) = true := decide_eq_true hge6; clear hs6 hlo6 hsp6)
      go_ret
      exact ⟨rfl, (Hx5.out.trans Hx.out).trans hx6⟩
end Go.Proofs.Ytkbhmajcddmhnaa
