/- The law MarketRuns. -/
import Derived.Test.YtkbhmajcddmhnaaVRefRun
import Derived.Test.YtkbhmajcddmhnaaVGr10
import Derived.OpenShut
namespace Go.Proofs.Ytkbhmajcddmhnaa
open Go.RowKit Go.ChangeShapes Go.WideShapes Go.ChangeAt
set_option linter.unusedVariables false
set_option linter.unusedSimpArgs false

theorem mCheck_any (a : Option Addr) (n cap : Nat) (l : List Offer) (fa : Option Addr) (fn fc : Nat) (fs : List Fair) (w : World) (hl : OffersAt w a n l) (hf : FairsAt w fa fn fs) (hn : n ≤ 1000000) (hfn : fn ≤ 1000000) :
    Calls Try.prog 23 #[.slice a n cap, .slice fa fn fc] w fun e w' => e = .returned (.int .i64 (checkOf l fs)) ∧ Ext w w' := by
  cases ho : offersOk l with
  | false =>
    have hb : checkOf l fs = 60 := by unfold checkOf; simp [ho]
    rw [hb]
    have Htr := Lib.hid (travel_offers a n cap l (.slice fa fn fc) w hl hn ho)
    clear hl hf ho hb
    go_enter Try.func23, Try.ntmps23
    go_wp2_with (go_at_call 46; refine Htr.out.mono ?_; rintro e w1 ⟨rfl, hx1⟩)
    go_ret
    exact ⟨rfl, hx1.alloc _⟩
  | true =>
  cases ht : tripOk fs with
  | false =>
    have hb : checkOf l fs = 61 := by unfold checkOf; simp [ho, ht]
    rw [hb]
    have Htr := Lib.hid (travel_trip a n cap l fa fn fc fs w hl hf hfn ho ht)
    clear hl hf ho ht hb
    go_enter Try.func23, Try.ntmps23
    go_wp2_with (go_at_call 46; refine Htr.out.mono ?_; rintro e w1 ⟨rfl, hx1⟩)
    go_ret
    exact ⟨rfl, hx1.alloc _⟩
  | true =>
    have hb : checkOf l fs = 0 := by unfold checkOf; simp [ho, ht]
    rw [hb]
    have Htr := Lib.hid (travel_ok a n cap l fa fn fc fs w hl hf ho ht)
    clear hl hf ho ht hb
    go_enter Try.func23, Try.ntmps23
    go_wp2_with (go_at_call 46; refine Htr.out.mono ?_; rintro e w1 ⟨mp, rfl, hx1, _⟩)
    go_ret
    exact ⟨rfl, hx1.alloc _⟩

theorem great_lens {l : List Offer} {fs : List Fair} (h : greatB l fs = false) : l.length ≤ 15 ∧ fs.length ≤ 8 := by
  simp only [greatB, Bool.or_eq_false_iff, decide_eq_false_iff_not] at h
  omega
theorem great_keeps {l : List Offer} {fs : List Fair} (h : greatB l fs = false) : ∀ f ∈ fs, f.keeps.length ≤ 10 := by
  simp only [greatB, Bool.or_eq_false_iff, List.any_eq_false, decide_eq_true_eq] at h
  intro f hf
  have := h.2 f hf
  omega

set_option maxRecDepth 100000 in
set_option maxHeartbeats 4000000 in
theorem lawRuns_any (a : Option Addr) (n cap : Nat) (l : List Offer) (fa : Option Addr) (fn fc : Nat) (fs : List Fair) (sa : Option Addr) (sn sc : Nat) (xs : List Int) (ba : Option Addr) (bn bc : Nat) (bs : List Barter) (w : World)
    (hl : OffersAt w a n l) (hf : FairsAt w fa fn fs) (hs : IntsAt .i64 w sa sn xs) (hp : BartersAt w ba bn bs) (hn : n ≤ maxLen) (hfn : fn ≤ maxLen) (hsn : sn ≤ maxLen) (hbn : bn ≤ maxLen) :
    Calls Try.prog 4 #[.slice a n cap, .slice fa fn fc, .slice sa sn sc, .slice ba bn bc] w fun e w' => e = .returned (.bool true) ∧ Ext w w' := by
  have hgr := great_any a n cap l fa fn fc fs w hl.1 hf hn hfn
  unfold maxLen at hn hfn hsn hbn
  cases hg : greatB l fs with
  | true =>
    rw [hg] at hgr
    have Hgr := Lib.hid hgr
    clear hgr hl hf hs hp hg
    go_enter Try.func4, Try.ntmps4
    go_wp2_with (go_at_call 15; refine Hgr.out.mono ?_; rintro e w1 ⟨rfl, hx1⟩)
    go_ret
    exact ⟨rfl, hx1⟩
  | false =>
  obtain ⟨g1, g2⟩ := great_lens hg
  have hgk := great_keeps hg
  rw [hl.1] at g1
  rw [hf.1] at g2
  rw [hg] at hgr
  have Hgr := Lib.hid hgr
  clear hgr hg
  by_cases h10 : 10 < sn
  · have h10' : decide ((10 : Int) < (sn : Int)) = true := by simp; omega
    clear hl hf hs hp hgk
    go_enter Try.func4, Try.ntmps4
    go_wp2_with (go_at_call 15; refine Hgr.out.mono ?_; rintro e w1 ⟨rfl, hx1⟩)
    go_ret
    exact ⟨rfl, hx1⟩
  have h10' : decide ((10 : Int) < (sn : Int)) = false := by simp; omega
  by_cases p10 : 80 < bn
  · have p10' : decide ((80 : Int) < (bn : Int)) = true := by simp; omega
    clear hl hf hs hp hgk
    go_enter Try.func4, Try.ntmps4
    go_wp2_with (go_at_call 15; refine Hgr.out.mono ?_; rintro e w1 ⟨rfl, hx1⟩)
    go_ret
    exact ⟨rfl, hx1⟩
  have p10' : decide ((80 : Int) < (bn : Int)) = false := by simp; omega
  have hrun1 := fun (a : Option Addr) (cap : Nat) (fa : Option Addr) (fc : Nat) (sa : Option Addr) (sc : Nat) (ba : Option Addr) (bc : Nat) W (hl : OffersAt W a n l) (hf : FairsAt W fa fn fs) (hs : IntsAt .i64 W sa sn xs) (hp : BartersAt W ba bn bs) => run_any a n cap l fa fn fc fs sa sn sc xs ba bn bc bs W hl hf hs hp (by omega) (by omega) (by omega) (by omega)
  have hrun2 := fun W (hW : Ext w W) => refRun_any a n cap l fa fn fc fs sa sn sc xs ba bn bc bs W (hl.ext hW) (hf.ext hW) (hs.ext hW) (hp.ext hW) (by omega) (by omega) (by omega) (by omega)
  have hck1 := fun (a : Option Addr) (cap : Nat) (fa : Option Addr) (fc : Nat) W (hl : OffersAt W a n l) (hf : FairsAt W fa fn fs) => mCheck_any a n cap l fa fn fc fs W hl hf (by omega) (by omega)
  have hck2 := fun W (hW : Ext w W) => refCheck_any a n cap l fa fn fc fs W (fun W' hW' => refOffers_any a n cap l W' (hl.ext (hW.trans hW')) (by omega)) (hf.ext hW) (by omega)
  have hso := fun (a1 : Option Addr) (c1 : Nat) W (hW : Ext w W) (h : OffersAt W a1 n l) => same_offers a1 a n c1 cap l W h (hl.ext hW) (by omega)
  have hst := fun (a1 : Option Addr) (c1 : Nat) W (hW : Ext w W) (h : FairsAt W a1 fn fs) => same_trip a1 fa fn c1 fc fs W h (hf.ext hW) (by omega) (fun f hf => by have := hgk f hf; omega)
  have hsi := fun (a1 : Option Addr) (c1 : Nat) W (hW : Ext w W) (h : IntsAt .i64 W a1 sn xs) => same_ints a1 sa sn c1 sc xs W h (hs.ext hW) (by omega)
  have htw := fun W (hW : Ext w W) => twin_any fa fn fc fs W (hf.ext hW) (by omega) (fun f hf => by have := hgk f hf; omega)
  obtain ⟨C, hC⟩ : ∃ C, checkOf l fs = C := ⟨_, rfl⟩
  obtain ⟨T, hT⟩ : ∃ T, runOf l fs xs bs = T := ⟨_, rfl⟩
  rw [hC] at hck1 hck2
  rw [hT] at hrun1 hrun2
  obtain ⟨TH, TL, TA, TE⟩ := T
  clear hC hT
  have hnl := hl.1
  have hnf := hf.1
  have hns := hs.1
  have hnb := hp.1
  have Hrun1 := Lib.hid hrun1
  have Hrun2 := Lib.hid hrun2
  have Hck1 := Lib.hid hck1
  have Hck2 := Lib.hid hck2
  have Hso := Lib.hid hso
  have Hst := Lib.hid hst
  have Hsi := Lib.hid hsi
  have Htw := Lib.hid htw
  have Hl := Lib.hid hl
  have Hf := Lib.hid hf
  have Hs := Lib.hid hs
  have Hp := Lib.hid hp
  have Hnl := Lib.hid hnl
  have Hnf := Lib.hid hnf
  have Hns := Lib.hid hns
  have Hnb := Lib.hid hnb
  clear hrun1 hrun2 hck1 hck2 hso hst hsi htw hl hf hs hp hnl hnf hns hnb
  clear hgk
  go_enter Try.func4, Try.ntmps4
  go_wp2_with (first | (go_at_call 15; refine Hgr.out.mono ?_; rintro e w1 ⟨rfl, hx1⟩; have Hemp := Lib.hid (Owns.empty w1 w1.heap.size 81 8 (Nat.le_refl _)); have Hsrc := Lib.hid (Hl.out.ext (hx1.alloc (.cells #[] 81))).src; have Hx1 := Lib.hid hx1; clear hx1) | (at_builtin; refine wpList_app elem22 _ rfl (.tmp 36) (.tmp 37) rfl w1.heap.size _ [] rfl Hemp.out a n cap (offerRows l) rfl ?_ Hsrc.out (offerRows_row _) ?_ ?_ ?_))
  · have := Hnl.out; simpa [offerRows] using this
  · simp only [List.length_nil]; omega
  · simp
  · intro v1 w2 ho2 hg2 _
    obtain ⟨a1, c1, hv1, _, hk1, hk1', hoff⟩ := offers_of_owns ho2
    rw [Hnl.out] at hv1 hk1 hoff
    subst hv1
    have hx2 : Ext w1 w2 := ((Ext.refl w1).alloc (.cells #[] 81)).app Hemp.out hg2
    have hxw2 := Hx1.out.trans hx2
    have Hoff := Lib.hid hoff
    have Hxw2 := Lib.hid hxw2
    clear hoff hxw2
    clear ho2 hg2 hx2
    clear Hemp Hsrc
    go_wp2_with (first | (go_at_call 18; refine (Htw.out _ Hxw2.out).mono ?_; rintro e w3 ⟨a2, c2, he, hx3, _, hk2, hk2', hfair⟩; rw [Hnf.out] at he hk2 hfair; subst he; have hxw3 := Hxw2.out.trans hx3; have Hemp := Lib.hid (Owns.empty w3 w3.heap.size 3 1 (Nat.le_refl _)); have Hsrc := Lib.hid (Hs.out.ext (hxw3.alloc (.cells #[] 3))).src; have Hx3 := Lib.hid hx3; have Hxw3 := Lib.hid hxw3; have Hfair := Lib.hid hfair; clear hx3 hxw3 hfair) | (at_builtin; refine wpList_app elem24 _ rfl (.tmp 41) (.tmp 42) rfl w3.heap.size _ [] rfl Hemp.out sa sn sc (intRows .i64 xs) rfl ?_ Hsrc.out (intRows_row _ _) ?_ ?_ ?_))
    · have := Hns.out; simpa [intRows] using this
    · simp only [List.length_nil]; omega
    · simp
    · intro v3 w4 ho4 hg4 _
      obtain ⟨a3, c3, hv3, _, hk3, hk3', hint⟩ := ints_of_owns ho4
      rw [Hns.out] at hv3 hk3 hint
      subst hv3
      have hx4 : Ext w3 w4 := ((Ext.refl w3).alloc (.cells #[] 3)).app Hemp.out hg4
      have hxw4 := Hxw3.out.trans hx4
      have hemp := Owns.empty w4 w4.heap.size 46 3 (Nat.le_refl _)
      have hsrc := (Hp.out.ext (hxw4.alloc (.cells #[] 46))).src
      clear Hemp Hsrc
      have Hint := Lib.hid hint
      have Hx4 := Lib.hid hx4
      have Hxw4 := Lib.hid hxw4
      have Hemp := Lib.hid hemp
      have Hsrc := Lib.hid hsrc
      clear hint hx4 hxw4 hemp hsrc
      clear ho4 hg4
      go_wp2_with (at_builtin; refine wpList_app elem33 _ rfl (.tmp 44) (.tmp 45) rfl w4.heap.size _ [] rfl Hemp.out ba bn bc (barterRows bs) rfl ?_ Hsrc.out (barterRows_row _) ?_ ?_ ?_)
      · have := Hnb.out; simpa [barterRows] using this
      · simp only [List.length_nil]; omega
      · simp
      · intro v4 w5 ho5 hg5 _
        obtain ⟨a4, c4, hv4, _, hk4, hk4', hbar⟩ := barters_of_owns ho5
        rw [Hnb.out] at hv4 hk4 hbar
        subst hv4
        have hx5 : Ext w4 w5 := ((Ext.refl w4).alloc (.cells #[] 46)).app Hemp.out hg5
        have hxw5 := Hxw4.out.trans hx5
        have hoff5 := Hoff.out.ext (Hx3.out.trans (Hx4.out.trans hx5))
        have hfair5 := Hfair.out.ext (Hx4.out.trans hx5)
        have hint5 := Hint.out.ext hx5
        clear Hemp Hsrc Hoff Hfair Hint Hx3 Hx4 hx5 ho5 hg5 Hxw4 Hxw3 Hxw2
        have Hoff5 := Lib.hid hoff5
        have Hfair5 := Lib.hid hfair5
        have Hint5 := Lib.hid hint5
        have Hbar := Lib.hid hbar
        have Hxw5 := Lib.hid hxw5
        clear hoff5 hfair5 hint5 hbar hxw5
        go_wp2_with (go_at_call 19; refine (Hrun1.out a1 c1 a2 c2 a3 c3 a4 c4 _ Hoff5.out Hfair5.out Hint5.out Hbar.out).mono ?_; rintro e w6 ⟨h1a, h1n, h1c, l1a, l1n, l1c, rfl, hx6, hn6, hm6, hsp6, hls6⟩; have hxw6 := Hxw5.out.trans hx6; have Hx6 := Lib.hid hx6; have Hxw6 := Lib.hid hxw6; have Hsp6 := Lib.hid hsp6; have Hls6 := Lib.hid hls6; clear hx6 hxw6 hsp6 hls6)
        go_wp2_with (go_at_call 20; refine (Hrun2.out _ Hxw6.out).mono ?_; rintro e w7 ⟨h2a, h2n, h2c, l2a, l2n, l2c, rfl, hx7, hn7, hm7, hsp7, hls7⟩; have hxw7 := Hxw6.out.trans hx7; have Hx7 := Lib.hid hx7; have Hxw7 := Lib.hid hxw7; have Hsp7 := Lib.hid hsp7; have Hls7 := Lib.hid hls7; clear hx7 hxw7 hsp7 hls7)
        obtain rfl : h1n = h2n := by rw [← Hsp6.out.1, ← Hsp7.out.1]
        obtain rfl : l1n = l2n := by rw [← Hls6.out.1, ← Hls7.out.1]
        have hs1 : SpansAt w7 h1a h1n TH := Hsp6.out.ext Hx7.out
        have hl1 : LossesAt w7 l1a l1n TL := Hls6.out.ext Hx7.out
        have hx57 := Hx6.out.trans Hx7.out
        have Hs1 := Lib.hid hs1
        have Hl1 := Lib.hid hl1
        have Hx57 := Lib.hid hx57
        clear hs1 hl1 hx57
        clear Hx6 Hx7 Hsp6 Hls6 Hrun1 Hrun2
        go_wp2_with (first | (go_at_call 21; refine (same_spans h1a h2a h1n h1c h2c TH _ Hs1.out Hsp7.out (by omega)).mono ?_; rintro e w8 ⟨rfl, hx8⟩; have Hx8 := Lib.hid hx8; clear hx8) | (go_at_call 22; refine (same_losses l1a l2a l1n l1c l2c TL _ (Hl1.out.ext Hx8.out) (Hls7.out.ext Hx8.out) (by omega)).mono ?_; rintro e w9 ⟨rfl, hx9⟩; have Hx9 := Lib.hid (Hx8.out.trans hx9); clear hx9) | (go_at_call 23; refine (Hck1.out a1 c1 a2 c2 _ (Hoff5.out.ext (Hx57.out.trans Hx9.out)) (Hfair5.out.ext (Hx57.out.trans Hx9.out))).mono ?_; rintro e w10 ⟨rfl, hx10⟩; have Hx10 := Lib.hid (Hx9.out.trans hx10); clear hx10) | (go_at_call 24; refine (Hck2.out _ (Hxw7.out.trans Hx10.out)).mono ?_; rintro e w11 ⟨rfl, hx11⟩; have Hx11 := Lib.hid (Hx10.out.trans hx11); clear hx11))
        have hx511 := Hx57.out.trans Hx11.out
        have hxw11 := Hxw7.out.trans Hx11.out
        have hoff11 := Hoff5.out.ext hx511
        have hfair11 := Hfair5.out.ext hx511
        have hint11 := Hint5.out.ext hx511
        have hbar11 := Hbar.out.ext hx511
        clear Hx8 Hx9 Hx10 Hx11 Hx57 hx511 Hoff5 Hfair5 Hint5 Hbar Hs1 Hl1 Hsp7 Hls7 Hxw7 Hxw6 Hxw5
        have Hxw11 := Lib.hid hxw11
        have Hoff11 := Lib.hid hoff11
        have Hfair11 := Lib.hid hfair11
        have Hint11 := Lib.hid hint11
        have Hbar11 := Lib.hid hbar11
        clear hxw11 hoff11 hfair11 hint11 hbar11
        go_loopw [21, 96] (fun v i wr => ∃ k : Nat, k ≤ bn ∧ v = .bool true ∧ i = .int .i64 k ∧ Ext w11 wr) (fun _ i _ => bn - (intOf i).toNat)
        case atStart => exact ⟨0, Nat.zero_le _, rfl, rfl, Ext.refl _⟩
        case round =>
          obtain ⟨k, hk, rfl, rfl, hx⟩ := hrel
          by_cases hlt : k < bn
          · obtain ⟨bb, bo, x, rfl, hbk, hbb, c0, c1', c2'⟩ := (Hp.out.ext (Hxw11.out.trans hx)).get k hlt
            obtain ⟨bb2, bo2, y, rfl, hbk2, hbb2, d0, d1, d2⟩ := (Hbar11.out.ext hx).get k hlt
            obtain rfl : x = y := by rw [hbk] at hbk2; cases hbk2; rfl
            have hlt' : decide ((k : Int) < (bn : Int)) = true := by simp; omega
            clear hbk hbk2
            go_wp2_with fail
            go_quiet (fail)
            go_wp2_with fail
            go_roundw
            case rel => exact ⟨k + 1, by omega, rfl, by go_num, hx.drewN _⟩
            case measure => simp [intOf]; omega
          · have hlt' : decide ((k : Int) < (bn : Int)) = false := by simp; omega
            go_wp2_with (first | (go_at_call 25; refine (Hso.out a1 c1 _ (Hxw11.out.trans hx) (Hoff11.out.ext hx)).mono ?_; rintro e w12 ⟨rfl, hx12⟩; have Hx12 := Lib.hid (hx.trans hx12); clear hx12) | (go_at_call 26; refine (Hst.out a2 c2 _ (Hxw11.out.trans Hx12.out) (Hfair11.out.ext Hx12.out)).mono ?_; rintro e w13 ⟨rfl, hx13⟩; have Hx13 := Lib.hid (Hx12.out.trans hx13); clear hx13) | (go_at_call 27; refine (Hsi.out a3 c3 _ (Hxw11.out.trans Hx13.out) (Hint11.out.ext Hx13.out)).mono ?_; rintro e w14 ⟨rfl, hx14⟩; have Hx14 := Lib.hid (Hx13.out.trans hx14); clear hx14))
            go_ret
            exact ⟨rfl, Hxw11.out.trans Hx14.out⟩
end Go.Proofs.Ytkbhmajcddmhnaa
