/- The law MarketNarrow. -/
import Derived.Test.YtkbhmajcddmhnaaVNarTail
import Derived.Test.YtkbhmajcddmhnaaVLawRuns
namespace Go.Proofs.Ytkbhmajcddmhnaa
open Go.RowKit
set_option linter.unusedVariables false
set_option linter.unusedSimpArgs false

set_option maxRecDepth 100000 in
set_option maxHeartbeats 4000000 in
theorem lawNarrow_any (a : Option Addr) (n cap : Nat) (l : List Offer) (fa : Option Addr) (fn fc : Nat) (fs : List Fair) (sa : Option Addr) (sn sc : Nat) (xs : List Int) (ba : Option Addr) (bn bc : Nat) (bs : List Barter) (ca : Option Addr) (cn cc : Nat) (by_ : List Int) (w : World)
    (hl : OffersAt w a n l) (hf : FairsAt w fa fn fs) (hs : IntsAt .i64 w sa sn xs) (hp : BartersAt w ba bn bs) (hby : IntsAt .u32 w ca cn by_) (hu : u32s by_) (hn : n ≤ maxLen) (hfn : fn ≤ maxLen) (hsn : sn ≤ maxLen) (hbn : bn ≤ maxLen) (hcn : cn ≤ maxLen) :
    Calls Try.prog 12 #[.slice a n cap, .slice fa fn fc, .slice sa sn sc, .slice ba bn bc, .slice ca cn cc] w fun e w' => e = .returned (.bool true) ∧ Ext w w' := by
  have hal := fun W => alive_any W
  have hrd := fun W (hW : Ext w W) => ready_any a n cap l fa fn fc fs W (hl.ext hW) (hf.ext hW) hn hfn
  have hst := fun W (hW : Ext w W) => stocks_all sa sn sc xs W (hs.ext hW) hsn
  unfold maxLen at hn hfn hsn hbn hcn
  cases hr : readyB l fs with
  | false =>
    rw [hr] at hrd
    have Hal := Lib.hid hal
    have Hrd := Lib.hid hrd
    clear hal hrd
    clear hl hf hr hby hu hs hp hst
    go_enter Try.func12, Try.ntmps12
    go_wp2_with (first | (go_at_call 32; refine (Hal.out _).mono ?_; rintro e w1 ⟨rfl, hx1⟩) | (go_at_call 33; refine (Hrd.out _ hx1).mono ?_; rintro e w2 ⟨rfl, hx2⟩; have hx02 := hx1.trans hx2) | (go_at_call 34; refine (Hst.out _ hx02).mono ?_; rintro e w3 ⟨rfl, hx3⟩; have hx03 := hx02.trans hx3))
    go_ret
    exact ⟨rfl, hx02⟩
  | true =>
  have hr2 := hr
  simp only [readyB, Bool.and_eq_true, Bool.not_eq_true', decide_eq_true_eq] at hr2
  obtain ⟨ho, ht⟩ := checkOf_zero hr2.2
  rw [hr] at hrd
  have hc0 := hr2.2
  clear hr hr2
  cases hxo : stocksOk xs with
  | false =>
    rw [hxo] at hst
    have Hal := Lib.hid hal
    have Hrd := Lib.hid hrd
    have Hst := Lib.hid hst
    clear hal hrd hst
    clear hl hf hby hu hs hp hxo ho ht hc0
    go_enter Try.func12, Try.ntmps12
    go_wp2_with (first | (go_at_call 32; refine (Hal.out _).mono ?_; rintro e w1 ⟨rfl, hx1⟩) | (go_at_call 33; refine (Hrd.out _ hx1).mono ?_; rintro e w2 ⟨rfl, hx2⟩; have hx02 := hx1.trans hx2) | (go_at_call 34; refine (Hst.out _ hx02).mono ?_; rintro e w3 ⟨rfl, hx3⟩; have hx03 := hx02.trans hx3))
    go_ret
    exact ⟨rfl, hx03⟩
  | true =>
  rw [hxo] at hst
  by_cases b1 : 60 < bn
  · have b1' : decide ((60 : Int) < (bn : Int)) = true := by simp; omega
    have Hal := Lib.hid hal
    have Hrd := Lib.hid hrd
    have Hst := Lib.hid hst
    clear hal hrd hst
    clear hl hf hby hu hs hp hxo ho ht hc0
    go_enter Try.func12, Try.ntmps12
    go_wp2_with (first | (go_at_call 32; refine (Hal.out _).mono ?_; rintro e w1 ⟨rfl, hx1⟩) | (go_at_call 33; refine (Hrd.out _ hx1).mono ?_; rintro e w2 ⟨rfl, hx2⟩; have hx02 := hx1.trans hx2) | (go_at_call 34; refine (Hst.out _ hx02).mono ?_; rintro e w3 ⟨rfl, hx3⟩; have hx03 := hx02.trans hx3))
    go_ret
    exact ⟨rfl, hx03⟩
  have b1' : decide ((60 : Int) < (bn : Int)) = false := by simp; omega
  have hnl := hl.1
  have hfl := hf.1
  have hsl := hs.1
  have hbl := hp.1
  have hol := offers_len ho
  have htl := trip_len ht
  have hn10 : n ≤ 10 := by omega
  have hfn5 : fn ≤ 5 := by omega
  have hs5 : xs.length = 5 := by simp only [stocksOk, Bool.and_eq_true, decide_eq_true_eq] at hxo; exact hxo.1
  have hsn5 : sn ≤ 1000000 := by omega
  have hrun := fun W (hW : Ext w W) => run_any a n cap l fa fn fc fs sa sn sc xs ba bn bc bs W (hl.ext hW) (hf.ext hW) (hs.ext hW) (hp.ext hW) (by omega) (by omega) (by omega) (by omega)
  obtain ⟨T, hT⟩ : ∃ T, runOf l fs xs bs = T := ⟨_, rfl⟩
  rw [hT] at hrun
  obtain ⟨h, x, q, e⟩ := T
  by_cases he : e = 0
  case neg =>
    have heB : (e != 0) = true := by rw [bne_iff_ne]; exact he
    have Hal := Lib.hid hal
    have Hrd := Lib.hid hrd
    have Hst := Lib.hid hst
    have Hrun := Lib.hid hrun
    clear hal hrd hst hrun
    clear hl hf hby hu hs hp hxo ho ht hc0 hT he hs5 hbl hsl hnl hfl
    go_enter Try.func12, Try.ntmps12
    go_wp2_with (first | (go_at_call 32; refine (Hal.out _).mono ?_; rintro e w1 ⟨rfl, hx1⟩) | (go_at_call 33; refine (Hrd.out _ hx1).mono ?_; rintro e w2 ⟨rfl, hx2⟩; have hx02 := hx1.trans hx2) | (go_at_call 34; refine (Hst.out _ hx02).mono ?_; rintro e w3 ⟨rfl, hx3⟩; have hx03 := hx02.trans hx3) | (go_at_call 19; refine (Hrun.out _ hx03).mono ?_; rintro e w4 ⟨ha, hn4, hc4, xa, xn, xc, rfl, hx4, hn4b, hxn, hsp4, hlo4⟩))
    go_ret
    exact ⟨rfl, hx03.trans hx4⟩
  case pos =>
    subst he
    have hin := fun m fm (no : NarO l m) (nt : NarT fs fm) => run_in hc0 no nt hxo (by omega) hT
    have hna := fun W (hW : Ext w W) => narrow_any a n cap l fa fn fc fs ca cn cc by_ W (hl.ext hW) (hf.ext hW) (hby.ext hW) ho ht hu (by omega)
    have hrb := fun ma mc m ka kc fm W (hW : Ext w W) (h1 : OffersAt W ma n m) (h2 : FairsAt W ka fn fm) => run_any ma n mc m ka fn kc fm sa sn sc xs ba bn bc bs W h1 h2 (hs.ext hW) (hp.ext hW) (by omega) (by omega) (by omega) (by omega)
    unfold NarPost at hna
    rw [hnl, hfl] at hna
    obtain ⟨_, _, _, h5, _, _, _, hpw⟩ := hin l fs (NarO.refl ho) (NarT.refl ht)
    have Hal := Lib.hid hal
    have Hrd := Lib.hid hrd
    have Hst := Lib.hid hst
    have Hrun := Lib.hid hrun
    have Hin := Lib.hid hin
    have Hna := Lib.hid hna
    have Hrb := Lib.hid hrb
    clear hal hrd hst hrun hin hna hrb
    clear hl hf hby hu hs hp hxo ho ht hc0 hT hs5 hbl hsl hnl hfl
    go_enter Try.func12, Try.ntmps12
    go_upto_region 9 with (first | (go_at_call 32; refine (Hal.out _).mono ?_; rintro e w1 ⟨rfl, hx1⟩) | (go_at_call 33; refine (Hrd.out _ hx1).mono ?_; rintro e w2 ⟨rfl, hx2⟩; have hx02 := hx1.trans hx2) | (go_at_call 34; refine (Hst.out _ hx02).mono ?_; rintro e w3 ⟨rfl, hx3⟩; have hx03 := hx02.trans hx3) | (go_at_call 19; refine (Hrun.out _ hx03).mono ?_; rintro e w4 ⟨ha, hn4, hc4, xa, xn, xc, rfl, hx4, _, hxn, hsp4, hlo4⟩; have hx04 := hx03.trans hx4; obtain rfl : hn4 = 5 := (by rw [← hsp4.1]; exact h5); clear Hrun) | (go_at_call 38; refine (Hna.out _ hx04).mono ?_; rintro e w5 ⟨ma, mc, ka, kc, m, fm, rfl, hx5, no, nt, hm, hfm⟩; have hx05 := hx04.trans hx5; have hbb := Hrb.out ma mc m ka kc fm w5 hx05 hm hfm; obtain ⟨h', y, hrm, _, h5', hin1, hlin, _⟩ := Hin.out m fm no nt; rw [hrm] at hbb; have Hbb := Lib.hid hbb; clear hbb hrm hm hfm no nt) | (go_at_call 19; refine Hbb.out.mono ?_; rintro e w6 ⟨hb6, hn6, hc6, ya, yn, yc, rfl, hx6, _, hyn, hsp6, hlo6⟩; obtain rfl : hn6 = 5 := (by rw [← hsp6.1]; exact h5')))
    have hx06 := hx05.trans hx6
    have hx46 := hx5.trans hx6
    have hsp46 := hsp4.ext hx46
    have hlo46 := hlo4.ext hx46
    have Hx06 := Lib.hid hx06
    have Hsp46 := Lib.hid hsp46
    have Hlo46 := Lib.hid hlo46
    have Hsp6 := Lib.hid hsp6
    have Hlo6 := Lib.hid hlo6
    have Hin1 := Lib.hid hin1
    have Hlin := Lib.hid hlin
    have Hpw := Lib.hid hpw
    clear hx06 hsp46 hlo46 hsp6 hlo6 hin1 hlin hpw
    clear hsp4 hlo4 hx5 hx6 hx46
    go_upto_if 91 with fail
    go_step
    go_step
    go_step
    go_step
    exact narTail h5 h5' Hin1.out Hlin.out Hpw.out Hsp46.out Hsp6.out Hlo46.out Hlo6.out hxn hyn Hx06.out
end Go.Proofs.Ytkbhmajcddmhnaa
