/- The law MarketBounds. -/
import Derived.Test.YtkbhmajcddmhnaaBound
import Derived.Test.YtkbhmajcddmhnaaTake
import Derived.OpenShut
namespace Go.Proofs.Ytkbhmajcddmhnaa
open Go.RowKit Go.ChangeShapes Go.WideShapes Go.ChangeAt
set_option linter.unusedVariables false

theorem great_false {l : List Offer} {fs : List Fair} (h : greatB l fs = false) : l.length ≤ 15 ∧ fs.length ≤ 8 := by
  simp only [greatB, Bool.or_eq_false_iff, decide_eq_false_iff_not] at h
  omega

set_option maxRecDepth 100000 in
set_option maxHeartbeats 2000000 in
theorem lawBounds_any (a : Option Addr) (n cap : Nat) (l : List Offer) (fa : Option Addr) (fn fc : Nat) (fs : List Fair) (sa : Option Addr) (sn sc : Nat) (xs : List Int) (want : Int) (pa : Option Addr) (pn pc : Nat) (ps : List (List Int)) (w : World)
    (hl : OffersAt w a n l) (hf : FairsAt w fa fn fs) (hs : IntsAt .i64 w sa sn xs) (hp : RowsAt w pa pn ps) (hn : n ≤ maxLen) (hfn : fn ≤ maxLen) (hsn : sn ≤ maxLen) (hpn : pn ≤ maxLen) :
    Calls Try.prog 3 #[.slice a n cap, .slice fa fn fc, .slice sa sn sc, .int .i64 want, .slice pa pn pc] w fun e w' => e = .returned (.bool true) ∧ Ext w w' := by
  have hgr := great_any a n cap l fa fn fc fs w hl.1 hf hn hfn
  unfold maxLen at hn hfn hsn hpn
  cases hg : greatB l fs with
  | true =>
    rw [hg] at hgr
    have Hgr := Lib.hid hgr
    clear hgr hl hf hs hp hg
    go_enter Try.func3, Try.ntmps3
    go_wp2_with (go_at_call 15; refine Hgr.out.mono ?_; rintro e w1 ⟨rfl, hx1⟩)
    go_ret
    exact ⟨rfl, hx1⟩
  | false =>
  obtain ⟨g1, g2⟩ := great_false hg
  rw [hl.1] at g1
  rw [hf.1] at g2
  rw [hg] at hgr
  have Hgr := Lib.hid hgr
  clear hgr hg
  by_cases h10 : 10 < sn
  · have h10' : decide ((10 : Int) < (sn : Int)) = true := by simp; omega
    clear hl hf hs hp
    go_enter Try.func3, Try.ntmps3
    go_wp2_with (go_at_call 15; refine Hgr.out.mono ?_; rintro e w1 ⟨rfl, hx1⟩)
    go_ret
    exact ⟨rfl, hx1⟩
  have h10' : decide ((10 : Int) < (sn : Int)) = false := by simp; omega
  by_cases p10 : 10 < pn
  · have p10' : decide ((10 : Int) < (pn : Int)) = true := by simp; omega
    clear hl hf hs hp
    go_enter Try.func3, Try.ntmps3
    go_wp2_with (go_at_call 15; refine Hgr.out.mono ?_; rintro e w1 ⟨rfl, hx1⟩)
    go_ret
    exact ⟨rfl, hx1⟩
  have p10' : decide ((10 : Int) < (pn : Int)) = false := by simp; omega
  have hb1 := fun W (hW : Ext w W) => bound_any a n cap l fa fn fc fs sa sn sc xs pa pn pc ps want W (hl.ext hW) (hf.ext hW) (hs.ext hW) (hp.ext hW) (by omega) (by omega) (by omega) (by omega)
  have hb2 := fun W (hW : Ext w W) => refBound_any a n cap l fa fn fc fs sa sn sc xs pa pn pc ps want W (hl.ext hW) (hf.ext hW) (hs.ext hW) (hp.ext hW) (by omega) (by omega) (by omega) (by omega)
  have Hp := Lib.hid hp
  have Hb1 := Lib.hid hb1
  have Hb2 := Lib.hid hb2
  clear hb1 hb2 hl hf hs hp
  generalize boundOf l fs xs want ps = D at *
  obtain ⟨d1, d2⟩ := D
  simp only at Hb1 Hb2
  go_enter Try.func3, Try.ntmps3
  go_wp2_with (go_at_call 15; refine Hgr.out.mono ?_; rintro e w1 ⟨rfl, hx1⟩)
  go_loopw [32] (fun i wr => ∃ k : Nat, k ≤ pn ∧ i = .int .i64 k ∧ Ext w wr) (fun i _ => pn - (intOf i).toNat)
  case atStart => exact ⟨0, Nat.zero_le _, rfl, hx1⟩
  case round =>
    obtain ⟨k, hk, rfl, hx⟩ := hrel
    by_cases hlt : k < pn
    · obtain ⟨b, off, r, ka, kn, kc, rfl, hr, hb, c0, h1, h2, _⟩ := (Hp.out.ext hx).get k hlt
      have hlt' : decide ((k : Int) < (pn : Int)) = true := by simp; omega
      unfold maxLen at h2
      by_cases hk10 : 10 < kn
      · have hk10' : decide ((10 : Int) < (kn : Int)) = true := by simp; omega
        go_wp2_with fail
        go_ret
        exact ⟨rfl, hx⟩
      · have hk10' : decide ((10 : Int) < (kn : Int)) = false := by simp; omega
        go_wp2_with fail
        go_roundw
        case rel => exact ⟨k + 1, by omega, by go_num, hx⟩
        case measure => simp [intOf]; omega
    · have hlt' : decide ((k : Int) < (pn : Int)) = false := by simp; omega
      go_wp2_with (first | (go_at_call 16; refine (Hb1.out _ hx).mono ?_; rintro e w2 ⟨rfl, hx2⟩) | (go_at_call 17; refine (Hb2.out _ (hx.trans hx2)).mono ?_; rintro e w3 ⟨rfl, hx3⟩))
      go_ret
      exact ⟨rfl, hx.trans (hx2.trans hx3)⟩
end Go.Proofs.Ytkbhmajcddmhnaa
