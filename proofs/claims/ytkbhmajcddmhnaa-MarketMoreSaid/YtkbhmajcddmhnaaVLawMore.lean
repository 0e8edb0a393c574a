/- The law MarketMore. -/
import Derived.Test.YtkbhmajcddmhnaaVReady
import Derived.Test.YtkbhmajcddmhnaaVMoreLaw
namespace Go.Proofs.Ytkbhmajcddmhnaa
open Go.RowKit
set_option linter.unusedVariables false
set_option linter.unusedSimpArgs false

set_option maxRecDepth 100000 in
set_option maxHeartbeats 4000000 in
theorem lawMore_any (a : Option Addr) (n cap : Nat) (l : List Offer) (fa : Option Addr) (fn fc : Nat) (fs : List Fair) (g0 u0 want more : Int) (ca : Option Addr) (cn cc : Nat) (by_ : List Int) (w : World)
    (hl : OffersAt w a n l) (hf : FairsAt w fa fn fs) (hby : IntsAt .u32 w ca cn by_) (hu : u32s by_) (hm0 : 0 ≤ more) (hm1 : more ≤ 65535) (hn : n ≤ maxLen) (hfn : fn ≤ maxLen) (hcn : cn ≤ maxLen) :
    Calls Try.prog 11 #[.slice a n cap, .slice fa fn fc, .int .i64 g0, .int .i64 u0, .int .i64 want, .int .u16 more, .slice ca cn cc] w fun e w' => e = .returned (.bool true) ∧ Ext w w' := by
  have hal := fun W => alive_any W
  have hrd := fun W (hW : Ext w W) => ready_any a n cap l fa fn fc fs W (hl.ext hW) (hf.ext hW) hn hfn
  unfold maxLen at hn hfn hcn
  cases hr : readyB l fs with
  | false =>
    rw [hr] at hrd
    have Hal := Lib.hid hal
    have Hrd := Lib.hid hrd
    clear hal hrd
    clear hl hf hr hby hu
    go_enter Try.func11, Try.ntmps11
    go_wp2_with (first | (go_at_call 32; refine (Hal.out _).mono ?_; rintro e w1 ⟨rfl, hx1⟩) | (go_at_call 33; refine (Hrd.out _ hx1).mono ?_; rintro e w2 ⟨rfl, hx2⟩))
    go_ret
    exact ⟨rfl, hx1.trans hx2⟩
  | true =>
  have hr2 := hr
  simp only [readyB, Bool.and_eq_true, Bool.not_eq_true', decide_eq_true_eq] at hr2
  obtain ⟨ho, ht⟩ := checkOf_zero hr2.2
  rw [hr] at hrd
  have hc0 := hr2.2
  clear hr hr2
  by_cases b1 : g0 < 0
  · have b1' : decide (g0 < 0) = true := decide_eq_true b1
    have Hal := Lib.hid hal
    have Hrd := Lib.hid hrd
    clear hal hrd
    clear hl hf ho ht hc0 hby hu
    go_enter Try.func11, Try.ntmps11
    go_wp2_with (first | (go_at_call 32; refine (Hal.out _).mono ?_; rintro e w1 ⟨rfl, hx1⟩) | (go_at_call 33; refine (Hrd.out _ hx1).mono ?_; rintro e w2 ⟨rfl, hx2⟩))
    go_ret
    exact ⟨rfl, hx1.trans hx2⟩
  have b1' : decide (g0 < 0) = false := decide_eq_false b1
  by_cases b2 : 5 ≤ g0
  · have b2' : decide (5 ≤ g0) = true := decide_eq_true b2
    have Hal := Lib.hid hal
    have Hrd := Lib.hid hrd
    clear hal hrd
    clear hl hf ho ht hc0 hby hu
    go_enter Try.func11, Try.ntmps11
    go_wp2_with (first | (go_at_call 32; refine (Hal.out _).mono ?_; rintro e w1 ⟨rfl, hx1⟩) | (go_at_call 33; refine (Hrd.out _ hx1).mono ?_; rintro e w2 ⟨rfl, hx2⟩))
    go_ret
    exact ⟨rfl, hx1.trans hx2⟩
  have b2' : decide (5 ≤ g0) = false := decide_eq_false b2
  by_cases b3 : want < 0
  · have b3' : decide (want < 0) = true := decide_eq_true b3
    have Hal := Lib.hid hal
    have Hrd := Lib.hid hrd
    clear hal hrd
    clear hl hf ho ht hc0 hby hu
    go_enter Try.func11, Try.ntmps11
    go_wp2_with (first | (go_at_call 32; refine (Hal.out _).mono ?_; rintro e w1 ⟨rfl, hx1⟩) | (go_at_call 33; refine (Hrd.out _ hx1).mono ?_; rintro e w2 ⟨rfl, hx2⟩))
    go_ret
    exact ⟨rfl, hx1.trans hx2⟩
  have b3' : decide (want < 0) = false := decide_eq_false b3
  by_cases b4 : 5 ≤ want
  · have b4' : decide (5 ≤ want) = true := decide_eq_true b4
    have Hal := Lib.hid hal
    have Hrd := Lib.hid hrd
    clear hal hrd
    clear hl hf ho ht hc0 hby hu
    go_enter Try.func11, Try.ntmps11
    go_wp2_with (first | (go_at_call 32; refine (Hal.out _).mono ?_; rintro e w1 ⟨rfl, hx1⟩) | (go_at_call 33; refine (Hrd.out _ hx1).mono ?_; rintro e w2 ⟨rfl, hx2⟩))
    go_ret
    exact ⟨rfl, hx1.trans hx2⟩
  have b4' : decide (5 ≤ want) = false := decide_eq_false b4
  by_cases b5 : u0 < 0
  · have b5' : decide (u0 < 0) = true := decide_eq_true b5
    have Hal := Lib.hid hal
    have Hrd := Lib.hid hrd
    clear hal hrd
    clear hl hf ho ht hc0 hby hu
    go_enter Try.func11, Try.ntmps11
    go_wp2_with (first | (go_at_call 32; refine (Hal.out _).mono ?_; rintro e w1 ⟨rfl, hx1⟩) | (go_at_call 33; refine (Hrd.out _ hx1).mono ?_; rintro e w2 ⟨rfl, hx2⟩))
    go_ret
    exact ⟨rfl, hx1.trans hx2⟩
  have b5' : decide (u0 < 0) = false := decide_eq_false b5
  by_cases b6 : 1000000 < u0
  · have b6' : decide (1000000 < u0) = true := decide_eq_true b6
    have Hal := Lib.hid hal
    have Hrd := Lib.hid hrd
    clear hal hrd
    clear hl hf ho ht hc0 hby hu
    go_enter Try.func11, Try.ntmps11
    go_wp2_with (first | (go_at_call 32; refine (Hal.out _).mono ?_; rintro e w1 ⟨rfl, hx1⟩) | (go_at_call 33; refine (Hrd.out _ hx1).mono ?_; rintro e w2 ⟨rfl, hx2⟩))
    go_ret
    exact ⟨rfl, hx1.trans hx2⟩
  have b6' : decide (1000000 < u0) = false := decide_eq_false b6
  have hnl := hl.1
  have hfl := hf.1
  have hol := offers_len ho
  have htl := trip_len ht
  have hn10 : n ≤ 10 := by omega
  have hfn5 : fn ≤ 5 := by omega
  obtain ⟨u1, hu1⟩ : ∃ u1, (if 1000000 < u0 + more then 1000000 else u0 + more) = u1 := ⟨_, rfl⟩
  have hu1a : u0 ≤ u1 := by split at hu1 <;> omega
  have hu1b : u1 ≤ 1000000 := by split at hu1 <;> omega
  have hao : argsOk g0 u0 want = true := by simp only [argsOk, inB, Bool.and_eq_true, decide_eq_true_eq]; omega
  have hao1 : argsOk g0 u1 want = true := by simp only [argsOk, inB, Bool.and_eq_true, decide_eq_true_eq]; omega
  have hb0 := fun u W (hW : Ext w W) => mBest_any a n cap l fa fn fc fs g0 u want W (hl.ext hW) (hf.ext hW) (by omega) (by omega)
  have hna := fun W (hW : Ext w W) => narrow_any a n cap l fa fn fc fs ca cn cc by_ W (hl.ext hW) (hf.ext hW) (hby.ext hW) ho ht hu (by omega)
  have hb1 := fun ba bc m fa fc fm W (h1 : OffersAt W ba n m) (h2 : FairsAt W fa fn fm) => mBest_any ba n bc m fa fn fc fm g0 u0 want W h1 h2 (by omega) (by omega)
  have hle1 := bestOf_le ho ht (NarO.refl ho) (NarT.refl ht) hc0 hao hao1 hu1a
  have hle2 := fun m fm (no : NarO l m) (nt : NarT fs fm) => bestOf_le ho ht no nt hc0 hao hao (Int.le_refl u0)
  unfold NarPost at hna
  rw [hnl, hfl] at hna
  obtain ⟨E, hE⟩ : ∃ E, (bestOf l fs g0 u0 want).err = E := ⟨_, rfl⟩
  obtain ⟨G, hG⟩ : ∃ G, (bestOf l fs g0 u0 want).got = G := ⟨_, rfl⟩
  obtain ⟨G1, hG1⟩ : ∃ G, (bestOf l fs g0 u1 want).got = G := ⟨_, rfl⟩
  rw [hE, hG, hG1] at hle1
  rw [hE, hG] at hle2
  have c1 : decide (G ≤ G1) = true := decide_eq_true hle1.2
  have b00 := fun W hW => hb0 u0 W hW
  have b01 := fun W hW => hb0 u1 W hW
  unfold BestPost at b00 b01
  rw [hE, hG] at b00
  rw [hle1.1, hG1] at b01
  have Hal := Lib.hid hal
  have Hrd := Lib.hid hrd
  have Hna := Lib.hid hna
  have B00 := Lib.hid b00
  have B01 := Lib.hid b01
  have Hb1 := Lib.hid hb1
  have Hle2 := Lib.hid hle2
  clear hal hrd hna b00 b01 hb1 hle2
  clear hl hf hby hu ho ht hc0 hb0 hle1 hE hG hG1 hao hao1
  go_enter Try.func11, Try.ntmps11
  go_wp2_with (first | (go_at_call 32; refine (Hal.out _).mono ?_; rintro e w1 ⟨rfl, hx1⟩) | (go_at_call 33; refine (Hrd.out _ hx1).mono ?_; rintro e w2 ⟨rfl, hx2⟩; have hx02 := hx1.trans hx2) | (go_at_call 28; refine (B00.out _ hx02).mono ?_; rintro e w3 ⟨ra, rn, rc, rfl, hx3, _, _⟩; have hx03 := hx02.trans hx3; clear B00) | (go_at_call 28; refine (B01.out _ hx03).mono ?_; rintro e w4 ⟨ra1, rn1, rc1, rfl, hx4, _, _⟩; have hx04 := hx03.trans hx4; clear B01) | (go_at_call 38; refine (Hna.out _ hx04).mono ?_; rintro e w5 ⟨ba, bc, ka, kc, m, fm, rfl, hx5, no, nt, hm, hfm⟩; have hx05 := hx04.trans hx5; have hbb := Hb1.out ba bc m ka kc fm w5 hm hfm; have hll := Hle2.out m fm no nt; obtain ⟨G2, hG2⟩ : ∃ G, (bestOf m fm g0 u0 want).got = G := ⟨_, rfl⟩; rw [hG2] at hll; have c2 : decide (G ≤ G2) = true := decide_eq_true hll.2; unfold BestPost at hbb; rw [hll.1, hG2] at hbb; have Hbb := Lib.hid hbb; clear hbb hll hG2 hm hfm no nt Hna) | (go_at_call 28; refine Hbb.out.mono ?_; rintro e w6 ⟨ra2, rn2, rc2, rfl, hx6, _, _⟩))
  go_ret
  exact ⟨rfl, hx05.trans hx6⟩
end Go.Proofs.Ytkbhmajcddmhnaa
