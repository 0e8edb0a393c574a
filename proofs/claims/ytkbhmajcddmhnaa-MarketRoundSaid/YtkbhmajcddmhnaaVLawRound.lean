/- The law MarketRound. -/
import Derived.Test.YtkbhmajcddmhnaaVReady
import Derived.Test.YtkbhmajcddmhnaaVRoundTail
import Derived.Deep.CutRange
import Derived.Deep.CutBlock
namespace Go.Proofs.Ytkbhmajcddmhnaa
open Go.RowKit
set_option linter.unusedVariables false
set_option linter.unusedSimpArgs false

set_option maxRecDepth 100000 in
set_option maxHeartbeats 4000000 in
theorem lawRound_any (a : Option Addr) (n cap : Nat) (l : List Offer) (p d : Int) (oa : Option Addr) (on oc : Nat) (os : List Int) (w : World)
    (hl : OffersAt w a n l) (hos : IntsAt .u8 w oa on os) (hwf : ∀ x ∈ os, 0 ≤ x ∧ x < 256) (hn : n ≤ maxLen) (hon : on ≤ maxLen) :
    Calls Try.prog 13 #[.slice a n cap, .int .i64 p, .int .i64 d, .slice oa on oc] w fun e w' => e = .returned (.bool true) ∧ Ext w w' := by
  have hal := fun W => alive_any W
  unfold maxLen at hn hon
  by_cases c1 : 15 < n
  · have c1' : decide ((15 : Int) < (n : Int)) = true := by simp; omega
    have Hal := Lib.hid hal
    clear hal
    clear hl hos hwf
    go_enter Try.func13, Try.ntmps13
    go_wp2_with (go_at_call 32; refine (Hal.out _).mono ?_; rintro e w1 ⟨rfl, hx1⟩)
    go_ret
    exact ⟨rfl, hx1⟩
  have c1' : decide ((15 : Int) < (n : Int)) = false := by simp; omega
  have hof := fun W (hW : Ext w W) => refOffers_any a n cap l W (hl.ext hW) (by omega)
  cases ho : offersOk l with
  | false =>
    rw [ho] at hof
    have Hal := Lib.hid hal
    have Hof := Lib.hid hof
    clear hal hof
    clear hl hos hwf ho
    go_enter Try.func13, Try.ntmps13
    go_wp2_with (first | (go_at_call 32; refine (Hal.out _).mono ?_; rintro e w1 ⟨rfl, hx1⟩) | (go_at_call 39; refine (Hof.out _ hx1).mono ?_; rintro e w2 ⟨rfl, hx2⟩))
    go_ret
    exact ⟨rfl, hx1.trans hx2⟩
  | true =>
  rw [ho] at hof
  by_cases c2 : n = 0
  · subst c2
    have Hal := Lib.hid hal
    have Hof := Lib.hid hof
    clear hal hof
    clear hl hos hwf ho
    go_enter Try.func13, Try.ntmps13
    go_wp2_with (first | (go_at_call 32; refine (Hal.out _).mono ?_; rintro e w1 ⟨rfl, hx1⟩) | (go_at_call 39; refine (Hof.out _ hx1).mono ?_; rintro e w2 ⟨rfl, hx2⟩))
    go_ret
    exact ⟨rfl, hx1.trans hx2⟩
  have c2' : ((n : Int) == 0) = false := by simp; omega
  by_cases b1 : p < 0
  · have b1' : decide (p < 0) = true := decide_eq_true b1
    have Hal := Lib.hid hal
    have Hof := Lib.hid hof
    clear hal hof
    clear hl hos hwf ho
    go_enter Try.func13, Try.ntmps13
    go_wp2_with (first | (go_at_call 32; refine (Hal.out _).mono ?_; rintro e w1 ⟨rfl, hx1⟩) | (go_at_call 39; refine (Hof.out _ hx1).mono ?_; rintro e w2 ⟨rfl, hx2⟩))
    go_ret
    exact ⟨rfl, hx1.trans hx2⟩
  have b1' : decide (p < 0) = false := decide_eq_false b1
  by_cases b2 : 9999 < p
  · have b2' : decide (9999 < p) = true := decide_eq_true b2
    have Hal := Lib.hid hal
    have Hof := Lib.hid hof
    clear hal hof
    clear hl hos hwf ho
    go_enter Try.func13, Try.ntmps13
    go_wp2_with (first | (go_at_call 32; refine (Hal.out _).mono ?_; rintro e w1 ⟨rfl, hx1⟩) | (go_at_call 39; refine (Hof.out _ hx1).mono ?_; rintro e w2 ⟨rfl, hx2⟩))
    go_ret
    exact ⟨rfl, hx1.trans hx2⟩
  have b2' : decide (9999 < p) = false := decide_eq_false b2
  by_cases b3 : d < 0
  · have b3' : decide (d < 0) = true := decide_eq_true b3
    have Hal := Lib.hid hal
    have Hof := Lib.hid hof
    clear hal hof
    clear hl hos hwf ho
    go_enter Try.func13, Try.ntmps13
    go_wp2_with (first | (go_at_call 32; refine (Hal.out _).mono ?_; rintro e w1 ⟨rfl, hx1⟩) | (go_at_call 39; refine (Hof.out _ hx1).mono ?_; rintro e w2 ⟨rfl, hx2⟩))
    go_ret
    exact ⟨rfl, hx1.trans hx2⟩
  have b3' : decide (d < 0) = false := decide_eq_false b3
  by_cases b4 : 100000 < d
  · have b4' : decide (100000 < d) = true := decide_eq_true b4
    have Hal := Lib.hid hal
    have Hof := Lib.hid hof
    clear hal hof
    clear hl hos hwf ho
    go_enter Try.func13, Try.ntmps13
    go_wp2_with (first | (go_at_call 32; refine (Hal.out _).mono ?_; rintro e w1 ⟨rfl, hx1⟩) | (go_at_call 39; refine (Hof.out _ hx1).mono ?_; rintro e w2 ⟨rfl, hx2⟩))
    go_ret
    exact ⟨rfl, hx1.trans hx2⟩
  have b4' : decide (100000 < d) = false := decide_eq_false b4
  have hol := offers_len ho
  have hnl := hl.1
  have hn10 : n ≤ 10 := by omega
  have hrd := fun ca m cc ls W (hW : Ext w W) (hc : IntsAt .i64 W ca m ls) (hm : m ≤ 5) (hb : ∀ k ∈ ls, 0 ≤ k ∧ k < (n : Int)) => rounds_any a n cap l p d ca m cc ls W (hl.ext hW) hc ho hm hb
  have hmr := fun W (hW : Ext w W) => mRound_any a n cap l p d W (hl.ext hW) (by omega)
  have hwe : wentD l p d = match roundFind l p d with | some ls => ⟨ls, 0⟩ | none => ⟨[], 6⟩ := by
    rw [wentD_eq]
    unfold wentOf
    rw [if_neg (by simp [ho]), if_neg (by simp [inB]; omega)]
    cases roundFind l p d <;> rfl
  rw [hwe] at hmr
  clear hwe
  have hrun := fun fa fc fs sa sc xs ba bn bc bs W (hW : Ext w W) (hf : FairsAt W fa 1 fs) (h1 : IntsAt .i64 W sa 5 xs) (h2 : BartersAt W ba bn bs) (hb : bn ≤ 5) => run_any a n cap l fa 1 fc fs sa 5 sc xs ba bn bc bs W (hl.ext hW) hf h1 h2 (by omega) (by omega) (by omega) (by omega)
  have Hal := Lib.hid hal
  have Hof := Lib.hid hof
  have Hrd := Lib.hid hrd
  have Hmr := Lib.hid hmr
  have Hl := Lib.hid hl
  have Hos := Lib.hid hos
  have Hwf := Lib.hid hwf
  have Ho := Lib.hid ho
  have Hrun := Lib.hid hrun
  have Hnl := Lib.hid hnl
  clear hal hof hrd hmr hl hos hwf ho hrun hnl
  go_enter Try.func13, Try.ntmps13
  go_upto_region 5 with (first | (go_at_call 32; refine (Hal.out _).mono ?_; rintro e w1 ⟨rfl, hx1⟩) | (go_at_call 39; refine (Hof.out _ hx1).mono ?_; rintro e w2 ⟨rfl, hx2⟩))
  have hx02 := hx1.trans hx2
  have Hx02 := Lib.hid hx02
  clear hx02
  clear hx1 hx2
  go_wp2_with fail
  go_loopw [10, 71] (fun lv i wr => ∃ (k : Nat) (ls : List Int), k ≤ on ∧ i = .int .i64 k ∧ ls.length ≤ 5 ∧ (∀ x ∈ ls, 0 ≤ x ∧ x < (n : Int)) ∧ Ext w2 wr ∧ Owns wr w2.heap.size 3 1 lv (intRows .i64 ls)) (fun _ i _ => on - (intOf i).toNat)
  case atStart => exact ⟨0, [], Nat.zero_le _, rfl, by simp, by simp, Ext.refl _, Owns.nil _ _ _ _⟩
  case round =>
    obtain ⟨k, ls, hk, rfl, hls5, hlsb, hx, hown⟩ := hrel
    have hio := ints_of_owns hown
    obtain ⟨la, lc, rfl, hfr, hlc, hlcm, hli⟩ := hio
    have hrl : (intRows .i64 ls).length = ls.length := by simp [intRows]
    have Hx := Lib.hid hx
    have Hown := Lib.hid hown
    have Hlsb := Lib.hid hlsb
    have Hli := Lib.hid hli
    clear hx hown hlsb hli
    by_cases hlt : k < on
    · have hlt' : decide ((k : Int) < (on : Int)) = true := by simp; omega
      obtain ⟨ob, oo, x, rfl, hxk, hxb, e0⟩ := (Hos.out.ext (Hx02.out.trans Hx.out)).get k hlt
      obtain ⟨x0, x1⟩ := Hwf.out x (List.mem_of_getElem? hxk)
      clear hxk
      by_cases h5 : ls.length < 5
      · have h5' : decide ((ls.length : Int) < 5) = true := by simp; omega
        have n0 : ((n : Int) == 0) = false := c2'
        have n0' : (n : Int) ≠ 0 := by omega
        have m0 : 0 ≤ x % (n : Int) := Int.emod_nonneg _ n0'
        have m1 : x % (n : Int) < n := Int.emod_lt_of_pos _ (by omega)
        have hxA : Ext wr (wr.alloc (.cells #[.int .i64 (x % (n : Int))] 3)) := (Ext.refl _).alloc _
        have hb46 := heap_alloc_new wr (.cells #[.int .i64 (x % (n : Int))] 3)
        have hsrc : SlAt (wr.alloc (.cells #[.int .i64 (x % (n : Int))] 3)) 1 (some ⟨wr.heap.size, 0, none⟩) 1 (fun q => (intRows .i64 [x % (n : Int)]).getD q []) := slAt_one (cells_one (by simp [go_sem]))
        have hownA := Hown.out.ext hxA
        have HxA := Lib.hid hxA
        have Hsrc := Lib.hid hsrc
        have HownA := Lib.hid hownA
        clear hxA hsrc hownA
        clear hb46
        go_wp2_with (at_builtin; refine wpList_app elem24 _ rfl (.tmp 78) (.tmp 84) rfl w2.heap.size _ (intRows .i64 ls) rfl HownA.out (some ⟨wr.heap.size, 0, none⟩) 1 1 (intRows .i64 [x % (n : Int)]) rfl rfl Hsrc.out (intRows_row _ _) ?_ ?_ ?_)
        · rw [hrl]; omega
        · have := Hx.out.size; simp; omega
        · intro v6 w6 ho6 hg6 _
          rw [← intRows_append] at ho6
          have hx6 : Ext w2 w6 := (Hx.out.trans HxA.out).app HownA.out hg6
          have hb6 : ∀ y ∈ ls ++ [x % (n : Int)], 0 ≤ y ∧ y < (n : Int) := fun y hy => by
            rcases List.mem_append.1 hy with hy | hy
            · exact Hlsb.out y hy
            · rw [List.mem_singleton.1 hy]; exact ⟨m0, m1⟩
          have Hx6 := Lib.hid hx6
          have Ho6 := Lib.hid ho6
          have Hb6 := Lib.hid hb6
          clear hx6 ho6 hb6
          clear e0
          go_wp2_with fail
          go_roundw
          case rel => exact ⟨k + 1, _, by omega, by go_num, by simp; omega, Hb6.out, Hx6.out, Ho6.out⟩
          case measure => simp [intOf]; omega
      · have h5' : decide ((ls.length : Int) < 5) = false := by simp; omega
        go_wp2_with fail
        go_roundw
        case rel => exact ⟨k + 1, ls, by omega, by go_num, hls5, Hlsb.out, Hx.out, Hown.out⟩
        case measure => simp [intOf]; omega
    · have hlt' : decide ((k : Int) < (on : Int)) = false := by simp; omega
      go_upto_region 11 with fail
      obtain ⟨isB, his⟩ : ∃ b, (decide (0 < ls.length) && roundsB l p d ls) = b := ⟨_, rfl⟩
      go_cut [13] from 87 (fun s13 wx => s13 = .bool isB ∧ Ext wr wx)
      case first =>
        by_cases e0 : ls.length = 0
        · have e0' : decide ((0 : Int) < (ls.length : Int)) = false := decide_eq_false (by omega)
          have hisf : isB = false := by rw [← his]; simp [e0]
          subst hisf
          go_wp2_with fail
          go_meet
          case rel => exact ⟨rfl, Ext.refl _⟩
        · have e0' : decide ((0 : Int) < (ls.length : Int)) = true := decide_eq_true (by omega)
          have hcall := Hrd.out _ _ lc ls wr (Hx02.out.trans Hx.out) Hli.out hls5 Hlsb.out
          have hise : roundsB l p d ls = isB := by rw [← his, decide_eq_true (show 0 < ls.length by omega), Bool.true_and]
          rw [hise] at hcall
          have Hcall := Lib.hid hcall
          clear hcall
          clear his hise
          go_wp2_with (go_at_call 40; refine Hcall.out.mono ?_; rintro e w3 ⟨rfl, hx3⟩)
          go_meet
          case rel => exact ⟨rfl, hx3⟩
      case rest =>
        obtain ⟨rfl, hx3⟩ := hcut
        obtain ⟨w3, rfl⟩ : ∃ w3 : World, w3 = wc := ⟨_, rfl⟩
        have hx03 := (Hx02.out.trans Hx.out).trans hx3
        have hli3 := Hli.out.ext hx3
        have Hx03 := Lib.hid hx03
        have Hli3 := Lib.hid hli3
        clear hx03 hli3
        clear hx3 Hli Hown hfr
        cases hF : roundFind l p d with
        | none =>
          have hmr3 := Hmr.out w3 Hx03.out
          rw [hF] at hmr3
          have hisf : isB = false := by
            rw [← his]
            by_cases e0 : 0 < ls.length
            · rw [round_none hF e0 hls5 (by rw [Hnl.out]; exact Hlsb.out)]; simp
            · simp [e0]
          subst hisf
          have Hmr3 := Lib.hid hmr3
          clear hmr3
          clear his
          go_wp2_with (go_at_call 30; refine Hmr3.out.mono ?_; rintro e w4 ⟨ra, rn, rc, rfl, hx4, hrn, hri⟩; obtain rfl : rn = 0 := hri.1.symm)
          go_ret
          exact ⟨rfl, Hx03.out.trans hx4⟩
        | some c =>
          obtain ⟨hcr, ⟨hc1, hc5, hcb⟩, hfst⟩ := round_first hF
          have hmr3 := Hmr.out w3 Hx03.out
          rw [hF] at hmr3
          rw [Hnl.out] at hcb hfst
          have hc0' : ((c.length : Int) == 0) = false := by rw [beq_eq_false_iff_ne]; omega
          have hc5' : decide ((5 : Int) < (c.length : Int)) = false := by simp; omega
          have Hmr3 := Lib.hid hmr3
          have Hcr := Lib.hid hcr
          have Hcb := Lib.hid hcb
          have Hfst := Lib.hid hfst
          have His := Lib.hid his
          clear hmr3 hcr hcb hfst his
          clear hF
          go_upto_region 17 with (go_at_call 30; refine Hmr3.out.mono ?_; rintro e w4 ⟨ra, rn, rc, rfl, hx4, hrn, hri⟩; obtain rfl : rn = c.length := hri.1.symm)
          have hx04 := Hx03.out.trans hx4
          have hli4 := Hli3.out.ext hx4
          have Hx04 := Lib.hid hx04
          have Hli4 := Lib.hid hli4
          have Hri := Lib.hid hri
          clear hx04 hli4 hri
          clear hx4 Hx03 Hli3 Hmr3 Hmr
          go_wp2_with fail
          go_loopw [130] (fun i wr => ∃ k : Nat, k ≤ c.length ∧ i = .int .i64 k ∧ Ext w4 wr) (fun i _ => c.length - (intOf i).toNat)
          case atStart => exact ⟨0, Nat.zero_le _, rfl, Ext.refl _⟩
          case round =>
            obtain ⟨k, hk, rfl, hx⟩ := hrel
            by_cases hlt : k < c.length
            · have hlt' : decide ((k : Int) < (c.length : Int)) = true := by simp; omega
              obtain ⟨zb, zo, z, rfl, hzk, hzb, e0⟩ := (Hri.out.ext hx).get k hlt
              obtain ⟨z1, z2⟩ := Hcb.out z (List.mem_of_getElem? hzk)
              have z1' : decide (z < 0) = false := by simp; omega
              have z2' : decide ((n : Int) ≤ z) = false := by simp; omega
              clear hzk
              go_wp2_with fail
              go_roundw
              case rel => exact ⟨k + 1, by omega, by go_num, hx⟩
              case measure => simp [intOf]; omega
            · have hlt' : decide ((k : Int) < (c.length : Int)) = false := by simp; omega
              obtain rfl : k = c.length := by omega
              have hri5 := Hri.out.ext hx
              have hli5 := Hli4.out.ext hx
              have hx05 := Hx04.out.trans hx
              obtain ⟨w5, rfl⟩ : ∃ w5 : World, w5 = wr := ⟨_, rfl⟩
              have hcall := Hrd.out ra c.length rc c w5 hx05 hri5 hc5 Hcb.out
              rw [Hcr.out] at hcall
              have Hri5 := Lib.hid hri5
              have Hli5 := Lib.hid hli5
              have Hx05 := Lib.hid hx05
              have Hcall := Lib.hid hcall
              clear hri5 hli5 hx05 hcall
              clear Hri Hli4 Hx04 hx
              go_upto_region 23 with fail
              go_cut [158] from 130 (fun s158 wx => s158 = .bool false ∧ Ext w5 wx)
              case first =>
                have hlq : isB = true → decide ((ls.length : Int) < (c.length : Int)) = false := fun hb => by
                  have h1 := His.out
                  rw [hb, Bool.and_eq_true, decide_eq_true_eq] at h1
                  rcases Hfst.out ls h1.1 hls5 Hlsb.out h1.2 with h | ⟨h, h'⟩
                  · simp; omega
                  · simp; omega
                cases isB with
                | false =>
                  clear hlq
                  go_wp2_with (go_at_call 40; refine Hcall.out.mono ?_; rintro e w6 ⟨rfl, hx6⟩)
                  go_meet
                  case rel => exact ⟨rfl, hx6⟩
                | true =>
                  have hlq2 := hlq rfl
                  clear hlq
                  go_wp2_with (go_at_call 40; refine Hcall.out.mono ?_; rintro e w6 ⟨rfl, hx6⟩)
                  go_meet
                  case rel => exact ⟨by have h := of_decide_eq_false hlq2; rw [decide_eq_false (by omega)], hx6⟩
              case rest =>
              obtain ⟨w6, rfl⟩ : ∃ w6 : World, w6 = wc := ⟨_, rfl⟩
              obtain ⟨rfl, hx6⟩ := hcut
              have hll : isB = true → c.length ≤ ls.length ∧ (ls.length = c.length → ls = c ∨ LexLt c.length c ls) := by
                intro hb
                have h1 := His.out
                rw [hb, Bool.and_eq_true, decide_eq_true_eq] at h1
                rcases Hfst.out ls h1.1 hls5 Hlsb.out h1.2 with h | ⟨h, h'⟩
                · exact ⟨by omega, fun e => by omega⟩
                · exact ⟨by omega, fun _ => h'⟩
              have Hll := Lib.hid hll
              clear hll
              go_upto_block 4 with fail
              go_cut [18] from 130 (fun s18 wx => Ext w5 wx)
              case first =>
                go_wp2_with fail
                go_loopw [18] (fun i wr => ∃ k : Nat, k ≤ c.length ∧ i = .int .i64 k ∧ Ext w5 wr ∧ (ls.length = c.length → ∀ j, j < k → c.getD j 0 = ls.getD j 0)) (fun i _ => c.length - (intOf i).toNat)
                case atStart => exact ⟨0, Nat.zero_le _, rfl, hx6, fun _ j hj => by omega⟩
                case round =>
                  obtain ⟨k, hk, rfl, hx, hpre⟩ := hrel
                  obtain ⟨tB, htB⟩ : ∃ t, (isB && (decide (ls.length = c.length)) && decide (k < c.length)) = t := ⟨_, rfl⟩
                  go_upto_region 26 with fail
                  go_cut [172] from 159 to 192 (fun s172 wx => s172 = .bool tB ∧ wx = wr)
                  case first =>
                    cases isB with
                    | false =>
                      obtain rfl : tB = false := by rw [← htB]; rfl
                      go_wp2_with fail
                      go_meet
                      case rel => exact ⟨rfl, rfl⟩
                    | true =>
                      by_cases hle : ls.length = c.length
                      · have hleB : ((ls.length : Int) == (c.length : Int)) = true := by rw [beq_iff_eq]; omega
                        by_cases hkl : k < c.length
                        · have hklB : decide ((k : Int) < (c.length : Int)) = true := by simp; omega
                          obtain rfl : tB = true := by rw [← htB]; simp [hle, hkl]
                          clear hle htB
                          go_wp2_with fail
                          go_meet
                          case rel => refine ⟨?_, rfl⟩; first | rfl | (simp; omega)
                        · have hklB : decide ((k : Int) < (c.length : Int)) = false := by simp; omega
                          obtain rfl : tB = false := by rw [← htB]; simp [hkl]
                          clear hle htB
                          go_wp2_with fail
                          go_meet
                          case rel => refine ⟨?_, rfl⟩; first | rfl | (simp; omega)
                      · have hleB : ((ls.length : Int) == (c.length : Int)) = false := by rw [beq_eq_false_iff_ne]; omega
                        obtain rfl : tB = false := by rw [← htB]; simp [hle]
                        go_wp2_with fail
                        go_meet
                        case rel => refine ⟨?_, rfl⟩; first | rfl | (simp; omega)
                  case rest =>
                    obtain ⟨rfl, rfl⟩ := hcut
                    cases tB with
                    | false =>
                      clear htB
                      go_wp2_with fail
                      go_meet
                      case rel => exact hx
                    | true =>
                      simp only [Bool.and_eq_true, decide_eq_true_eq] at htB
                      obtain ⟨⟨rfl, hle⟩, hkl⟩ := htB
                      have hlx := (Hll.out rfl).2 hle
                      have Hle := Lib.hid hle
                      have hkls : k < ls.length := by omega
                      clear hle
                      obtain ⟨zb, zo, z, rfl, hzk, hzb, e0⟩ := (Hri5.out.ext hx).get k hkl
                      obtain ⟨yb, yo, y, rfl, hyk, hyb, e1⟩ := (Hli5.out.ext hx).get k hkls
                      have Hx := Lib.hid hx
                      have Hpre := Lib.hid hpre
                      clear hx hpre
                      go_upto_region 28 with fail
                      refine wp_region_ext (by kernel_rfl) (by kernel_rfl) (fun f hf hs => ?_)
                      have f0 := fun q => (hf q).cell e0
                      have f1 := fun q => (hf q).cell e1
                      clear hf hs
                      repeat (go_big_quiet_step (fail))
                      refine wpQuiet_nil ?_
                      intro W7 hW7
                      clear f0 f1
                      have hx7 := Hx.out.trans hW7
                      by_cases hzy : z = y
                      · subst hzy
                        have hne : (z != z) = false := by simp
                        have hpre2 : ∀ j, j < k + 1 → c.getD j 0 = ls.getD j 0 := fun j hj => by
                          rcases Nat.lt_or_ge j k with h | h
                          · exact Hpre.out Hle.out j h
                          · obtain rfl : j = k := by omega
                            simp [List.getD, hzk, hyk]
                        have Hpre2 := Lib.hid hpre2
                        have Hx7 := Lib.hid hx7
                        clear hpre2 hx7
                        clear hzk hyk
                        go_wp2_with fail
                        go_roundw
                        case rel => exact ⟨k + 1, by omega, by go_num, Hx7.out, fun _ => Hpre2.out⟩
                        case measure => simp [intOf]; omega
                      · have hne : (z != y) = true := by rw [bne_iff_ne]; exact hzy
                        have hzy2 : z < y := by
                          have hck : c.getD k 0 = z := by simp [List.getD, hzk]
                          have hyk2 : ls.getD k 0 = y := by simp [List.getD, hyk]
                          rcases hlx with h | ⟨i, i1, i2, i3⟩
                          · rw [h] at hyk2; omega
                          · rcases Nat.lt_trichotomy i k with h | h | h
                            · have := Hpre.out Hle.out i h; omega
                            · subst h; omega
                            · have := i2 k h; omega
                        have hgt : decide (y < z) = false := by simp; omega
                        have g0 := hW7.cell e0
                        have g1 := hW7.cell e1
                        clear hzk hyk e0 e1
                        go_upto_region 29 with fail
                        refine wp_region_ext (by kernel_rfl) (by kernel_rfl) (fun f hf hs => ?_)
                        have f0 := fun q => (hf q).cell g0
                        have f1 := fun q => (hf q).cell g1
                        clear hf hs
                        repeat (go_big_quiet_step (fail))
                        refine wpQuiet_nil ?_
                        intro W8 hW8
                        clear f0 f1
                        have hx8 := hx7.trans hW8
                        have Hx8 := Lib.hid hx8
                        clear hx8
                        go_wp2_with fail
                        go_meet
                        case rel => exact Hx8.out
              case rest =>
              go_step
              exact roundTail l Hl.out Ho.out Hnl.out hn10 (by omega) (by omega) (by omega) (by omega) hc1 hc5 Hcr.out Hcb.out (Hri5.out.ext hcut) (Hx05.out.trans hcut)
end Go.Proofs.Ytkbhmajcddmhnaa
