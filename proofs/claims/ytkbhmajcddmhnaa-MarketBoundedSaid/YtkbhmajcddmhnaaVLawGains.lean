/- The law MarketGains. -/
import Derived.Test.YtkbhmajcddmhnaaVGr9
import Derived.Test.YtkbhmajcddmhnaaVGr12
import Derived.Test.YtkbhmajcddmhnaaVLawRuns
namespace Go.Proofs.Ytkbhmajcddmhnaa
open Go.RowKit Go.ChangeShapes Go.WideShapes Go.ChangeAt
set_option linter.unusedVariables false
set_option linter.unusedSimpArgs false

set_option maxRecDepth 100000 in
set_option maxHeartbeats 4000000 in
theorem lawGains_any (a : Option Addr) (n cap : Nat) (l : List Offer) (fa : Option Addr) (fn fc : Nat) (fs : List Fair) (g0 u0 want p d : Int) (w : World)
    (hl : OffersAt w a n l) (hf : FairsAt w fa fn fs) (hn : n ≤ maxLen) (hfn : fn ≤ maxLen) :
    Calls Try.prog 5 #[.slice a n cap, .slice fa fn fc, .int .i64 g0, .int .i64 u0, .int .i64 want, .int .i64 p, .int .i64 d] w fun e w' => e = .returned (.bool true) ∧ Ext w w' := by
  have hgr := great_any a n cap l fa fn fc fs w hl.1 hf hn hfn
  unfold maxLen at hn hfn
  cases hg : greatB l fs with
  | true =>
    rw [hg] at hgr
    have Hgr := Lib.hid hgr
    clear hgr hl hf hg
    go_enter Try.func5, Try.ntmps5
    go_wp2_with (go_at_call 15; refine Hgr.out.mono ?_; rintro e w1 ⟨rfl, hx1⟩)
    go_ret
    exact ⟨rfl, hx1⟩
  | false =>
  obtain ⟨g1, g2⟩ := great_lens hg
  have hgk := great_keeps hg
  rw [hl.1] at g1
  rw [hf.1] at g2
  rw [hg] at hgr
  have Hgr := Lib.hid hgr
  clear hgr hg
  have hb1 := fun (a : Option Addr) (cap : Nat) (fa : Option Addr) (fc : Nat) W (hl : OffersAt W a n l) (hf : FairsAt W fa fn fs) => mBest_any a n cap l fa fn fc fs g0 u0 want W hl hf (by omega) (by omega)
  have hb2 := fun W (hW : Ext w W) => refBest_any a n cap l fa fn fc fs g0 u0 want W (hl.ext hW) (hf.ext hW) (by omega) (by omega)
  have hr1 := fun (a : Option Addr) (cap : Nat) W (hl : OffersAt W a n l) => mRound_any a n cap l p d W hl (by omega)
  have hr2 := fun W (hW : Ext w W) => refRound_any a n cap l p d W (hl.ext hW) (by omega)
  rw [wentD_eq] at hr1
  have hso := fun (a1 : Option Addr) (c1 : Nat) W (hW : Ext w W) (h : OffersAt W a1 n l) => same_offers a1 a n c1 cap l W h (hl.ext hW) (by omega)
  have hst := fun (a1 : Option Addr) (c1 : Nat) W (hW : Ext w W) (h : FairsAt W a1 fn fs) => same_trip a1 fa fn c1 fc fs W h (hf.ext hW) (by omega) (fun f hf => by have := hgk f hf; omega)
  have htw := fun W (hW : Ext w W) => twin_any fa fn fc fs W (hf.ext hW) (by omega) (fun f hf => by have := hgk f hf; omega)
  obtain ⟨T, hT⟩ : ∃ T, bestOf l fs g0 u0 want = T := ⟨_, rfl⟩
  obtain ⟨V, hV⟩ : ∃ V, wentOf l p d = V := ⟨_, rfl⟩
  rw [hT] at hb1 hb2
  rw [hV] at hr1 hr2
  obtain ⟨TC, TG, TE⟩ := T
  obtain ⟨VL, VE⟩ := V
  clear hT hV
  have hnl := hl.1
  have hnf := hf.1
  have Hb1 := Lib.hid hb1
  have Hb2 := Lib.hid hb2
  have Hr1 := Lib.hid hr1
  have Hr2 := Lib.hid hr2
  have Hso := Lib.hid hso
  have Hst := Lib.hid hst
  have Htw := Lib.hid htw
  have Hl := Lib.hid hl
  have Hf := Lib.hid hf
  have Hnl := Lib.hid hnl
  have Hnf := Lib.hid hnf
  clear hb1 hb2 hr1 hr2 hso hst htw hl hf hnl hnf
  clear hgk
  go_enter Try.func5, Try.ntmps5
  go_wp2_with (first | (go_at_call 15; refine Hgr.out.mono ?_; rintro e w1 ⟨rfl, hx1⟩; have Hemp := Lib.hid (Owns.empty w1 w1.heap.size 81 8 (Nat.le_refl _)); have Hsrc := Lib.hid (Hl.out.ext (hx1.alloc (.cells #[] 81))).src; have Hx1 := Lib.hid hx1; clear hx1) | (at_builtin; refine wpList_app elem22 _ rfl (.tmp 30) (.tmp 31) rfl w1.heap.size _ [] rfl Hemp.out a n cap (offerRows l) rfl ?_ Hsrc.out (offerRows_row _) ?_ ?_ ?_))
  · have := Hnl.out; simpa [offerRows] using this
  · simp only [List.length_nil]; omega
  · simp
  · intro v1 w2 ho2 hg2 _
    obtain ⟨a1, c1, hv1, _, hk1, hk1', hoff⟩ := offers_of_owns ho2
    rw [Hnl.out] at hv1 hk1 hoff
    subst hv1
    have hx2 : Ext w1 w2 := ((Ext.refl w1).alloc (.cells #[] 81)).app Hemp.out hg2
    have hxw2 := Hx1.out.trans hx2
    have Hoff := Lib.hid hoff
    have Hxw2 := Lib.hid hxw2
    clear hoff hxw2
    clear ho2 hg2 hx2
    clear Hemp Hsrc
    go_wp2_with (go_at_call 18; refine (Htw.out _ Hxw2.out).mono ?_; rintro e w3 ⟨a2, c2, he, hx3, _, hk2, hk2', hfair⟩; rw [Hnf.out] at he hk2 hfair; subst he; have Hxw3 := Lib.hid (Hxw2.out.trans hx3); have Hoff3 := Lib.hid (Hoff.out.ext hx3); have Hfair := Lib.hid hfair; clear hx3 hfair)
    go_wp2_with (go_at_call 28; refine (Hb1.out a1 c1 a2 c2 _ Hoff3.out Hfair.out).mono ?_; rintro e w4 ⟨ba, bn, bc, rfl, hx4, hbn, hbi⟩; have Hx4 := Lib.hid hx4; have Hbi := Lib.hid hbi; clear hx4 hbi)
    have hxw4 := Hxw3.out.trans Hx4.out
    have Hxw4 := Lib.hid hxw4
    clear hxw4
    go_wp2_with (go_at_call 29; refine (Hb2.out _ Hxw4.out).mono ?_; rintro e w5 ⟨ca, cn, cc, rfl, hx5, hcn, hci⟩; have Hx5 := Lib.hid hx5; have Hci := Lib.hid hci; clear hx5 hci)
    have hoff5 := Hoff3.out.ext (Hx4.out.trans Hx5.out)
    have hxw5 := Hxw4.out.trans Hx5.out
    have Hoff5 := Lib.hid hoff5
    have Hxw5 := Lib.hid hxw5
    clear hoff5 hxw5
    go_wp2_with (go_at_call 30; refine (Hr1.out a1 c1 _ Hoff5.out).mono ?_; rintro e w6 ⟨da, dn, dc, rfl, hx6, hdn, hdi⟩; have Hx6 := Lib.hid hx6; have Hdi := Lib.hid hdi; clear hx6 hdi)
    have hxw6 := Hxw5.out.trans Hx6.out
    have Hxw6 := Lib.hid hxw6
    clear hxw6
    go_wp2_with (go_at_call 31; refine (Hr2.out _ Hxw6.out).mono ?_; rintro e w7 ⟨ea, en, ec, rfl, hx7, hen, hei⟩; have Hx7 := Lib.hid hx7; have Hei := Lib.hid hei; clear hx7 hei)
    obtain rfl : bn = cn := by rw [← Hbi.out.1, ← Hci.out.1]
    obtain rfl : dn = en := by rw [← Hdi.out.1, ← Hei.out.1]
    have hx67 := Hx6.out.trans Hx7.out
    have hbi7 := Hbi.out.ext (Hx5.out.trans hx67)
    have hci7 := Hci.out.ext hx67
    have hdi7 := Hdi.out.ext Hx7.out
    have hxw7 := Hxw6.out.trans Hx7.out
    have hoff7 := Hoff5.out.ext hx67
    have hfair7 := Hfair.out.ext (Hx4.out.trans (Hx5.out.trans hx67))
    have Hbi7 := Lib.hid hbi7
    have Hci7 := Lib.hid hci7
    have Hdi7 := Lib.hid hdi7
    have Hxw7 := Lib.hid hxw7
    have Hoff7 := Lib.hid hoff7
    have Hfair7 := Lib.hid hfair7
    clear hbi7 hci7 hdi7 hxw7 hoff7 hfair7
    clear hx67
    refine (same_ints ba ca bn bc cc TC _ Hbi7.out Hci7.out (by omega)).mono ?_
    rintro e w8 ⟨rfl, hx8⟩
    have Hx8 := Lib.hid hx8
    clear hx8
    go_wp2_with fail
    refine (same_ints da ea dn dc ec VL _ (Hdi7.out.ext Hx8.out) (Hei.out.ext Hx8.out) (by omega)).mono ?_
    rintro e w9 ⟨rfl, hx9⟩
    have hx79 := Hx8.out.trans hx9
    have Hx79 := Lib.hid hx79
    clear hx79
    clear hx9
    go_wp2_with (first | (go_at_call 25; refine (Hso.out a1 c1 _ (Hxw7.out.trans Hx79.out) (Hoff7.out.ext Hx79.out)).mono ?_; rintro e w12 ⟨rfl, hx12⟩; have Hx12 := Lib.hid (Hx79.out.trans hx12); clear hx12) | (go_at_call 26; refine (Hst.out a2 c2 _ (Hxw7.out.trans Hx12.out) (Hfair7.out.ext Hx12.out)).mono ?_; rintro e w13 ⟨rfl, hx13⟩; have Hx13 := Lib.hid (Hx12.out.trans hx13); clear hx13))
    go_ret
    exact ⟨rfl, Hxw7.out.trans Hx13.out⟩
end Go.Proofs.Ytkbhmajcddmhnaa
