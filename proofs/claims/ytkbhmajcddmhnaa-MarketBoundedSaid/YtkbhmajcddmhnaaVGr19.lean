/- Contract: alive: the chapter's examples hold. -/
import Derived.Test.YtkbhmajcddmhnaaVEx
import Derived.Test.YtkbhmajcddmhnaaVLawGains
import Derived.Test.YtkbhmajcddmhnaaVPrB
namespace Go.Proofs.Ytkbhmajcddmhnaa
open Go.RowKit
set_option linter.unusedVariables false
set_option linter.unusedSimpArgs false

def exHeld : List Span := [⟨0, 0⟩, ⟨7, 20⟩, ⟨70, 80⟩, ⟨0, 0⟩, ⟨0, 0⟩]
theorem ex_run : runOf exOffers exTrip (saltL 100) (exBarters 10) = ⟨exHeld, [⟨0, 1, 0, 4⟩], 0, 0⟩ := by kernel_rfl
theorem ex_best : bestOf exOffers exTrip 0 105 2 = ⟨[0, 1], 91, 0⟩ := by kernel_rfl
theorem ex_round : wentOf exOffers 2 45 = ⟨[1, 3], 0⟩ := by kernel_rfl
theorem ex_bound : boundOf (exOffers.take 3) exTrip (saltL 100) 2 exPrices = (160, 0) := by rw [boundOf_eq]; kernel_rfl
theorem OffersAt.take {w : World} {a : Option Addr} {n : Nat} {l : List Offer} (h : OffersAt w a n l) {k : Nat} (hk : k ≤ n) : OffersAt w a k (l.take k) := by
  obtain ⟨h1, h2⟩ := h
  refine ⟨by rw [List.length_take]; omega, fun h0 => ?_⟩
  obtain ⟨b, off, ha, hc⟩ := h2 (by omega)
  refine ⟨b, off, ha, fun i hi => ?_⟩
  have := hc i (by omega)
  simpa [List.getD, List.getElem?_take_of_lt hi] using this
theorem losses_block {w : World} {b : Nat} (l : List Loss) (hb : w.heap[b]? = some (.cells (lossRows l).flatten.toArray 73 (0, 0))) : LossesAt w (some ⟨b, 0, none⟩) l.length l := by
  have := slAt_block hb (fun r hr => (lossRows_row _ r hr).1)
  rw [show (lossRows l).length = l.length by simp [lossRows]] at this
  exact ⟨rfl, this.congr fun i hi => by simp [lossRows, List.getD, List.getElem?_map, List.getElem?_eq_getElem hi]⟩
set_option maxRecDepth 100000 in
set_option maxHeartbeats 4000000 in
theorem alive_any (w : World) : Calls Try.prog 32 #[] w fun e w' => e = .returned (.bool true) ∧ Ext w w' := by
  have ho := fun W => offers_any W
  have ht := fun W => trip_any W
  have hs := fun W => salt_any 100 W
  have hb := fun W => barters_any 10 W
  have hp := fun W => prices_any W
  have hrun := fun ob tb sb bb W (h1 : OffersAt W (some ⟨ob, 0, none⟩) exOffers.length exOffers) (h2 : FairsAt W (some ⟨tb, 0, none⟩) exTrip.length exTrip) (h3 : IntsAt .i64 W (some ⟨sb, 0, none⟩) (saltL 100).length (saltL 100)) (h4 : BartersAt W (some ⟨bb, 0, none⟩) (exBarters 10).length (exBarters 10)) =>
    run_any (some ⟨ob, 0, none⟩) exOffers.length exOffers.length exOffers (some ⟨tb, 0, none⟩) exTrip.length exTrip.length exTrip (some ⟨sb, 0, none⟩) (saltL 100).length (saltL 100).length (saltL 100) (some ⟨bb, 0, none⟩) (exBarters 10).length (exBarters 10).length (exBarters 10) W h1 h2 h3 h4 (by decide) (by decide) (by decide) (by decide)
  rw [ex_run] at hrun
  have hbest := fun ob tb W (h1 : OffersAt W (some ⟨ob, 0, none⟩) exOffers.length exOffers) (h2 : FairsAt W (some ⟨tb, 0, none⟩) exTrip.length exTrip) => mBest_any (some ⟨ob, 0, none⟩) exOffers.length exOffers.length exOffers (some ⟨tb, 0, none⟩) exTrip.length exTrip.length exTrip 0 105 2 W h1 h2 (by decide) (by decide)
  rw [ex_best] at hbest
  have hbound := fun ob tb sb pb W (h1 : OffersAt W (some ⟨ob, 0, none⟩) exOffers.length exOffers) (h2 : FairsAt W (some ⟨tb, 0, none⟩) exTrip.length exTrip) (h3 : IntsAt .i64 W (some ⟨sb, 0, none⟩) (saltL 100).length (saltL 100)) (h4 : RowsAt W (some ⟨pb, 0, none⟩) exPrices.length exPrices) =>
    bound_any (some ⟨ob, 0, none⟩) 3 4 (exOffers.take 3) (some ⟨tb, 0, none⟩) exTrip.length exTrip.length exTrip (some ⟨sb, 0, none⟩) (saltL 100).length (saltL 100).length (saltL 100) (some ⟨pb, 0, none⟩) exPrices.length exPrices.length exPrices 2 W (h1.take (by decide)) h2 h3 h4 (by decide) (by decide) (by decide) (by decide)
  rw [ex_bound] at hbound
  have hround := fun ob W (h1 : OffersAt W (some ⟨ob, 0, none⟩) exOffers.length exOffers) => mRound_any (some ⟨ob, 0, none⟩) exOffers.length exOffers.length exOffers 2 45 W h1 (by decide)
  rw [wentD_eq, ex_round] at hround
  have Ho := Lib.hid ho
  have Ht := Lib.hid ht
  have Hs := Lib.hid hs
  have Hb := Lib.hid hb
  have Hp := Lib.hid hp
  have Hrun := Lib.hid hrun
  have Hbest := Lib.hid hbest
  have Hbound := Lib.hid hbound
  have Hround := Lib.hid hround
  clear ho ht hs hb hp hrun hbest hbound hround
  go_enter Try.func32, Try.ntmps32
  go_wp2_with (first | (go_at_call 41; refine (Ho.out _).mono ?_; rintro e w1 ⟨ob, rfl, hx1, hl1⟩; have Hl1 := Lib.hid hl1; have Hx1 := Lib.hid hx1; clear hx1 hl1) | (go_at_call 42; refine (Ht.out _).mono ?_; rintro e w2 ⟨tb, rfl, hx2, hf1⟩; have Hf1 := Lib.hid hf1; have Hx2 := Lib.hid (Hx1.out.trans hx2); have Hl2 := Lib.hid (Hl1.out.ext hx2); clear hx2 hf1) | (go_at_call 43; refine (Hs.out _).mono ?_; rintro e w3 ⟨sb, rfl, hx3, hs1⟩; have Hs1 := Lib.hid hs1; have Hx3 := Lib.hid (Hx2.out.trans hx3); have Hl3 := Lib.hid (Hl2.out.ext hx3); have Hf3 := Lib.hid (Hf1.out.ext hx3); clear hx3 hs1) | (go_at_call 44; refine (Hb.out _).mono ?_; rintro e w4 ⟨bb, rfl, hx4, hb1⟩; have Hb1 := Lib.hid hb1; have Hx4 := Lib.hid (Hx3.out.trans hx4); have Hl4 := Lib.hid (Hl3.out.ext hx4); have Hf4 := Lib.hid (Hf3.out.ext hx4); have Hs4 := Lib.hid (Hs1.out.ext hx4); clear hx4 hb1))
  refine (Hrun.out ob tb sb bb _ Hl4.out Hf4.out Hs4.out Hb1.out).mono ?_
  rintro e w5 ⟨ha, hn, hc, la, ln, lc, rfl, hx5, hn5, hm5, hsp5, hls5⟩
  have hxw5 := Hx4.out.trans hx5
  have Hsp5 := Lib.hid hsp5
  have Hls5 := Lib.hid hls5
  have Hxw5 := Lib.hid hxw5
  clear hsp5 hls5 hxw5
  clear Hx1 Hx2 Hx3 Hx4 Hl1 Hl2 Hl3 Hl4 Hf1 Hf3 Hf4 Hs1 Hs4 Hb1 hx5
  go_wp2_with (first | (go_at_call 41; refine (Ho.out _).mono ?_; rintro e w1 ⟨ob, rfl, hx1, hl1⟩; have Hl1 := Lib.hid hl1; have Hx1 := Lib.hid hx1; clear hx1 hl1) | (go_at_call 42; refine (Ht.out _).mono ?_; rintro e w2 ⟨tb, rfl, hx2, hf1⟩; have Hf1 := Lib.hid hf1; have Hx2 := Lib.hid (Hx1.out.trans hx2); have Hl2 := Lib.hid (Hl1.out.ext hx2); clear hx2 hf1))
  refine (Hbest.out _ _ _ Hl2.out Hf1.out).mono ?_
  rintro e w6 ⟨ca, cn, cc, rfl, hx6, hcn, hci⟩
  have hxw6 := Hxw5.out.trans (Hx2.out.trans hx6)
  have hx56 := Hx2.out.trans hx6
  have Hci := Lib.hid hci
  have Hxw6 := Lib.hid hxw6
  have Hx56 := Lib.hid hx56
  clear hci hxw6 hx56
  clear Hx1 Hx2 Hl1 Hl2 Hf1 hx6
  go_wp2_with fail
  refine wp_region_tree (.one 0 (.take [1] (.one 2 (.one 3 (.one 4 (.one 5 (.take [6, 7, 8, 9, 10] .done))))))) (Ext w6) _ (by kernel_rfl) (by kernel_rfl) rfl ((Ext.refl _).drew) ?_
  intro ι _ f hf hs
  have HS := Lib.hid hs
  clear hf hs
  simp only [treeOf, oneOp, twoOp, opsOf, consOp, List.getElem?_toArray, List.getElem?_cons_succ, List.getElem?_cons_zero]
  refine wpOT_one ?_
  go_wp2_with (go_at_call 41; refine (Ho.out _).mono ?_; rintro e w1 ⟨ob, rfl, hx1, hl1⟩; rw [show exOffers.length = 4 from rfl]; have Hl1 := Lib.hid hl1; have Hx1 := Lib.hid ((Ext.refl w6).drew.trans hx1); clear hx1 hl1)
  refine ⟨HS.out _ (Hx1.out), ?_⟩
  refine wpOT_take ?_
  repeat (go_big_quiet_step (fail))
  refine wpQuiet_nil ?_
  refine wpOT_one ?_
  go_wp2_with (go_at_call 42; refine (Ht.out _).mono ?_; rintro e w2 ⟨tb, rfl, hx2, hf1⟩; have Hf1 := Lib.hid hf1; have Hx2 := Lib.hid (Hx1.out.trans hx2); have Hl2 := Lib.hid (Hl1.out.ext hx2); clear hx2 hf1)
  refine ⟨HS.out _ (Hx2.out), ?_⟩
  refine wpOT_one ?_
  go_wp2_with (go_at_call 43; refine (Hs.out _).mono ?_; rintro e w3 ⟨sb, rfl, hx3, hs1⟩; have Hs1 := Lib.hid hs1; have Hx3 := Lib.hid (Hx2.out.trans hx3); have Hl3 := Lib.hid (Hl2.out.ext hx3); have Hf3 := Lib.hid (Hf1.out.ext hx3); clear hx3 hs1)
  refine ⟨HS.out _ (Hx3.out), ?_⟩
  refine wpOT_one ?_
  go_wp2_with (go_at_call 45; refine (Hp.out _).mono ?_; rintro e w4 ⟨pb, rfl, hx4, hp1⟩; have Hp1 := Lib.hid hp1; have Hx4 := Lib.hid (Hx3.out.trans hx4); have Hl4 := Lib.hid (Hl3.out.ext hx4); have Hf4 := Lib.hid (Hf3.out.ext hx4); have Hs4 := Lib.hid (Hs1.out.ext hx4); clear hx4 hp1)
  refine ⟨HS.out _ (Hx4.out), ?_⟩
  refine wpOT_one ?_
  go_wp2_with (go_at_call 16; refine (Hbound.out _ _ _ _ _ Hl4.out Hf4.out Hs4.out Hp1.out).mono ?_; rintro e w7 ⟨rfl, hx7⟩)
  refine ⟨HS.out _ (Hx4.out.trans hx7), ?_⟩
  refine wpOT_take ?_
  repeat (go_big_quiet_step (fail))
  refine wpQuiet_nil ?_
  refine wpOT_done ?_
  clear  HS
  have hxw7 := Hxw6.out.trans (Hx4.out.trans hx7)
  have hx67 := Hx4.out.trans hx7
  have Hxw7 := Lib.hid hxw7
  have Hx67 := Lib.hid hx67
  clear hxw7 hx67
  clear Hx1 Hx2 Hx3 Hx4 Hl1 Hl2 Hl3 Hl4 Hf1 Hf3 Hf4 Hs1 Hs4 Hp1 hx7
  go_wp2_with (go_at_call 41; refine (Ho.out _).mono ?_; rintro e w1 ⟨ob, rfl, hx1, hl1⟩; have Hl1 := Lib.hid hl1; have Hx1 := Lib.hid hx1; clear hx1 hl1)
  refine (Hround.out _ _ Hl1.out).mono ?_
  rintro e w8 ⟨da, dn, dc, rfl, hx8, hdn, hdi⟩
  have hx68 := Hx67.out.trans (Hx1.out.trans hx8)
  have Hdi := Lib.hid hdi
  have Hx68 := Lib.hid hx68
  clear hdi hx68
  clear Hx1 hx8 Hl1
  obtain rfl : hn = 5 := by rw [← Hsp5.out.1]; rfl
  obtain rfl : ln = 1 := by rw [← Hls5.out.1]; rfl
  obtain rfl : cn = 2 := by rw [← Hci.out.1]; rfl
  obtain rfl : dn = 2 := by rw [← Hdi.out.1]; rfl
  have hspan := fun a b W => span_any a b W
  have hsp8 := Hsp5.out.ext (Hx56.out.trans Hx68.out)
  have hls8 := Hls5.out.ext (Hx56.out.trans Hx68.out)
  have hci8 := Hci.out.ext Hx68.out
  have hxw8 := Hxw6.out.trans Hx68.out
  have Hy := Lib.hid (Ext.refl w8)
  have Hspan := Lib.hid hspan
  have Hsp8 := Lib.hid hsp8
  have Hls8 := Lib.hid hls8
  have Hci8 := Lib.hid hci8
  have Hxw8 := Lib.hid hxw8
  clear hspan hsp8 hls8 hci8 hxw8
  clear Hsp5 Hls5 Hci
  go_wp2_with (first
    | (go_at_call 65; refine (Hspan.out _ _ _).mono ?_; rintro e w9 ⟨rfl, hx9⟩; have hy2 := Hy.out.trans hx9; clear Hy hx9; have Hy := Lib.hid hy2; clear hy2)
    | (go_at_call 21; refine (same_spans ha _ 5 hc _ exHeld _ (Hsp8.out.ext (Hy.out.alloc _)) (spans_block exHeld (heap_alloc_new _ _)) (by decide)).mono ?_; rintro e w9 ⟨rfl, hx9⟩; have hy2 := (Hy.out.alloc _).trans hx9; clear Hy hx9; have Hy := Lib.hid hy2; clear hy2)
    | (go_at_call 22; refine (same_losses la _ 1 lc _ [⟨0, 1, 0, 4⟩] _ (Hls8.out.ext (Hy.out.alloc _)) (losses_block [⟨0, 1, 0, 4⟩] (heap_alloc_new _ _)) (by decide)).mono ?_; rintro e w9 ⟨rfl, hx9⟩; have hy2 := (Hy.out.alloc _).trans hx9; clear Hy hx9; have Hy := Lib.hid hy2; clear hy2))
  refine (same_ints ca _ 2 cc _ [0, 1] _ (Hci8.out.ext (Hy.out.alloc _)) (ints_block [0, 1] (heap_alloc_new _ _)) (by decide)).mono ?_
  rintro e w9 ⟨rfl, hx9⟩
  have hy2 := (Hy.out.alloc _).trans hx9
  clear Hy hx9
  have Hy := Lib.hid hy2
  clear hy2
  go_wp2_with fail
  refine (same_ints da _ 2 dc _ [1, 3] _ (Hdi.out.ext (Hy.out.alloc _)) (ints_block [1, 3] (heap_alloc_new _ _)) (by decide)).mono ?_
  rintro e w9 ⟨rfl, hx9⟩
  have hy2 := (Hy.out.alloc _).trans hx9
  clear Hy hx9
  have Hy := Lib.hid hy2
  clear hy2
  go_wp2_with fail
  go_ret
  exact ⟨rfl, Hxw8.out.trans Hy.out⟩
end Go.Proofs.Ytkbhmajcddmhnaa

/- Contract: ready. -/
namespace Go.Proofs.Ytkbhmajcddmhnaa
open Go.RowKit
set_option linter.unusedVariables false
set_option linter.unusedSimpArgs false

def readyB (l : List Offer) (fs : List Fair) : Bool := !greatB l fs && decide (checkOf l fs = 0)
theorem ready_any (a : Option Addr) (n cap : Nat) (l : List Offer) (fa : Option Addr) (fn fc : Nat) (fs : List Fair) (w : World) (hl : OffersAt w a n l) (hf : FairsAt w fa fn fs) (hn : n ≤ maxLen) (hfn : fn ≤ maxLen) :
    Calls Try.prog 33 #[.slice a n cap, .slice fa fn fc] w fun e w' => e = .returned (.bool (readyB l fs)) ∧ Ext w w' := by
  have hgr := great_any a n cap l fa fn fc fs w hl.1 hf hn hfn
  unfold maxLen at hn hfn
  cases hg : greatB l fs with
  | true =>
    rw [hg] at hgr
    rw [show readyB l fs = false by simp [readyB, hg]]
    have Hgr := Lib.hid hgr
    clear hgr hl hf hg
    go_enter Try.func33, Try.ntmps33
    go_wp2_with (go_at_call 15; refine Hgr.out.mono ?_; rintro e w1 ⟨rfl, hx1⟩)
    go_ret
    exact ⟨rfl, hx1⟩
  | false =>
    obtain ⟨g1, g2⟩ := great_lens hg
    rw [hl.1] at g1
    rw [hf.1] at g2
    rw [hg] at hgr
    have hck := fun W (hW : Ext w W) => refCheck_any a n cap l fa fn fc fs W (fun W' hW' => refOffers_any a n cap l W' (hl.ext (hW.trans hW')) (by omega)) (hf.ext hW) (by omega)
    have hr : readyB l fs = decide (checkOf l fs = 0) := by simp [readyB, hg]
    rw [hr]
    obtain ⟨r1, r2⟩ := checkOf_range l fs
    by_cases hc : checkOf l fs = 0
    · rw [hc] at hck
      rw [decide_eq_true hc]
      have Hgr := Lib.hid hgr
      have Hck := Lib.hid hck
      clear hgr hck
      clear hl hf hg hr hc
      go_enter Try.func33, Try.ntmps33
      go_wp2_with (first | (go_at_call 15; refine Hgr.out.mono ?_; rintro e w1 ⟨rfl, hx1⟩) | (go_at_call 24; refine (Hck.out _ hx1).mono ?_; rintro e w2 ⟨rfl, hx2⟩))
      go_ret
      exact ⟨rfl, hx1.trans hx2⟩
    · have hcB : (checkOf l fs == 0) = false := by rw [beq_eq_false_iff_ne]; exact hc
      rw [decide_eq_false hc]
      generalize checkOf l fs = C at *
      have Hgr := Lib.hid hgr
      have Hck := Lib.hid hck
      clear hgr hck
      clear hl hf hg hr hc
      go_enter Try.func33, Try.ntmps33
      go_wp2_with (first | (go_at_call 15; refine Hgr.out.mono ?_; rintro e w1 ⟨rfl, hx1⟩) | (go_at_call 24; refine (Hck.out _ hx1).mono ?_; rintro e w2 ⟨rfl, hx2⟩))
      go_ret
      exact ⟨rfl, hx1.trans hx2⟩
theorem wf_u8 {l : List Int} (h : ∀ x ∈ l, (Lit.int .u8 x).wf = true) : ∀ x ∈ l, 0 ≤ x ∧ x ≤ 255 := fun x hx => by
  have := h x hx
  simp [Lit.wf, IntKind.min, IntKind.max, IntKind.signed, IntKind.bits] at this
  omega
theorem wf_u16 {l : List Int} (h : ∀ x ∈ l, (Lit.int .u16 x).wf = true) : ∀ x ∈ l, 0 ≤ x ∧ x ≤ 65535 := fun x hx => by
  have := h x hx
  simp [Lit.wf, IntKind.min, IntKind.max, IntKind.signed, IntKind.bits] at this
  omega
theorem wf_u32 {l : List Int} (h : ∀ x ∈ l, (Lit.int .u32 x).wf = true) : ∀ x ∈ l, 0 ≤ x ∧ x ≤ 4294967295 := fun x hx => by
  have := h x hx
  simp [Lit.wf, IntKind.min, IntKind.max, IntKind.signed, IntKind.bits] at this
  omega
end Go.Proofs.Ytkbhmajcddmhnaa
