/- The law MarketExamples. -/
import Derived.Test.YtkbhmajcddmhnaaVReady
import Derived.Deep.CutRange
namespace Go.Proofs.Ytkbhmajcddmhnaa
open Go.RowKit
set_option linter.unusedVariables false
set_option linter.unusedSimpArgs false

def zeros61 : Obj := .cells (barterRows (List.replicate 61 ⟨0, 0, 0⟩)).flatten.toArray 46
theorem mk33 : ∀ w, (Instr.makeSlice 33 (.int .i64 61) (.int .i64 61)).run Try.prog w = .ok (.slice (some ⟨w.heap.size, 0, none⟩) 61 61) (w.alloc zeros61) := fun _ => by kernel_rfl
def zeroBarters : List Barter := List.replicate 61 ⟨0, 0, 0⟩
theorem zeros_block (w : World) : BartersAt (w.alloc zeros61) (some ⟨w.heap.size, 0, none⟩) 61 zeroBarters := by
  have := barters_block zeroBarters (heap_alloc_new w zeros61)
  rw [show zeroBarters.length = 61 by unfold zeroBarters; rw [List.length_replicate]] at this
  exact this
def zero1 : Obj := .cells (offerRows [⟨0, 0, 0, 0, 0, 0, 0, 0⟩]).flatten.toArray 81
theorem mk22 : ∀ w, (Instr.makeSlice 22 (.int .i64 1) (.int .i64 1)).run Try.prog w = .ok (.slice (some ⟨w.heap.size, 0, none⟩) 1 1) (w.alloc zero1) := fun _ => by kernel_rfl
theorem exRun {T : Told} (ob tb : Nat) (sa : Option Addr) (sn sc : Nat) (xs : List Int) (ba : Option Addr) (bn bc : Nat) {bs : List Barter} {W : World} (hq : runOf exOffers exTrip xs bs = T)
    (h1 : OffersAt W (some ⟨ob, 0, none⟩) exOffers.length exOffers) (h2 : FairsAt W (some ⟨tb, 0, none⟩) exTrip.length exTrip) (h3 : IntsAt .i64 W sa sn xs) (h4 : BartersAt W ba bn bs) (hsn : sn ≤ 1000000) (hbn : bn ≤ 1000000) :
    Calls Try.prog 19 #[.slice (some ⟨ob, 0, none⟩) exOffers.length exOffers.length, .slice (some ⟨tb, 0, none⟩) exTrip.length exTrip.length, .slice sa sn sc, .slice ba bn bc] W (RunPost T W) := by
  rw [← hq]
  exact run_any _ _ _ _ _ _ _ _ _ _ _ _ _ _ _ _ W h1 h2 h3 h4 (by decide) (by decide) hsn hbn
theorem exBest {T : Chosen} (ob tb : Nat) (g u want : Int) {W : World} (hq : bestOf exOffers exTrip g u want = T)
    (h1 : OffersAt W (some ⟨ob, 0, none⟩) exOffers.length exOffers) (h2 : FairsAt W (some ⟨tb, 0, none⟩) exTrip.length exTrip) :
    Calls Try.prog 28 #[.slice (some ⟨ob, 0, none⟩) exOffers.length exOffers.length, .slice (some ⟨tb, 0, none⟩) exTrip.length exTrip.length, .int .i64 g, .int .i64 u, .int .i64 want] W (BestPost T W) := by
  rw [← hq]
  exact mBest_any _ _ _ _ _ _ _ _ _ _ _ W h1 h2 (by decide) (by decide)
theorem exRound {T : Went} {a : Option Addr} {n c : Nat} {l : List Offer} (p d : Int) {W : World} (hq : wentOf l p d = T) (h1 : OffersAt W a n l) (hn : n ≤ 1000000) :
    Calls Try.prog 30 #[.slice a n c, .int .i64 p, .int .i64 d] W (WentPost T W) := by
  rw [← hq, ← wentD_eq]
  exact mRound_any _ _ _ _ _ _ W h1 hn
theorem exBound {T : Int × Int} (ob tb sb pb : Nat) (want : Int) {W : World} (hq : boundC exOffers exTrip (saltL 1) want exPrices = T)
    (h1 : OffersAt W (some ⟨ob, 0, none⟩) exOffers.length exOffers) (h2 : FairsAt W (some ⟨tb, 0, none⟩) exTrip.length exTrip) (h3 : IntsAt .i64 W (some ⟨sb, 0, none⟩) (saltL 1).length (saltL 1)) (h4 : RowsAt W (some ⟨pb, 0, none⟩) exPrices.length exPrices) :
    Calls Try.prog 16 #[.slice (some ⟨ob, 0, none⟩) exOffers.length exOffers.length, .slice (some ⟨tb, 0, none⟩) exTrip.length exTrip.length, .slice (some ⟨sb, 0, none⟩) (saltL 1).length (saltL 1).length, .int .i64 want, .slice (some ⟨pb, 0, none⟩) exPrices.length exPrices.length] W fun e w' => e = .returned (.tuple #[.int .i64 T.1, .int .i64 T.2]) ∧ Ext W w' := by
  rw [← hq, ← boundOf_eq]
  exact bound_any _ _ _ _ _ _ _ _ _ _ _ _ _ _ _ _ _ W h1 h2 h3 h4 (by decide) (by decide) (by decide) (by decide)
theorem nilInts (W : World) : IntsAt .i64 W none 0 [] := ⟨rfl, fun h => by omega⟩
theorem nilBarters (W : World) : BartersAt W none 0 [] := ⟨rfl, fun h => by omega⟩
theorem nilOffers (W : World) : OffersAt W none 0 [] := ⟨rfl, fun h => by omega⟩
theorem nilFairs (W : World) : FairsAt W none 0 [] := ⟨rfl, fun h => by omega⟩
set_option maxRecDepth 100000 in
set_option maxHeartbeats 8000000 in
theorem lawEx_any (w : World) : Calls Try.prog 14 #[] w fun e w' => e = .returned (.bool true) ∧ Ext w w' := by
  have HAl := Lib.hid (fun W => alive_any W)
  have HO := Lib.hid (fun W => offers_any W)
  have HT := Lib.hid (fun W => trip_any W)
  have HRaw := Lib.hid (fun W => trip_raw W)
  have HSalt := Lib.hid (fun n W => salt_any n W)
  have HBart := Lib.hid (fun n W => barters_any n W)
  have HPri := Lib.hid (fun W => prices_any W)
  go_enter Try.func14, Try.ntmps14
  go_wp2_with fail
  refine (HAl.out _).mono ?_
  rintro e w' ⟨rfl, hx⟩
  have Hx := Lib.hid hx
  clear hx
  go_wp2_with fail
  refine (HO.out _).mono ?_
  rintro e w' ⟨ob, rfl, hE, hl⟩
  have hx' := Hx.out.trans hE
  clear Hx
  have Hx := Lib.hid hx'
  clear hx'
  try (have hh := Hl.out.ext hE; clear Hl; have Hl := Lib.hid hh; clear hh)
  try (have hh := Hf.out.ext hE; clear Hf; have Hf := Lib.hid hh; clear hh)
  try (have hh := Hs.out.ext hE; clear Hs; have Hs := Lib.hid hh; clear hh)
  try (have hh := Hb.out.ext hE; clear Hb; have Hb := Lib.hid hh; clear hh)
  try (have hh := Hp.out.ext hE; clear Hp; have Hp := Lib.hid hh; clear hh)
  try (have hh := Hc.out.ext hE; clear Hc; have Hc := Lib.hid hh; clear hh)
  try (have hh := Hlate.out.ext hE; clear Hlate; have Hlate := Lib.hid hh; clear hh)
  clear hE
  have Hl := Lib.hid hl
  clear hl
  go_wp2_with fail
  refine (HT.out _).mono ?_
  rintro e w' ⟨tb, rfl, hE, hf⟩
  have hx' := Hx.out.trans hE
  clear Hx
  have Hx := Lib.hid hx'
  clear hx'
  try (have hh := Hl.out.ext hE; clear Hl; have Hl := Lib.hid hh; clear hh)
  try (have hh := Hf.out.ext hE; clear Hf; have Hf := Lib.hid hh; clear hh)
  try (have hh := Hs.out.ext hE; clear Hs; have Hs := Lib.hid hh; clear hh)
  try (have hh := Hb.out.ext hE; clear Hb; have Hb := Lib.hid hh; clear hh)
  try (have hh := Hp.out.ext hE; clear Hp; have Hp := Lib.hid hh; clear hh)
  try (have hh := Hc.out.ext hE; clear Hc; have Hc := Lib.hid hh; clear hh)
  try (have hh := Hlate.out.ext hE; clear Hlate; have Hlate := Lib.hid hh; clear hh)
  clear hE
  have Hf := Lib.hid hf
  clear hf
  go_wp2_with fail
  refine (exBest _ _ 0 105 1 (show _ = (⟨[0, -1], 27, 0⟩ : Chosen) by kernel_rfl) Hl.out Hf.out).mono ?_
  rintro e w' ⟨ca, cn, cc, rfl, hE, _, hci⟩
  have hx' := Hx.out.trans hE
  clear Hx
  have Hx := Lib.hid hx'
  clear hx'
  try (have hh := Hl.out.ext hE; clear Hl; have Hl := Lib.hid hh; clear hh)
  try (have hh := Hf.out.ext hE; clear Hf; have Hf := Lib.hid hh; clear hh)
  try (have hh := Hs.out.ext hE; clear Hs; have Hs := Lib.hid hh; clear hh)
  try (have hh := Hb.out.ext hE; clear Hb; have Hb := Lib.hid hh; clear hh)
  try (have hh := Hp.out.ext hE; clear Hp; have Hp := Lib.hid hh; clear hh)
  try (have hh := Hc.out.ext hE; clear Hc; have Hc := Lib.hid hh; clear hh)
  try (have hh := Hlate.out.ext hE; clear Hlate; have Hlate := Lib.hid hh; clear hh)
  clear hE
  have Hc := Lib.hid hci
  clear hci
  go_wp2_with fail
  clear Hl Hf
  refine (HO.out _).mono ?_
  rintro e w' ⟨ob, rfl, hE, hl⟩
  have hx' := Hx.out.trans hE
  clear Hx
  have Hx := Lib.hid hx'
  clear hx'
  try (have hh := Hl.out.ext hE; clear Hl; have Hl := Lib.hid hh; clear hh)
  try (have hh := Hf.out.ext hE; clear Hf; have Hf := Lib.hid hh; clear hh)
  try (have hh := Hs.out.ext hE; clear Hs; have Hs := Lib.hid hh; clear hh)
  try (have hh := Hb.out.ext hE; clear Hb; have Hb := Lib.hid hh; clear hh)
  try (have hh := Hp.out.ext hE; clear Hp; have Hp := Lib.hid hh; clear hh)
  try (have hh := Hc.out.ext hE; clear Hc; have Hc := Lib.hid hh; clear hh)
  try (have hh := Hlate.out.ext hE; clear Hlate; have Hlate := Lib.hid hh; clear hh)
  clear hE
  have Hl := Lib.hid hl
  clear hl
  go_wp2_with fail
  refine (exRound 1 45 (show _ = (⟨[], 6⟩ : Went) by kernel_rfl) Hl.out (by decide)).mono ?_
  rintro e w' ⟨_, _, _, rfl, hE, _, _⟩
  have hx' := Hx.out.trans hE
  clear Hx
  have Hx := Lib.hid hx'
  clear hx'
  try (have hh := Hl.out.ext hE; clear Hl; have Hl := Lib.hid hh; clear hh)
  try (have hh := Hf.out.ext hE; clear Hf; have Hf := Lib.hid hh; clear hh)
  try (have hh := Hs.out.ext hE; clear Hs; have Hs := Lib.hid hh; clear hh)
  try (have hh := Hb.out.ext hE; clear Hb; have Hb := Lib.hid hh; clear hh)
  try (have hh := Hp.out.ext hE; clear Hp; have Hp := Lib.hid hh; clear hh)
  try (have hh := Hc.out.ext hE; clear Hc; have Hc := Lib.hid hh; clear hh)
  try (have hh := Hlate.out.ext hE; clear Hlate; have Hlate := Lib.hid hh; clear hh)
  clear hE
  clear Hl
  go_wp2_with fail
  refine (HO.out _).mono ?_
  rintro e w' ⟨ob, rfl, hE, hl⟩
  have hx' := Hx.out.trans hE
  clear Hx
  have Hx := Lib.hid hx'
  clear hx'
  try (have hh := Hl.out.ext hE; clear Hl; have Hl := Lib.hid hh; clear hh)
  try (have hh := Hf.out.ext hE; clear Hf; have Hf := Lib.hid hh; clear hh)
  try (have hh := Hs.out.ext hE; clear Hs; have Hs := Lib.hid hh; clear hh)
  try (have hh := Hb.out.ext hE; clear Hb; have Hb := Lib.hid hh; clear hh)
  try (have hh := Hp.out.ext hE; clear Hp; have Hp := Lib.hid hh; clear hh)
  try (have hh := Hc.out.ext hE; clear Hc; have Hc := Lib.hid hh; clear hh)
  try (have hh := Hlate.out.ext hE; clear Hlate; have Hlate := Lib.hid hh; clear hh)
  clear hE
  have Hl := Lib.hid hl
  clear hl
  go_wp2_with fail
  refine (HT.out _).mono ?_
  rintro e w' ⟨tb, rfl, hE, hf⟩
  have hx' := Hx.out.trans hE
  clear Hx
  have Hx := Lib.hid hx'
  clear hx'
  try (have hh := Hl.out.ext hE; clear Hl; have Hl := Lib.hid hh; clear hh)
  try (have hh := Hf.out.ext hE; clear Hf; have Hf := Lib.hid hh; clear hh)
  try (have hh := Hs.out.ext hE; clear Hs; have Hs := Lib.hid hh; clear hh)
  try (have hh := Hb.out.ext hE; clear Hb; have Hb := Lib.hid hh; clear hh)
  try (have hh := Hp.out.ext hE; clear Hp; have Hp := Lib.hid hh; clear hh)
  try (have hh := Hc.out.ext hE; clear Hc; have Hc := Lib.hid hh; clear hh)
  try (have hh := Hlate.out.ext hE; clear Hlate; have Hlate := Lib.hid hh; clear hh)
  clear hE
  have Hf := Lib.hid hf
  clear hf
  go_wp2_with fail
  refine (HSalt.out _ _).mono ?_
  rintro e w' ⟨sb, rfl, hE, hs⟩
  have hx' := Hx.out.trans hE
  clear Hx
  have Hx := Lib.hid hx'
  clear hx'
  try (have hh := Hl.out.ext hE; clear Hl; have Hl := Lib.hid hh; clear hh)
  try (have hh := Hf.out.ext hE; clear Hf; have Hf := Lib.hid hh; clear hh)
  try (have hh := Hs.out.ext hE; clear Hs; have Hs := Lib.hid hh; clear hh)
  try (have hh := Hb.out.ext hE; clear Hb; have Hb := Lib.hid hh; clear hh)
  try (have hh := Hp.out.ext hE; clear Hp; have Hp := Lib.hid hh; clear hh)
  try (have hh := Hc.out.ext hE; clear Hc; have Hc := Lib.hid hh; clear hh)
  try (have hh := Hlate.out.ext hE; clear Hlate; have Hlate := Lib.hid hh; clear hh)
  clear hE
  have Hs := Lib.hid hs
  clear hs
  go_wp2_with fail
  refine (HBart.out _ _).mono ?_
  rintro e w' ⟨bb, rfl, hE, hb⟩
  have hx' := Hx.out.trans hE
  clear Hx
  have Hx := Lib.hid hx'
  clear hx'
  try (have hh := Hl.out.ext hE; clear Hl; have Hl := Lib.hid hh; clear hh)
  try (have hh := Hf.out.ext hE; clear Hf; have Hf := Lib.hid hh; clear hh)
  try (have hh := Hs.out.ext hE; clear Hs; have Hs := Lib.hid hh; clear hh)
  try (have hh := Hb.out.ext hE; clear Hb; have Hb := Lib.hid hh; clear hh)
  try (have hh := Hp.out.ext hE; clear Hp; have Hp := Lib.hid hh; clear hh)
  try (have hh := Hc.out.ext hE; clear Hc; have Hc := Lib.hid hh; clear hh)
  try (have hh := Hlate.out.ext hE; clear Hlate; have Hlate := Lib.hid hh; clear hh)
  clear hE
  have Hb := Lib.hid hb
  clear hb
  go_wp2_with fail
  refine (exRun _ _ _ _ _ _ _ _ _ (show _ = (⟨[], [], 1, 63⟩ : Told) by kernel_rfl) Hl.out Hf.out Hs.out Hb.out (by decide) (by decide)).mono ?_
  rintro e w' ⟨_, _, _, _, _, _, rfl, hE, _, _, _, _⟩
  have hx' := Hx.out.trans hE
  clear Hx
  have Hx := Lib.hid hx'
  clear hx'
  try (have hh := Hl.out.ext hE; clear Hl; have Hl := Lib.hid hh; clear hh)
  try (have hh := Hf.out.ext hE; clear Hf; have Hf := Lib.hid hh; clear hh)
  try (have hh := Hs.out.ext hE; clear Hs; have Hs := Lib.hid hh; clear hh)
  try (have hh := Hb.out.ext hE; clear Hb; have Hb := Lib.hid hh; clear hh)
  try (have hh := Hp.out.ext hE; clear Hp; have Hp := Lib.hid hh; clear hh)
  try (have hh := Hc.out.ext hE; clear Hc; have Hc := Lib.hid hh; clear hh)
  try (have hh := Hlate.out.ext hE; clear Hlate; have Hlate := Lib.hid hh; clear hh)
  clear hE
  clear Hl Hf Hs Hb
  obtain rfl : cn = 2 := by rw [← Hc.out.1]; rfl
  go_wp2_with fail
  refine (same_ints ca _ 2 cc _ [0, -1] _ (Hc.out.ext ((Ext.refl _).alloc _)) (ints_block [0, -1] (heap_alloc_new _ _)) (by decide)).mono ?_
  rintro e w' ⟨rfl, hE1⟩
  have hE := ((Ext.refl _).alloc _).trans hE1
  clear hE1
  have hx' := Hx.out.trans hE
  clear Hx
  have Hx := Lib.hid hx'
  clear hx'
  try (have hh := Hl.out.ext hE; clear Hl; have Hl := Lib.hid hh; clear hh)
  try (have hh := Hf.out.ext hE; clear Hf; have Hf := Lib.hid hh; clear hh)
  try (have hh := Hs.out.ext hE; clear Hs; have Hs := Lib.hid hh; clear hh)
  try (have hh := Hb.out.ext hE; clear Hb; have Hb := Lib.hid hh; clear hh)
  try (have hh := Hp.out.ext hE; clear Hp; have Hp := Lib.hid hh; clear hh)
  try (have hh := Hc.out.ext hE; clear Hc; have Hc := Lib.hid hh; clear hh)
  try (have hh := Hlate.out.ext hE; clear Hlate; have Hlate := Lib.hid hh; clear hh)
  clear hE
  clear Hc
  go_wp2_with fail
  refine (HRaw.out _).mono ?_
  rintro e w' ⟨lb, rfl, hE, hlb0, hlate⟩
  have hlb := Nat.le_trans Hx.out.size hlb0
  have hx' := Hx.out.trans hE
  clear Hx
  have Hx := Lib.hid hx'
  clear hx'
  try (have hh := Hl.out.ext hE; clear Hl; have Hl := Lib.hid hh; clear hh)
  try (have hh := Hf.out.ext hE; clear Hf; have Hf := Lib.hid hh; clear hh)
  try (have hh := Hs.out.ext hE; clear Hs; have Hs := Lib.hid hh; clear hh)
  try (have hh := Hb.out.ext hE; clear Hb; have Hb := Lib.hid hh; clear hh)
  try (have hh := Hp.out.ext hE; clear Hp; have Hp := Lib.hid hh; clear hh)
  try (have hh := Hc.out.ext hE; clear Hc; have Hc := Lib.hid hh; clear hh)
  try (have hh := Hlate.out.ext hE; clear Hlate; have Hlate := Lib.hid hh; clear hh)
  clear hE
  have Hlate := Lib.hid hlate
  obtain ⟨k1, k2, c1, c2, hb, _⟩ := hlate
  obtain ⟨bc, bf⟩ := (Ext.refl _).box hb
  have lt := heap_lt hb
  clear hb hlb0
  go_wp2_with fail
  clear bc bf lt
  have hx2 := Hx.out.setCell (p := ⟨lb, 4, none⟩) hlb (.int .i64 39)
  have hl2 := Hlate.out.late 39
  clear Hx Hlate
  have Hx := Lib.hid hx2
  have Hlate := Lib.hid hl2
  clear hx2 hl2
  refine (HO.out _).mono ?_
  rintro e w' ⟨ob, rfl, hE, hl⟩
  have hx' := Hx.out.trans hE
  clear Hx
  have Hx := Lib.hid hx'
  clear hx'
  try (have hh := Hl.out.ext hE; clear Hl; have Hl := Lib.hid hh; clear hh)
  try (have hh := Hf.out.ext hE; clear Hf; have Hf := Lib.hid hh; clear hh)
  try (have hh := Hs.out.ext hE; clear Hs; have Hs := Lib.hid hh; clear hh)
  try (have hh := Hb.out.ext hE; clear Hb; have Hb := Lib.hid hh; clear hh)
  try (have hh := Hp.out.ext hE; clear Hp; have Hp := Lib.hid hh; clear hh)
  try (have hh := Hc.out.ext hE; clear Hc; have Hc := Lib.hid hh; clear hh)
  try (have hh := Hlate.out.ext hE; clear Hlate; have Hlate := Lib.hid hh; clear hh)
  clear hE
  have Hl := Lib.hid hl
  clear hl
  go_wp2_with fail
  refine (HT.out _).mono ?_
  rintro e w' ⟨tb, rfl, hE, hf⟩
  have hx' := Hx.out.trans hE
  clear Hx
  have Hx := Lib.hid hx'
  clear hx'
  try (have hh := Hl.out.ext hE; clear Hl; have Hl := Lib.hid hh; clear hh)
  try (have hh := Hf.out.ext hE; clear Hf; have Hf := Lib.hid hh; clear hh)
  try (have hh := Hs.out.ext hE; clear Hs; have Hs := Lib.hid hh; clear hh)
  try (have hh := Hb.out.ext hE; clear Hb; have Hb := Lib.hid hh; clear hh)
  try (have hh := Hp.out.ext hE; clear Hp; have Hp := Lib.hid hh; clear hh)
  try (have hh := Hc.out.ext hE; clear Hc; have Hc := Lib.hid hh; clear hh)
  try (have hh := Hlate.out.ext hE; clear Hlate; have Hlate := Lib.hid hh; clear hh)
  clear hE
  have Hf := Lib.hid hf
  clear hf
  go_wp2_with fail
  refine (exRun _ _ _ _ _ _ _ _ _ (show _ = (⟨[], [], 0, 2⟩ : Told) by kernel_rfl) Hl.out Hf.out (nilInts _) (nilBarters _) (by decide) (by decide)).mono ?_
  rintro e w' ⟨_, _, _, _, _, _, rfl, hE, _, _, _, _⟩
  have hx' := Hx.out.trans hE
  clear Hx
  have Hx := Lib.hid hx'
  clear hx'
  try (have hh := Hl.out.ext hE; clear Hl; have Hl := Lib.hid hh; clear hh)
  try (have hh := Hf.out.ext hE; clear Hf; have Hf := Lib.hid hh; clear hh)
  try (have hh := Hs.out.ext hE; clear Hs; have Hs := Lib.hid hh; clear hh)
  try (have hh := Hb.out.ext hE; clear Hb; have Hb := Lib.hid hh; clear hh)
  try (have hh := Hp.out.ext hE; clear Hp; have Hp := Lib.hid hh; clear hh)
  try (have hh := Hc.out.ext hE; clear Hc; have Hc := Lib.hid hh; clear hh)
  try (have hh := Hlate.out.ext hE; clear Hlate; have Hlate := Lib.hid hh; clear hh)
  clear hE
  clear Hl Hf
  go_upto_region 11 with (fail)
  go_cut [5] from 88 (fun s5 wx => s5 = .int .i64 4 ∧ Ext w' wx)
  case first =>
    clear Hx Hlate
    have hmk := mk33
    obtain ⟨wB, rfl⟩ : ∃ wB : World, wB = w' := ⟨_, rfl⟩
    refine wp_region_tree (.two 0 (.two 1 (.two 2 (.one 3 (.one 4 (.take [5, 6, 7, 8, 9, 10] .done))) 3 (.one 2 (.one 4 (.take [5, 6, 7, 8, 9, 10] .done)))) 3 (.one 1 (.one 2 (.one 4 (.take [5, 6, 7, 8, 9, 10] .done))))) 3 (.one 0 (.one 1 (.one 2 (.one 4 (.take [5, 6, 7, 8, 9, 10] .done)))))) (Ext wB) _ (by kernel_rfl) (by kernel_rfl) rfl ((Ext.refl _).drew) ?_
    intro ι _ f hf hs
    have HS := Lib.hid hs
    clear hf hs
    simp only [treeOf, oneOp, twoOp, opsOf, consOp, List.getElem?_toArray, List.getElem?_cons_succ, List.getElem?_cons_zero]
    have Hx := Lib.hid ((Ext.refl wB).drew)
    generalize wB.drew = w' at *
    refine wpOT_two ?_ ?_
    · go_wp2_with fail
      refine (HO.out _).mono ?_
      rintro e w' ⟨ob, rfl, hE, hl⟩
      have hx' := Hx.out.trans hE
      clear Hx
      have Hx := Lib.hid hx'
      clear hx'
      try (have hh := Hl.out.ext hE; clear Hl; have Hl := Lib.hid hh; clear hh)
      try (have hh := Hf.out.ext hE; clear Hf; have Hf := Lib.hid hh; clear hh)
      try (have hh := Hs.out.ext hE; clear Hs; have Hs := Lib.hid hh; clear hh)
      try (have hh := Hb.out.ext hE; clear Hb; have Hb := Lib.hid hh; clear hh)
      try (have hh := Hp.out.ext hE; clear Hp; have Hp := Lib.hid hh; clear hh)
      try (have hh := Hc.out.ext hE; clear Hc; have Hc := Lib.hid hh; clear hh)
      try (have hh := Hlate.out.ext hE; clear Hlate; have Hlate := Lib.hid hh; clear hh)
      clear hE
      have Hl := Lib.hid hl
      clear hl
      go_wp2_with fail
      refine ⟨HS.out _ Hx.out, ?_⟩
      refine wpOT_two ?_ ?_
      · go_wp2_with fail
        refine (HT.out _).mono ?_
        rintro e w' ⟨tb, rfl, hE, hf⟩
        have hx' := Hx.out.trans hE
        clear Hx
        have Hx := Lib.hid hx'
        clear hx'
        try (have hh := Hl.out.ext hE; clear Hl; have Hl := Lib.hid hh; clear hh)
        try (have hh := Hf.out.ext hE; clear Hf; have Hf := Lib.hid hh; clear hh)
        try (have hh := Hs.out.ext hE; clear Hs; have Hs := Lib.hid hh; clear hh)
        try (have hh := Hb.out.ext hE; clear Hb; have Hb := Lib.hid hh; clear hh)
        try (have hh := Hp.out.ext hE; clear Hp; have Hp := Lib.hid hh; clear hh)
        try (have hh := Hc.out.ext hE; clear Hc; have Hc := Lib.hid hh; clear hh)
        try (have hh := Hlate.out.ext hE; clear Hlate; have Hlate := Lib.hid hh; clear hh)
        clear hE
        have Hf := Lib.hid hf
        clear hf
        go_wp2_with fail
        refine ⟨HS.out _ Hx.out, ?_⟩
        refine wpOT_two ?_ ?_
        · go_wp2_with fail
          refine (HSalt.out _ _).mono ?_
          rintro e w' ⟨sb, rfl, hE, hs⟩
          have hx' := Hx.out.trans hE
          clear Hx
          have Hx := Lib.hid hx'
          clear hx'
          try (have hh := Hl.out.ext hE; clear Hl; have Hl := Lib.hid hh; clear hh)
          try (have hh := Hf.out.ext hE; clear Hf; have Hf := Lib.hid hh; clear hh)
          try (have hh := Hs.out.ext hE; clear Hs; have Hs := Lib.hid hh; clear hh)
          try (have hh := Hb.out.ext hE; clear Hb; have Hb := Lib.hid hh; clear hh)
          try (have hh := Hp.out.ext hE; clear Hp; have Hp := Lib.hid hh; clear hh)
          try (have hh := Hc.out.ext hE; clear Hc; have Hc := Lib.hid hh; clear hh)
          try (have hh := Hlate.out.ext hE; clear Hlate; have Hlate := Lib.hid hh; clear hh)
          clear hE
          have Hs := Lib.hid hs
          clear hs
          go_wp2_with fail
          refine ⟨HS.out _ Hx.out, ?_⟩
          refine wpOT_one ?_
          go_wp2_with fail
          have hE : Ext w' (w'.alloc zeros61) := (Ext.refl _).alloc _
          have hb61 := zeros_block w'
          have hx' := Hx.out.trans hE
          clear Hx
          have Hx := Lib.hid hx'
          clear hx'
          try (have hh := Hl.out.ext hE; clear Hl; have Hl := Lib.hid hh; clear hh)
          try (have hh := Hf.out.ext hE; clear Hf; have Hf := Lib.hid hh; clear hh)
          try (have hh := Hs.out.ext hE; clear Hs; have Hs := Lib.hid hh; clear hh)
          try (have hh := Hb.out.ext hE; clear Hb; have Hb := Lib.hid hh; clear hh)
          try (have hh := Hp.out.ext hE; clear Hp; have Hp := Lib.hid hh; clear hh)
          try (have hh := Hc.out.ext hE; clear Hc; have Hc := Lib.hid hh; clear hh)
          try (have hh := Hlate.out.ext hE; clear Hlate; have Hlate := Lib.hid hh; clear hh)
          clear hE
          have Hb := Lib.hid hb61
          clear hb61
          refine ⟨HS.out _ Hx.out, ?_⟩
          obtain ⟨zb, hzb⟩ : ∃ zb, w'.heap.size = zb := ⟨_, rfl⟩
          rw [hzb] at Hb
          rw [hzb]
          clear hzb
          generalize w'.alloc zeros61 = w' at *
          refine wpOT_one ?_
          go_wp2_with fail
          refine (exRun _ _ _ _ _ _ _ _ _ (show _ = (⟨[], [], 0, 4⟩ : Told) by kernel_rfl) Hl.out Hf.out Hs.out Hb.out (by decide) (by decide)).mono ?_
          rintro e w' ⟨_, _, _, _, _, _, rfl, hE, _, _, _, _⟩
          have hx' := Hx.out.trans hE
          clear Hx
          have Hx := Lib.hid hx'
          clear hx'
          try (have hh := Hl.out.ext hE; clear Hl; have Hl := Lib.hid hh; clear hh)
          try (have hh := Hf.out.ext hE; clear Hf; have Hf := Lib.hid hh; clear hh)
          try (have hh := Hs.out.ext hE; clear Hs; have Hs := Lib.hid hh; clear hh)
          try (have hh := Hb.out.ext hE; clear Hb; have Hb := Lib.hid hh; clear hh)
          try (have hh := Hp.out.ext hE; clear Hp; have Hp := Lib.hid hh; clear hh)
          try (have hh := Hc.out.ext hE; clear Hc; have Hc := Lib.hid hh; clear hh)
          try (have hh := Hlate.out.ext hE; clear Hlate; have Hlate := Lib.hid hh; clear hh)
          clear hE
          go_wp2_with fail
          refine ⟨HS.out _ Hx.out, ?_⟩
          refine wpOT_take ?_
          repeat (go_big_quiet_step (fail))
          refine wpQuiet_nil ?_
          refine wpOT_done ?_
          clear  HS
          go_wp2_with fail
          go_meet
          case rel => exact ⟨rfl, Hx.out⟩
        · go_wp2_with fail
          have hE : Ext w' (w'.alloc zeros61) := (Ext.refl _).alloc _
          have hb61 := zeros_block w'
          have hx' := Hx.out.trans hE
          clear Hx
          have Hx := Lib.hid hx'
          clear hx'
          try (have hh := Hl.out.ext hE; clear Hl; have Hl := Lib.hid hh; clear hh)
          try (have hh := Hf.out.ext hE; clear Hf; have Hf := Lib.hid hh; clear hh)
          try (have hh := Hs.out.ext hE; clear Hs; have Hs := Lib.hid hh; clear hh)
          try (have hh := Hb.out.ext hE; clear Hb; have Hb := Lib.hid hh; clear hh)
          try (have hh := Hp.out.ext hE; clear Hp; have Hp := Lib.hid hh; clear hh)
          try (have hh := Hc.out.ext hE; clear Hc; have Hc := Lib.hid hh; clear hh)
          try (have hh := Hlate.out.ext hE; clear Hlate; have Hlate := Lib.hid hh; clear hh)
          clear hE
          have Hb := Lib.hid hb61
          clear hb61
          refine ⟨HS.out _ Hx.out, ?_⟩
          obtain ⟨zb, hzb⟩ : ∃ zb, w'.heap.size = zb := ⟨_, rfl⟩
          rw [hzb] at Hb
          rw [hzb]
          clear hzb
          generalize w'.alloc zeros61 = w' at *
          refine wpOT_one ?_
          go_wp2_with fail
          refine (HSalt.out _ _).mono ?_
          rintro e w' ⟨sb, rfl, hE, hs⟩
          have hx' := Hx.out.trans hE
          clear Hx
          have Hx := Lib.hid hx'
          clear hx'
          try (have hh := Hl.out.ext hE; clear Hl; have Hl := Lib.hid hh; clear hh)
          try (have hh := Hf.out.ext hE; clear Hf; have Hf := Lib.hid hh; clear hh)
          try (have hh := Hs.out.ext hE; clear Hs; have Hs := Lib.hid hh; clear hh)
          try (have hh := Hb.out.ext hE; clear Hb; have Hb := Lib.hid hh; clear hh)
          try (have hh := Hp.out.ext hE; clear Hp; have Hp := Lib.hid hh; clear hh)
          try (have hh := Hc.out.ext hE; clear Hc; have Hc := Lib.hid hh; clear hh)
          try (have hh := Hlate.out.ext hE; clear Hlate; have Hlate := Lib.hid hh; clear hh)
          clear hE
          have Hs := Lib.hid hs
          clear hs
          go_wp2_with fail
          refine ⟨HS.out _ Hx.out, ?_⟩
          refine wpOT_one ?_
          go_wp2_with fail
          refine (exRun _ _ _ _ _ _ _ _ _ (show _ = (⟨[], [], 0, 4⟩ : Told) by kernel_rfl) Hl.out Hf.out Hs.out Hb.out (by decide) (by decide)).mono ?_
          rintro e w' ⟨_, _, _, _, _, _, rfl, hE, _, _, _, _⟩
          have hx' := Hx.out.trans hE
          clear Hx
          have Hx := Lib.hid hx'
          clear hx'
          try (have hh := Hl.out.ext hE; clear Hl; have Hl := Lib.hid hh; clear hh)
          try (have hh := Hf.out.ext hE; clear Hf; have Hf := Lib.hid hh; clear hh)
          try (have hh := Hs.out.ext hE; clear Hs; have Hs := Lib.hid hh; clear hh)
          try (have hh := Hb.out.ext hE; clear Hb; have Hb := Lib.hid hh; clear hh)
          try (have hh := Hp.out.ext hE; clear Hp; have Hp := Lib.hid hh; clear hh)
          try (have hh := Hc.out.ext hE; clear Hc; have Hc := Lib.hid hh; clear hh)
          try (have hh := Hlate.out.ext hE; clear Hlate; have Hlate := Lib.hid hh; clear hh)
          clear hE
          go_wp2_with fail
          refine ⟨HS.out _ Hx.out, ?_⟩
          refine wpOT_take ?_
          repeat (go_big_quiet_step (fail))
          refine wpQuiet_nil ?_
          refine wpOT_done ?_
          clear  HS
          go_wp2_with fail
          go_meet
          case rel => exact ⟨rfl, Hx.out⟩
      · go_wp2_with fail
        have hE : Ext w' (w'.alloc zeros61) := (Ext.refl _).alloc _
        have hb61 := zeros_block w'
        have hx' := Hx.out.trans hE
        clear Hx
        have Hx := Lib.hid hx'
        clear hx'
        try (have hh := Hl.out.ext hE; clear Hl; have Hl := Lib.hid hh; clear hh)
        try (have hh := Hf.out.ext hE; clear Hf; have Hf := Lib.hid hh; clear hh)
        try (have hh := Hs.out.ext hE; clear Hs; have Hs := Lib.hid hh; clear hh)
        try (have hh := Hb.out.ext hE; clear Hb; have Hb := Lib.hid hh; clear hh)
        try (have hh := Hp.out.ext hE; clear Hp; have Hp := Lib.hid hh; clear hh)
        try (have hh := Hc.out.ext hE; clear Hc; have Hc := Lib.hid hh; clear hh)
        try (have hh := Hlate.out.ext hE; clear Hlate; have Hlate := Lib.hid hh; clear hh)
        clear hE
        have Hb := Lib.hid hb61
        clear hb61
        refine ⟨HS.out _ Hx.out, ?_⟩
        obtain ⟨zb, hzb⟩ : ∃ zb, w'.heap.size = zb := ⟨_, rfl⟩
        rw [hzb] at Hb
        rw [hzb]
        clear hzb
        generalize w'.alloc zeros61 = w' at *
        refine wpOT_one ?_
        go_wp2_with fail
        refine (HT.out _).mono ?_
        rintro e w' ⟨tb, rfl, hE, hf⟩
        have hx' := Hx.out.trans hE
        clear Hx
        have Hx := Lib.hid hx'
        clear hx'
        try (have hh := Hl.out.ext hE; clear Hl; have Hl := Lib.hid hh; clear hh)
        try (have hh := Hf.out.ext hE; clear Hf; have Hf := Lib.hid hh; clear hh)
        try (have hh := Hs.out.ext hE; clear Hs; have Hs := Lib.hid hh; clear hh)
        try (have hh := Hb.out.ext hE; clear Hb; have Hb := Lib.hid hh; clear hh)
        try (have hh := Hp.out.ext hE; clear Hp; have Hp := Lib.hid hh; clear hh)
        try (have hh := Hc.out.ext hE; clear Hc; have Hc := Lib.hid hh; clear hh)
        try (have hh := Hlate.out.ext hE; clear Hlate; have Hlate := Lib.hid hh; clear hh)
        clear hE
        have Hf := Lib.hid hf
        clear hf
        go_wp2_with fail
        refine ⟨HS.out _ Hx.out, ?_⟩
        refine wpOT_one ?_
        go_wp2_with fail
        refine (HSalt.out _ _).mono ?_
        rintro e w' ⟨sb, rfl, hE, hs⟩
        have hx' := Hx.out.trans hE
        clear Hx
        have Hx := Lib.hid hx'
        clear hx'
        try (have hh := Hl.out.ext hE; clear Hl; have Hl := Lib.hid hh; clear hh)
        try (have hh := Hf.out.ext hE; clear Hf; have Hf := Lib.hid hh; clear hh)
        try (have hh := Hs.out.ext hE; clear Hs; have Hs := Lib.hid hh; clear hh)
        try (have hh := Hb.out.ext hE; clear Hb; have Hb := Lib.hid hh; clear hh)
        try (have hh := Hp.out.ext hE; clear Hp; have Hp := Lib.hid hh; clear hh)
        try (have hh := Hc.out.ext hE; clear Hc; have Hc := Lib.hid hh; clear hh)
        try (have hh := Hlate.out.ext hE; clear Hlate; have Hlate := Lib.hid hh; clear hh)
        clear hE
        have Hs := Lib.hid hs
        clear hs
        go_wp2_with fail
        refine ⟨HS.out _ Hx.out, ?_⟩
        refine wpOT_one ?_
        go_wp2_with fail
        refine (exRun _ _ _ _ _ _ _ _ _ (show _ = (⟨[], [], 0, 4⟩ : Told) by kernel_rfl) Hl.out Hf.out Hs.out Hb.out (by decide) (by decide)).mono ?_
        rintro e w' ⟨_, _, _, _, _, _, rfl, hE, _, _, _, _⟩
        have hx' := Hx.out.trans hE
        clear Hx
        have Hx := Lib.hid hx'
        clear hx'
        try (have hh := Hl.out.ext hE; clear Hl; have Hl := Lib.hid hh; clear hh)
        try (have hh := Hf.out.ext hE; clear Hf; have Hf := Lib.hid hh; clear hh)
        try (have hh := Hs.out.ext hE; clear Hs; have Hs := Lib.hid hh; clear hh)
        try (have hh := Hb.out.ext hE; clear Hb; have Hb := Lib.hid hh; clear hh)
        try (have hh := Hp.out.ext hE; clear Hp; have Hp := Lib.hid hh; clear hh)
        try (have hh := Hc.out.ext hE; clear Hc; have Hc := Lib.hid hh; clear hh)
        try (have hh := Hlate.out.ext hE; clear Hlate; have Hlate := Lib.hid hh; clear hh)
        clear hE
        go_wp2_with fail
        refine ⟨HS.out _ Hx.out, ?_⟩
        refine wpOT_take ?_
        repeat (go_big_quiet_step (fail))
        refine wpQuiet_nil ?_
        refine wpOT_done ?_
        clear  HS
        go_wp2_with fail
        go_meet
        case rel => exact ⟨rfl, Hx.out⟩
    · go_wp2_with fail
      have hE : Ext w' (w'.alloc zeros61) := (Ext.refl _).alloc _
      have hb61 := zeros_block w'
      have hx' := Hx.out.trans hE
      clear Hx
      have Hx := Lib.hid hx'
      clear hx'
      try (have hh := Hl.out.ext hE; clear Hl; have Hl := Lib.hid hh; clear hh)
      try (have hh := Hf.out.ext hE; clear Hf; have Hf := Lib.hid hh; clear hh)
      try (have hh := Hs.out.ext hE; clear Hs; have Hs := Lib.hid hh; clear hh)
      try (have hh := Hb.out.ext hE; clear Hb; have Hb := Lib.hid hh; clear hh)
      try (have hh := Hp.out.ext hE; clear Hp; have Hp := Lib.hid hh; clear hh)
      try (have hh := Hc.out.ext hE; clear Hc; have Hc := Lib.hid hh; clear hh)
      try (have hh := Hlate.out.ext hE; clear Hlate; have Hlate := Lib.hid hh; clear hh)
      clear hE
      have Hb := Lib.hid hb61
      clear hb61
      refine ⟨HS.out _ Hx.out, ?_⟩
      obtain ⟨zb, hzb⟩ : ∃ zb, w'.heap.size = zb := ⟨_, rfl⟩
      rw [hzb] at Hb
      rw [hzb]
      clear hzb
      generalize w'.alloc zeros61 = w' at *
      refine wpOT_one ?_
      go_wp2_with fail
      refine (HO.out _).mono ?_
      rintro e w' ⟨ob, rfl, hE, hl⟩
      have hx' := Hx.out.trans hE
      clear Hx
      have Hx := Lib.hid hx'
      clear hx'
      try (have hh := Hl.out.ext hE; clear Hl; have Hl := Lib.hid hh; clear hh)
      try (have hh := Hf.out.ext hE; clear Hf; have Hf := Lib.hid hh; clear hh)
      try (have hh := Hs.out.ext hE; clear Hs; have Hs := Lib.hid hh; clear hh)
      try (have hh := Hb.out.ext hE; clear Hb; have Hb := Lib.hid hh; clear hh)
      try (have hh := Hp.out.ext hE; clear Hp; have Hp := Lib.hid hh; clear hh)
      try (have hh := Hc.out.ext hE; clear Hc; have Hc := Lib.hid hh; clear hh)
      try (have hh := Hlate.out.ext hE; clear Hlate; have Hlate := Lib.hid hh; clear hh)
      clear hE
      have Hl := Lib.hid hl
      clear hl
      go_wp2_with fail
      refine ⟨HS.out _ Hx.out, ?_⟩
      refine wpOT_one ?_
      go_wp2_with fail
      refine (HT.out _).mono ?_
      rintro e w' ⟨tb, rfl, hE, hf⟩
      have hx' := Hx.out.trans hE
      clear Hx
      have Hx := Lib.hid hx'
      clear hx'
      try (have hh := Hl.out.ext hE; clear Hl; have Hl := Lib.hid hh; clear hh)
      try (have hh := Hf.out.ext hE; clear Hf; have Hf := Lib.hid hh; clear hh)
      try (have hh := Hs.out.ext hE; clear Hs; have Hs := Lib.hid hh; clear hh)
      try (have hh := Hb.out.ext hE; clear Hb; have Hb := Lib.hid hh; clear hh)
      try (have hh := Hp.out.ext hE; clear Hp; have Hp := Lib.hid hh; clear hh)
      try (have hh := Hc.out.ext hE; clear Hc; have Hc := Lib.hid hh; clear hh)
      try (have hh := Hlate.out.ext hE; clear Hlate; have Hlate := Lib.hid hh; clear hh)
      clear hE
      have Hf := Lib.hid hf
      clear hf
      go_wp2_with fail
      refine ⟨HS.out _ Hx.out, ?_⟩
      refine wpOT_one ?_
      go_wp2_with fail
      refine (HSalt.out _ _).mono ?_
      rintro e w' ⟨sb, rfl, hE, hs⟩
      have hx' := Hx.out.trans hE
      clear Hx
      have Hx := Lib.hid hx'
      clear hx'
      try (have hh := Hl.out.ext hE; clear Hl; have Hl := Lib.hid hh; clear hh)
      try (have hh := Hf.out.ext hE; clear Hf; have Hf := Lib.hid hh; clear hh)
      try (have hh := Hs.out.ext hE; clear Hs; have Hs := Lib.hid hh; clear hh)
      try (have hh := Hb.out.ext hE; clear Hb; have Hb := Lib.hid hh; clear hh)
      try (have hh := Hp.out.ext hE; clear Hp; have Hp := Lib.hid hh; clear hh)
      try (have hh := Hc.out.ext hE; clear Hc; have Hc := Lib.hid hh; clear hh)
      try (have hh := Hlate.out.ext hE; clear Hlate; have Hlate := Lib.hid hh; clear hh)
      clear hE
      have Hs := Lib.hid hs
      clear hs
      go_wp2_with fail
      refine ⟨HS.out _ Hx.out, ?_⟩
      refine wpOT_one ?_
      go_wp2_with fail
      refine (exRun _ _ _ _ _ _ _ _ _ (show _ = (⟨[], [], 0, 4⟩ : Told) by kernel_rfl) Hl.out Hf.out Hs.out Hb.out (by decide) (by decide)).mono ?_
      rintro e w' ⟨_, _, _, _, _, _, rfl, hE, _, _, _, _⟩
      have hx' := Hx.out.trans hE
      clear Hx
      have Hx := Lib.hid hx'
      clear hx'
      try (have hh := Hl.out.ext hE; clear Hl; have Hl := Lib.hid hh; clear hh)
      try (have hh := Hf.out.ext hE; clear Hf; have Hf := Lib.hid hh; clear hh)
      try (have hh := Hs.out.ext hE; clear Hs; have Hs := Lib.hid hh; clear hh)
      try (have hh := Hb.out.ext hE; clear Hb; have Hb := Lib.hid hh; clear hh)
      try (have hh := Hp.out.ext hE; clear Hp; have Hp := Lib.hid hh; clear hh)
      try (have hh := Hc.out.ext hE; clear Hc; have Hc := Lib.hid hh; clear hh)
      try (have hh := Hlate.out.ext hE; clear Hlate; have Hlate := Lib.hid hh; clear hh)
      clear hE
      go_wp2_with fail
      refine ⟨HS.out _ Hx.out, ?_⟩
      refine wpOT_take ?_
      repeat (go_big_quiet_step (fail))
      refine wpQuiet_nil ?_
      refine wpOT_done ?_
      clear  HS
      go_wp2_with fail
      go_meet
      case rel => exact ⟨rfl, Hx.out⟩
  case rest =>
    obtain ⟨rfl, hE⟩ := hcut
    obtain ⟨w', hwc⟩ : ∃ w' : World, wc = w' := ⟨_, rfl⟩
    subst hwc
    have hx' := Hx.out.trans hE
    clear Hx
    have Hx := Lib.hid hx'
    clear hx'
    try (have hh := Hl.out.ext hE; clear Hl; have Hl := Lib.hid hh; clear hh)
    try (have hh := Hf.out.ext hE; clear Hf; have Hf := Lib.hid hh; clear hh)
    try (have hh := Hs.out.ext hE; clear Hs; have Hs := Lib.hid hh; clear hh)
    try (have hh := Hb.out.ext hE; clear Hb; have Hb := Lib.hid hh; clear hh)
    try (have hh := Hp.out.ext hE; clear Hp; have Hp := Lib.hid hh; clear hh)
    try (have hh := Hc.out.ext hE; clear Hc; have Hc := Lib.hid hh; clear hh)
    try (have hh := Hlate.out.ext hE; clear Hlate; have Hlate := Lib.hid hh; clear hh)
    clear hE
    go_wp2_with fail
    refine (HO.out _).mono ?_
    rintro e w' ⟨ob, rfl, hE, hl⟩
    have hx' := Hx.out.trans hE
    clear Hx
    have Hx := Lib.hid hx'
    clear hx'
    try (have hh := Hl.out.ext hE; clear Hl; have Hl := Lib.hid hh; clear hh)
    try (have hh := Hf.out.ext hE; clear Hf; have Hf := Lib.hid hh; clear hh)
    try (have hh := Hs.out.ext hE; clear Hs; have Hs := Lib.hid hh; clear hh)
    try (have hh := Hb.out.ext hE; clear Hb; have Hb := Lib.hid hh; clear hh)
    try (have hh := Hp.out.ext hE; clear Hp; have Hp := Lib.hid hh; clear hh)
    try (have hh := Hc.out.ext hE; clear Hc; have Hc := Lib.hid hh; clear hh)
    try (have hh := Hlate.out.ext hE; clear Hlate; have Hlate := Lib.hid hh; clear hh)
    clear hE
    have Hl := Lib.hid hl
    clear hl
    go_wp2_with fail
    refine (HT.out _).mono ?_
    rintro e w' ⟨tb, rfl, hE, hf⟩
    have hx' := Hx.out.trans hE
    clear Hx
    have Hx := Lib.hid hx'
    clear hx'
    try (have hh := Hl.out.ext hE; clear Hl; have Hl := Lib.hid hh; clear hh)
    try (have hh := Hf.out.ext hE; clear Hf; have Hf := Lib.hid hh; clear hh)
    try (have hh := Hs.out.ext hE; clear Hs; have Hs := Lib.hid hh; clear hh)
    try (have hh := Hb.out.ext hE; clear Hb; have Hb := Lib.hid hh; clear hh)
    try (have hh := Hp.out.ext hE; clear Hp; have Hp := Lib.hid hh; clear hh)
    try (have hh := Hc.out.ext hE; clear Hc; have Hc := Lib.hid hh; clear hh)
    try (have hh := Hlate.out.ext hE; clear Hlate; have Hlate := Lib.hid hh; clear hh)
    clear hE
    have Hf := Lib.hid hf
    clear hf
    go_wp2_with fail
    refine (HSalt.out _ _).mono ?_
    rintro e w' ⟨sb, rfl, hE, hs⟩
    have hx' := Hx.out.trans hE
    clear Hx
    have Hx := Lib.hid hx'
    clear hx'
    try (have hh := Hl.out.ext hE; clear Hl; have Hl := Lib.hid hh; clear hh)
    try (have hh := Hf.out.ext hE; clear Hf; have Hf := Lib.hid hh; clear hh)
    try (have hh := Hs.out.ext hE; clear Hs; have Hs := Lib.hid hh; clear hh)
    try (have hh := Hb.out.ext hE; clear Hb; have Hb := Lib.hid hh; clear hh)
    try (have hh := Hp.out.ext hE; clear Hp; have Hp := Lib.hid hh; clear hh)
    try (have hh := Hc.out.ext hE; clear Hc; have Hc := Lib.hid hh; clear hh)
    try (have hh := Hlate.out.ext hE; clear Hlate; have Hlate := Lib.hid hh; clear hh)
    clear hE
    have Hs := Lib.hid hs
    clear hs
    go_wp2_with fail
    have hE : Ext w' (w'.alloc (.cells #[.int .i64 0, .int .i64 0, .int .i64 1, .int .i64 0, .int .i64 1, .int .i64 1] 46)) := (Ext.refl _).alloc _
    have hb := barters_block [⟨0, 0, 1⟩, ⟨0, 1, 1⟩] (heap_alloc_new w' (.cells #[.int .i64 0, .int .i64 0, .int .i64 1, .int .i64 0, .int .i64 1, .int .i64 1] 46))
    have hx' := Hx.out.trans hE
    clear Hx
    have Hx := Lib.hid hx'
    clear hx'
    try (have hh := Hl.out.ext hE; clear Hl; have Hl := Lib.hid hh; clear hh)
    try (have hh := Hf.out.ext hE; clear Hf; have Hf := Lib.hid hh; clear hh)
    try (have hh := Hs.out.ext hE; clear Hs; have Hs := Lib.hid hh; clear hh)
    try (have hh := Hb.out.ext hE; clear Hb; have Hb := Lib.hid hh; clear hh)
    try (have hh := Hp.out.ext hE; clear Hp; have Hp := Lib.hid hh; clear hh)
    try (have hh := Hc.out.ext hE; clear Hc; have Hc := Lib.hid hh; clear hh)
    try (have hh := Hlate.out.ext hE; clear Hlate; have Hlate := Lib.hid hh; clear hh)
    clear hE
    have Hb := Lib.hid hb
    clear hb
    refine (exRun _ _ _ _ _ _ _ _ _ (show _ = (⟨[], [], 1, 62⟩ : Told) by kernel_rfl) Hl.out Hf.out Hs.out Hb.out (by decide) (by decide)).mono ?_
    rintro e w' ⟨_, _, _, _, _, _, rfl, hE, _, _, _, _⟩
    have hx' := Hx.out.trans hE
    clear Hx
    have Hx := Lib.hid hx'
    clear hx'
    try (have hh := Hl.out.ext hE; clear Hl; have Hl := Lib.hid hh; clear hh)
    try (have hh := Hf.out.ext hE; clear Hf; have Hf := Lib.hid hh; clear hh)
    try (have hh := Hs.out.ext hE; clear Hs; have Hs := Lib.hid hh; clear hh)
    try (have hh := Hb.out.ext hE; clear Hb; have Hb := Lib.hid hh; clear hh)
    try (have hh := Hp.out.ext hE; clear Hp; have Hp := Lib.hid hh; clear hh)
    try (have hh := Hc.out.ext hE; clear Hc; have Hc := Lib.hid hh; clear hh)
    try (have hh := Hlate.out.ext hE; clear Hlate; have Hlate := Lib.hid hh; clear hh)
    clear hE
    clear Hl Hf Hs Hb
    go_wp2_with fail
    refine (HO.out _).mono ?_
    rintro e w' ⟨ob, rfl, hE, hl⟩
    have hx' := Hx.out.trans hE
    clear Hx
    have Hx := Lib.hid hx'
    clear hx'
    try (have hh := Hl.out.ext hE; clear Hl; have Hl := Lib.hid hh; clear hh)
    try (have hh := Hf.out.ext hE; clear Hf; have Hf := Lib.hid hh; clear hh)
    try (have hh := Hs.out.ext hE; clear Hs; have Hs := Lib.hid hh; clear hh)
    try (have hh := Hb.out.ext hE; clear Hb; have Hb := Lib.hid hh; clear hh)
    try (have hh := Hp.out.ext hE; clear Hp; have Hp := Lib.hid hh; clear hh)
    try (have hh := Hc.out.ext hE; clear Hc; have Hc := Lib.hid hh; clear hh)
    try (have hh := Hlate.out.ext hE; clear Hlate; have Hlate := Lib.hid hh; clear hh)
    clear hE
    have Hl := Lib.hid hl
    clear hl
    go_wp2_with fail
    refine (HT.out _).mono ?_
    rintro e w' ⟨tb, rfl, hE, hf⟩
    have hx' := Hx.out.trans hE
    clear Hx
    have Hx := Lib.hid hx'
    clear hx'
    try (have hh := Hl.out.ext hE; clear Hl; have Hl := Lib.hid hh; clear hh)
    try (have hh := Hf.out.ext hE; clear Hf; have Hf := Lib.hid hh; clear hh)
    try (have hh := Hs.out.ext hE; clear Hs; have Hs := Lib.hid hh; clear hh)
    try (have hh := Hb.out.ext hE; clear Hb; have Hb := Lib.hid hh; clear hh)
    try (have hh := Hp.out.ext hE; clear Hp; have Hp := Lib.hid hh; clear hh)
    try (have hh := Hc.out.ext hE; clear Hc; have Hc := Lib.hid hh; clear hh)
    try (have hh := Hlate.out.ext hE; clear Hlate; have Hlate := Lib.hid hh; clear hh)
    clear hE
    have Hf := Lib.hid hf
    clear hf
    go_wp2_with fail
    refine (exBest _ _ 0 1 4 (show _ = (⟨[], 0, 6⟩ : Chosen) by kernel_rfl) Hl.out Hf.out).mono ?_
    rintro e w' ⟨_, _, _, rfl, hE, _, _⟩
    have hx' := Hx.out.trans hE
    clear Hx
    have Hx := Lib.hid hx'
    clear hx'
    try (have hh := Hl.out.ext hE; clear Hl; have Hl := Lib.hid hh; clear hh)
    try (have hh := Hf.out.ext hE; clear Hf; have Hf := Lib.hid hh; clear hh)
    try (have hh := Hs.out.ext hE; clear Hs; have Hs := Lib.hid hh; clear hh)
    try (have hh := Hb.out.ext hE; clear Hb; have Hb := Lib.hid hh; clear hh)
    try (have hh := Hp.out.ext hE; clear Hp; have Hp := Lib.hid hh; clear hh)
    try (have hh := Hc.out.ext hE; clear Hc; have Hc := Lib.hid hh; clear hh)
    try (have hh := Hlate.out.ext hE; clear Hlate; have Hlate := Lib.hid hh; clear hh)
    clear hE
    clear Hl Hf
    go_wp2_with fail
    refine (HO.out _).mono ?_
    rintro e w' ⟨ob, rfl, hE, hl⟩
    have hx' := Hx.out.trans hE
    clear Hx
    have Hx := Lib.hid hx'
    clear hx'
    try (have hh := Hl.out.ext hE; clear Hl; have Hl := Lib.hid hh; clear hh)
    try (have hh := Hf.out.ext hE; clear Hf; have Hf := Lib.hid hh; clear hh)
    try (have hh := Hs.out.ext hE; clear Hs; have Hs := Lib.hid hh; clear hh)
    try (have hh := Hb.out.ext hE; clear Hb; have Hb := Lib.hid hh; clear hh)
    try (have hh := Hp.out.ext hE; clear Hp; have Hp := Lib.hid hh; clear hh)
    try (have hh := Hc.out.ext hE; clear Hc; have Hc := Lib.hid hh; clear hh)
    try (have hh := Hlate.out.ext hE; clear Hlate; have Hlate := Lib.hid hh; clear hh)
    clear hE
    have Hl := Lib.hid hl
    clear hl
    go_wp2_with fail
    refine (HT.out _).mono ?_
    rintro e w' ⟨tb, rfl, hE, hf⟩
    have hx' := Hx.out.trans hE
    clear Hx
    have Hx := Lib.hid hx'
    clear hx'
    try (have hh := Hl.out.ext hE; clear Hl; have Hl := Lib.hid hh; clear hh)
    try (have hh := Hf.out.ext hE; clear Hf; have Hf := Lib.hid hh; clear hh)
    try (have hh := Hs.out.ext hE; clear Hs; have Hs := Lib.hid hh; clear hh)
    try (have hh := Hb.out.ext hE; clear Hb; have Hb := Lib.hid hh; clear hh)
    try (have hh := Hp.out.ext hE; clear Hp; have Hp := Lib.hid hh; clear hh)
    try (have hh := Hc.out.ext hE; clear Hc; have Hc := Lib.hid hh; clear hh)
    try (have hh := Hlate.out.ext hE; clear Hlate; have Hlate := Lib.hid hh; clear hh)
    clear hE
    have Hf := Lib.hid hf
    clear hf
    go_wp2_with fail
    refine (exBest _ _ 5 1 4 (show _ = (⟨[], 0, 2⟩ : Chosen) by kernel_rfl) Hl.out Hf.out).mono ?_
    rintro e w' ⟨_, _, _, rfl, hE, _, _⟩
    have hx' := Hx.out.trans hE
    clear Hx
    have Hx := Lib.hid hx'
    clear hx'
    try (have hh := Hl.out.ext hE; clear Hl; have Hl := Lib.hid hh; clear hh)
    try (have hh := Hf.out.ext hE; clear Hf; have Hf := Lib.hid hh; clear hh)
    try (have hh := Hs.out.ext hE; clear Hs; have Hs := Lib.hid hh; clear hh)
    try (have hh := Hb.out.ext hE; clear Hb; have Hb := Lib.hid hh; clear hh)
    try (have hh := Hp.out.ext hE; clear Hp; have Hp := Lib.hid hh; clear hh)
    try (have hh := Hc.out.ext hE; clear Hc; have Hc := Lib.hid hh; clear hh)
    try (have hh := Hlate.out.ext hE; clear Hlate; have Hlate := Lib.hid hh; clear hh)
    clear hE
    clear Hl Hf
    go_wp2_with fail
    refine (HO.out _).mono ?_
    rintro e w' ⟨ob, rfl, hE, hl⟩
    have hx' := Hx.out.trans hE
    clear Hx
    have Hx := Lib.hid hx'
    clear hx'
    try (have hh := Hl.out.ext hE; clear Hl; have Hl := Lib.hid hh; clear hh)
    try (have hh := Hf.out.ext hE; clear Hf; have Hf := Lib.hid hh; clear hh)
    try (have hh := Hs.out.ext hE; clear Hs; have Hs := Lib.hid hh; clear hh)
    try (have hh := Hb.out.ext hE; clear Hb; have Hb := Lib.hid hh; clear hh)
    try (have hh := Hp.out.ext hE; clear Hp; have Hp := Lib.hid hh; clear hh)
    try (have hh := Hc.out.ext hE; clear Hc; have Hc := Lib.hid hh; clear hh)
    try (have hh := Hlate.out.ext hE; clear Hlate; have Hlate := Lib.hid hh; clear hh)
    clear hE
    have Hl := Lib.hid hl
    clear hl
    go_wp2_with fail
    refine (HT.out _).mono ?_
    rintro e w' ⟨tb, rfl, hE, hf⟩
    have hx' := Hx.out.trans hE
    clear Hx
    have Hx := Lib.hid hx'
    clear hx'
    try (have hh := Hl.out.ext hE; clear Hl; have Hl := Lib.hid hh; clear hh)
    try (have hh := Hf.out.ext hE; clear Hf; have Hf := Lib.hid hh; clear hh)
    try (have hh := Hs.out.ext hE; clear Hs; have Hs := Lib.hid hh; clear hh)
    try (have hh := Hb.out.ext hE; clear Hb; have Hb := Lib.hid hh; clear hh)
    try (have hh := Hp.out.ext hE; clear Hp; have Hp := Lib.hid hh; clear hh)
    try (have hh := Hc.out.ext hE; clear Hc; have Hc := Lib.hid hh; clear hh)
    try (have hh := Hlate.out.ext hE; clear Hlate; have Hlate := Lib.hid hh; clear hh)
    clear hE
    have Hf := Lib.hid hf
    clear hf
    go_wp2_with fail
    refine (HSalt.out _ _).mono ?_
    rintro e w' ⟨sb, rfl, hE, hs⟩
    have hx' := Hx.out.trans hE
    clear Hx
    have Hx := Lib.hid hx'
    clear hx'
    try (have hh := Hl.out.ext hE; clear Hl; have Hl := Lib.hid hh; clear hh)
    try (have hh := Hf.out.ext hE; clear Hf; have Hf := Lib.hid hh; clear hh)
    try (have hh := Hs.out.ext hE; clear Hs; have Hs := Lib.hid hh; clear hh)
    try (have hh := Hb.out.ext hE; clear Hb; have Hb := Lib.hid hh; clear hh)
    try (have hh := Hp.out.ext hE; clear Hp; have Hp := Lib.hid hh; clear hh)
    try (have hh := Hc.out.ext hE; clear Hc; have Hc := Lib.hid hh; clear hh)
    try (have hh := Hlate.out.ext hE; clear Hlate; have Hlate := Lib.hid hh; clear hh)
    clear hE
    have Hs := Lib.hid hs
    clear hs
    go_wp2_with fail
    refine (HPri.out _).mono ?_
    rintro e w' ⟨pb, rfl, hE, hp⟩
    have hx' := Hx.out.trans hE
    clear Hx
    have Hx := Lib.hid hx'
    clear hx'
    try (have hh := Hl.out.ext hE; clear Hl; have Hl := Lib.hid hh; clear hh)
    try (have hh := Hf.out.ext hE; clear Hf; have Hf := Lib.hid hh; clear hh)
    try (have hh := Hs.out.ext hE; clear Hs; have Hs := Lib.hid hh; clear hh)
    try (have hh := Hb.out.ext hE; clear Hb; have Hb := Lib.hid hh; clear hh)
    try (have hh := Hp.out.ext hE; clear Hp; have Hp := Lib.hid hh; clear hh)
    try (have hh := Hc.out.ext hE; clear Hc; have Hc := Lib.hid hh; clear hh)
    try (have hh := Hlate.out.ext hE; clear Hlate; have Hlate := Lib.hid hh; clear hh)
    clear hE
    have Hp := Lib.hid hp
    clear hp
    go_wp2_with fail
    refine (exBound _ _ _ _ 2 (show _ = ((0, 64) : Int × Int) by kernel_rfl) Hl.out Hf.out Hs.out Hp.out).mono ?_
    rintro e w' ⟨rfl, hE⟩
    have hx' := Hx.out.trans hE
    clear Hx
    have Hx := Lib.hid hx'
    clear hx'
    try (have hh := Hl.out.ext hE; clear Hl; have Hl := Lib.hid hh; clear hh)
    try (have hh := Hf.out.ext hE; clear Hf; have Hf := Lib.hid hh; clear hh)
    try (have hh := Hs.out.ext hE; clear Hs; have Hs := Lib.hid hh; clear hh)
    try (have hh := Hb.out.ext hE; clear Hb; have Hb := Lib.hid hh; clear hh)
    try (have hh := Hp.out.ext hE; clear Hp; have Hp := Lib.hid hh; clear hh)
    try (have hh := Hc.out.ext hE; clear Hc; have Hc := Lib.hid hh; clear hh)
    try (have hh := Hlate.out.ext hE; clear Hlate; have Hlate := Lib.hid hh; clear hh)
    clear hE
    clear Hl Hf Hs Hp
    go_wp2_with fail
    refine (HO.out _).mono ?_
    rintro e w' ⟨ob, rfl, hE, hl⟩
    have hx' := Hx.out.trans hE
    clear Hx
    have Hx := Lib.hid hx'
    clear hx'
    try (have hh := Hl.out.ext hE; clear Hl; have Hl := Lib.hid hh; clear hh)
    try (have hh := Hf.out.ext hE; clear Hf; have Hf := Lib.hid hh; clear hh)
    try (have hh := Hs.out.ext hE; clear Hs; have Hs := Lib.hid hh; clear hh)
    try (have hh := Hb.out.ext hE; clear Hb; have Hb := Lib.hid hh; clear hh)
    try (have hh := Hp.out.ext hE; clear Hp; have Hp := Lib.hid hh; clear hh)
    try (have hh := Hc.out.ext hE; clear Hc; have Hc := Lib.hid hh; clear hh)
    try (have hh := Hlate.out.ext hE; clear Hlate; have Hlate := Lib.hid hh; clear hh)
    clear hE
    have Hl := Lib.hid hl
    clear hl
    go_wp2_with fail
    refine (HT.out _).mono ?_
    rintro e w' ⟨tb, rfl, hE, hf⟩
    have hx' := Hx.out.trans hE
    clear Hx
    have Hx := Lib.hid hx'
    clear hx'
    try (have hh := Hl.out.ext hE; clear Hl; have Hl := Lib.hid hh; clear hh)
    try (have hh := Hf.out.ext hE; clear Hf; have Hf := Lib.hid hh; clear hh)
    try (have hh := Hs.out.ext hE; clear Hs; have Hs := Lib.hid hh; clear hh)
    try (have hh := Hb.out.ext hE; clear Hb; have Hb := Lib.hid hh; clear hh)
    try (have hh := Hp.out.ext hE; clear Hp; have Hp := Lib.hid hh; clear hh)
    try (have hh := Hc.out.ext hE; clear Hc; have Hc := Lib.hid hh; clear hh)
    try (have hh := Hlate.out.ext hE; clear Hlate; have Hlate := Lib.hid hh; clear hh)
    clear hE
    have Hf := Lib.hid hf
    clear hf
    go_wp2_with fail
    refine (HSalt.out _ _).mono ?_
    rintro e w' ⟨sb, rfl, hE, hs⟩
    have hx' := Hx.out.trans hE
    clear Hx
    have Hx := Lib.hid hx'
    clear hx'
    try (have hh := Hl.out.ext hE; clear Hl; have Hl := Lib.hid hh; clear hh)
    try (have hh := Hf.out.ext hE; clear Hf; have Hf := Lib.hid hh; clear hh)
    try (have hh := Hs.out.ext hE; clear Hs; have Hs := Lib.hid hh; clear hh)
    try (have hh := Hb.out.ext hE; clear Hb; have Hb := Lib.hid hh; clear hh)
    try (have hh := Hp.out.ext hE; clear Hp; have Hp := Lib.hid hh; clear hh)
    try (have hh := Hc.out.ext hE; clear Hc; have Hc := Lib.hid hh; clear hh)
    try (have hh := Hlate.out.ext hE; clear Hlate; have Hlate := Lib.hid hh; clear hh)
    clear hE
    have Hs := Lib.hid hs
    clear hs
    go_wp2_with fail
    refine (HPri.out _).mono ?_
    rintro e w' ⟨pb, rfl, hE, hp⟩
    have hx' := Hx.out.trans hE
    clear Hx
    have Hx := Lib.hid hx'
    clear hx'
    try (have hh := Hl.out.ext hE; clear Hl; have Hl := Lib.hid hh; clear hh)
    try (have hh := Hf.out.ext hE; clear Hf; have Hf := Lib.hid hh; clear hh)
    try (have hh := Hs.out.ext hE; clear Hs; have Hs := Lib.hid hh; clear hh)
    try (have hh := Hb.out.ext hE; clear Hb; have Hb := Lib.hid hh; clear hh)
    try (have hh := Hp.out.ext hE; clear Hp; have Hp := Lib.hid hh; clear hh)
    try (have hh := Hc.out.ext hE; clear Hc; have Hc := Lib.hid hh; clear hh)
    try (have hh := Hlate.out.ext hE; clear Hlate; have Hlate := Lib.hid hh; clear hh)
    clear hE
    have Hp := Lib.hid hp
    clear hp
    go_wp2_with fail
    refine (exBound _ _ _ _ 5 (show _ = ((0, 2) : Int × Int) by kernel_rfl) Hl.out Hf.out Hs.out Hp.out).mono ?_
    rintro e w' ⟨rfl, hE⟩
    have hx' := Hx.out.trans hE
    clear Hx
    have Hx := Lib.hid hx'
    clear hx'
    try (have hh := Hl.out.ext hE; clear Hl; have Hl := Lib.hid hh; clear hh)
    try (have hh := Hf.out.ext hE; clear Hf; have Hf := Lib.hid hh; clear hh)
    try (have hh := Hs.out.ext hE; clear Hs; have Hs := Lib.hid hh; clear hh)
    try (have hh := Hb.out.ext hE; clear Hb; have Hb := Lib.hid hh; clear hh)
    try (have hh := Hp.out.ext hE; clear Hp; have Hp := Lib.hid hh; clear hh)
    try (have hh := Hc.out.ext hE; clear Hc; have Hc := Lib.hid hh; clear hh)
    try (have hh := Hlate.out.ext hE; clear Hlate; have Hlate := Lib.hid hh; clear hh)
    clear hE
    clear Hl Hf Hs Hp
    go_wp2_with fail
    refine (HO.out _).mono ?_
    rintro e w' ⟨ob, rfl, hE, hl⟩
    have hx' := Hx.out.trans hE
    clear Hx
    have Hx := Lib.hid hx'
    clear hx'
    try (have hh := Hl.out.ext hE; clear Hl; have Hl := Lib.hid hh; clear hh)
    try (have hh := Hf.out.ext hE; clear Hf; have Hf := Lib.hid hh; clear hh)
    try (have hh := Hs.out.ext hE; clear Hs; have Hs := Lib.hid hh; clear hh)
    try (have hh := Hb.out.ext hE; clear Hb; have Hb := Lib.hid hh; clear hh)
    try (have hh := Hp.out.ext hE; clear Hp; have Hp := Lib.hid hh; clear hh)
    try (have hh := Hc.out.ext hE; clear Hc; have Hc := Lib.hid hh; clear hh)
    try (have hh := Hlate.out.ext hE; clear Hlate; have Hlate := Lib.hid hh; clear hh)
    clear hE
    have Hl := Lib.hid hl
    clear hl
    go_wp2_with fail
    refine (exRound (-1) 0 (show _ = (⟨[], 2⟩ : Went) by kernel_rfl) Hl.out (by decide)).mono ?_
    rintro e w' ⟨_, _, _, rfl, hE, _, _⟩
    have hx' := Hx.out.trans hE
    clear Hx
    have Hx := Lib.hid hx'
    clear hx'
    try (have hh := Hl.out.ext hE; clear Hl; have Hl := Lib.hid hh; clear hh)
    try (have hh := Hf.out.ext hE; clear Hf; have Hf := Lib.hid hh; clear hh)
    try (have hh := Hs.out.ext hE; clear Hs; have Hs := Lib.hid hh; clear hh)
    try (have hh := Hb.out.ext hE; clear Hb; have Hb := Lib.hid hh; clear hh)
    try (have hh := Hp.out.ext hE; clear Hp; have Hp := Lib.hid hh; clear hh)
    try (have hh := Hc.out.ext hE; clear Hc; have Hc := Lib.hid hh; clear hh)
    try (have hh := Hlate.out.ext hE; clear Hlate; have Hlate := Lib.hid hh; clear hh)
    clear hE
    clear Hl
    have hmk2 := mk22
    go_wp2_with fail
    clear hmk2
    have hE1 : Ext w' (w'.alloc zero1) := (Ext.refl _).alloc _
    refine (exRound (-1) 0 (show _ = (⟨[], 60⟩ : Went) by kernel_rfl) (offers_block [⟨0, 0, 0, 0, 0, 0, 0, 0⟩] (heap_alloc_new w' zero1)) (by decide)).mono ?_
    rintro e w' ⟨_, _, _, rfl, hE2, _, _⟩
    have hE := hE1.trans hE2
    clear hE1 hE2
    have hx' := Hx.out.trans hE
    clear Hx
    have Hx := Lib.hid hx'
    clear hx'
    try (have hh := Hl.out.ext hE; clear Hl; have Hl := Lib.hid hh; clear hh)
    try (have hh := Hf.out.ext hE; clear Hf; have Hf := Lib.hid hh; clear hh)
    try (have hh := Hs.out.ext hE; clear Hs; have Hs := Lib.hid hh; clear hh)
    try (have hh := Hb.out.ext hE; clear Hb; have Hb := Lib.hid hh; clear hh)
    try (have hh := Hp.out.ext hE; clear Hp; have Hp := Lib.hid hh; clear hh)
    try (have hh := Hc.out.ext hE; clear Hc; have Hc := Lib.hid hh; clear hh)
    try (have hh := Hlate.out.ext hE; clear Hlate; have Hlate := Lib.hid hh; clear hh)
    clear hE
    go_wp2_with fail
    refine (HO.out _).mono ?_
    rintro e w' ⟨ob, rfl, hE, hl⟩
    have hx' := Hx.out.trans hE
    clear Hx
    have Hx := Lib.hid hx'
    clear hx'
    try (have hh := Hl.out.ext hE; clear Hl; have Hl := Lib.hid hh; clear hh)
    try (have hh := Hf.out.ext hE; clear Hf; have Hf := Lib.hid hh; clear hh)
    try (have hh := Hs.out.ext hE; clear Hs; have Hs := Lib.hid hh; clear hh)
    try (have hh := Hb.out.ext hE; clear Hb; have Hb := Lib.hid hh; clear hh)
    try (have hh := Hp.out.ext hE; clear Hp; have Hp := Lib.hid hh; clear hh)
    try (have hh := Hc.out.ext hE; clear Hc; have Hc := Lib.hid hh; clear hh)
    try (have hh := Hlate.out.ext hE; clear Hlate; have Hlate := Lib.hid hh; clear hh)
    clear hE
    have Hl := Lib.hid hl
    clear hl
    go_wp2_with fail
    have hck := mCheck_any (some ⟨ob, 0, none⟩) exOffers.length exOffers.length exOffers (some ⟨lb, 0, none⟩) 2 2 [⟨1, 40, exKeeps⟩, ⟨2, 39, exKeeps⟩] w' Hl.out Hlate.out.fairs (by decide) (by decide)
    rw [show checkOf exOffers [⟨1, 40, exKeeps⟩, ⟨2, 39, exKeeps⟩] = 61 by kernel_rfl] at hck
    refine hck.mono ?_
    rintro e w' ⟨rfl, hE⟩
    have hx' := Hx.out.trans hE
    clear Hx
    have Hx := Lib.hid hx'
    clear hx'
    try (have hh := Hl.out.ext hE; clear Hl; have Hl := Lib.hid hh; clear hh)
    try (have hh := Hf.out.ext hE; clear Hf; have Hf := Lib.hid hh; clear hh)
    try (have hh := Hs.out.ext hE; clear Hs; have Hs := Lib.hid hh; clear hh)
    try (have hh := Hb.out.ext hE; clear Hb; have Hb := Lib.hid hh; clear hh)
    try (have hh := Hp.out.ext hE; clear Hp; have Hp := Lib.hid hh; clear hh)
    try (have hh := Hc.out.ext hE; clear Hc; have Hc := Lib.hid hh; clear hh)
    try (have hh := Hlate.out.ext hE; clear Hlate; have Hlate := Lib.hid hh; clear hh)
    clear hE
    clear hck Hl Hlate
    go_wp2_with fail
    have hck := mCheck_any none 0 0 [] none 0 0 [] w' (nilOffers _) (nilFairs _) (by decide) (by decide)
    rw [show checkOf [] [] = 61 by kernel_rfl] at hck
    refine hck.mono ?_
    rintro e w' ⟨rfl, hE⟩
    have hx' := Hx.out.trans hE
    clear Hx
    have Hx := Lib.hid hx'
    clear hx'
    try (have hh := Hl.out.ext hE; clear Hl; have Hl := Lib.hid hh; clear hh)
    try (have hh := Hf.out.ext hE; clear Hf; have Hf := Lib.hid hh; clear hh)
    try (have hh := Hs.out.ext hE; clear Hs; have Hs := Lib.hid hh; clear hh)
    try (have hh := Hb.out.ext hE; clear Hb; have Hb := Lib.hid hh; clear hh)
    try (have hh := Hp.out.ext hE; clear Hp; have Hp := Lib.hid hh; clear hh)
    try (have hh := Hc.out.ext hE; clear Hc; have Hc := Lib.hid hh; clear hh)
    try (have hh := Hlate.out.ext hE; clear Hlate; have Hlate := Lib.hid hh; clear hh)
    clear hE
    clear hck
    go_wp2_with fail
    go_ret
    exact ⟨rfl, Hx.out⟩
end Go.Proofs.Ytkbhmajcddmhnaa
