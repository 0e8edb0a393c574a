/- Prices for another number of fairs than the trip's. -/
import Derived.Test.YtkbhmajcddmhnaaVBound
import Derived.Test.YtkbhmajcddmhnaaVRefBound
namespace Go.Proofs.Ytkbhmajcddmhnaa
open Go.RowKit
set_option linter.unusedVariables false
set_option linter.unusedSimpArgs false

set_option maxRecDepth 100000 in
set_option maxHeartbeats 4000000 in
theorem priced_far (mp : Nat) (fa : Option Addr) (fn fc : Nat) (fs : List Fair) (pa : Option Addr) (pn pc : Nat) (ps : List (List Int)) (l : List Offer) (w : World)
    (hf : FairsAt w fa fn fs) (hp : RowsAt w pa pn ps) (hpn : pn ≤ 9223372036854775807) (hfn : fn ≤ 5) (hnf : pn ≠ fn) :
    Calls Try.prog 49 #[.agg #[.pointer (some ⟨mp, 0, none⟩), .slice fa fn fc], .slice pa pn pc] w fun e w' => e = .returned (.bool (PB (Priced l fs ps))) ∧ Ext w w' := by
  have hfl := hf.1
  have hpl := hp.1
  have Hfl := Lib.hid hfl
  have Hpl := Lib.hid hpl
  clear hfl hpl
  clear hf hp
  have hne : ((pn : Int) != (fn : Int)) = true := by rw [bne_iff_ne]; omega
  go_enter Try.func49, Try.ntmps49
  go_wp2_with fail
  go_step3
  go_wp2_with fail
  try rw [Exit.noGoto_ret]
  go_ret
  exact ⟨ret_bool (PB_false (fun h => hnf (by have := h.1; rw [Hpl.out, Hfl.out] at this; exact this))).symm, (Ext.refl _).alloc _⟩
set_option maxRecDepth 100000 in
set_option maxHeartbeats 4000000 in
theorem prices_all (a : Option Addr) (n cap : Nat) (l : List Offer) (fa : Option Addr) (fn fc : Nat) (fs : List Fair) (pa : Option Addr) (pn pc : Nat) (ps : List (List Int)) (want : Int) (w : World)
    (hl : OffersAt w a n l) (hf : FairsAt w fa fn fs) (hp : RowsAt w pa pn ps) (hpn : pn ≤ 9223372036854775807) (ho : offersOk l = true) (ht : tripOk fs = true) (hw0 : 0 ≤ want) (hw4 : want ≤ 4) :
    Calls Try.prog 37 #[.slice a n cap, .slice fa fn fc, .int .i64 want, .slice pa pn pc] w fun e w' => e = .returned (.bool (PB (Priced l fs ps ∧ 0 < pr ps (fs.length - 1) want))) ∧ Ext w w' := by
  by_cases h : pn ≤ 1000000
  · exact refPrices_any a n cap l fa fn fc fs pa pn pc ps want w hl hf hp h ho ht hw0 hw4
  · have hfl := hf.1
    have hpl := hp.1
    have htl := trip_len ht
    have hnf : pn ≠ fn := by omega
    have hfn5 : fn ≤ 5 := by omega
    have hne : ((pn : Int) != (fn : Int)) = true := by rw [bne_iff_ne]; omega
    have Hfl := Lib.hid hfl
    have Hpl := Lib.hid hpl
    clear hfl hpl
    clear hf hp hl ho ht
    go_enter Try.func37, Try.ntmps37
    go_wp2_with fail
    go_ret
    exact ⟨ret_bool (PB_false (fun h => hnf (by have := h.1.1; rw [Hpl.out, Hfl.out] at this; exact this))).symm, Ext.refl _⟩
set_option maxRecDepth 100000 in
set_option maxHeartbeats 4000000 in
theorem bound_all (a : Option Addr) (n cap : Nat) (l : List Offer) (fa : Option Addr) (fn fc : Nat) (fs : List Fair) (sa : Option Addr) (sc : Nat) (xs : List Int) (pa : Option Addr) (pn pc : Nat) (ps : List (List Int)) (want : Int) (w : World)
    (hl : OffersAt w a n l) (hf : FairsAt w fa fn fs) (hs : IntsAt .i64 w sa 5 xs) (hp : RowsAt w pa pn ps) (hpn : pn ≤ 9223372036854775807) (ho : offersOk l = true) (ht : tripOk fs = true) (h1 : stocksOk xs = true) (h2 : inB want 0 4 = true) :
    Calls Try.prog 16 #[.slice a n cap, .slice fa fn fc, .slice sa 5 sc, .int .i64 want, .slice pa pn pc] w fun e w' => e = .returned (.tuple #[.int .i64 (boundOf l fs xs want ps).1, .int .i64 (boundOf l fs xs want ps).2]) ∧ Ext w w' := by
  have hol := offers_len ho
  have htl := trip_len ht
  have hnl := hl.1
  have hfl := hf.1
  have hpl := hp.1
  by_cases h : pn ≤ 1000000
  · exact bound_any a n cap l fa fn fc fs sa 5 sc xs pa pn pc ps want w hl hf hs hp (by omega) (by omega) (by omega) h
  have hc0 : checkOf l fs = 0 := by unfold checkOf; simp [ho, ht]
  have htr := travel_ok a n cap l fa fn fc fs w hl hf ho ht
  obtain ⟨hx5, hxb⟩ := stock_get h1
  obtain ⟨x0, x1, x2, x3, x4, rfl⟩ : ∃ x0 x1 x2 x3 x4, xs = [x0, x1, x2, x3, x4] := by
    match xs, hx5 with
    | [y0, y1, y2, y3, y4], _ => exact ⟨_, _, _, _, _, rfl⟩
  have hst := fun W (hW : Ext w W) => filled_ok sa sc x0 x1 x2 x3 x4 W (hs.ext hW) h1
  have hgo := fun W => good_ext want W
  rw [h2] at hgo
  have hprc := fun W mp (hW : Ext w W) => priced_far mp fa fn fc fs pa pn pc ps l W (hf.ext hW) (hp.ext hW) hpn (by omega) (by omega)
  have h3 : PB (Priced l fs ps) = false := PB_false (fun h => by have := h.1; omega)
  have hb : boundOf l fs [x0, x1, x2, x3, x4] want ps = (0, 64) := by unfold boundOf; rw [if_neg (by simp [hc0]), if_neg (by simp [h1, h2]), if_pos (by rw [PB_and, h3]; rfl)]
  rw [hb]
  rw [h3] at hprc
  have hw04 : 0 ≤ want ∧ want ≤ 4 := by simpa [inB] using h2
  obtain ⟨hw0, hw4⟩ := hw04
  have Hpr := Lib.hid hprc
  have Htr := Lib.hid htr
  have Hst := Lib.hid hst
  have Hgo := Lib.hid hgo
  clear htr hst hgo
  clear hb hl hf hs hp hc0 h1 ho ht h2 hprc h3 hxb hpl hfl hnl hx5
  go_enter Try.func16, Try.ntmps16
  go_wp2_with (first | (go_at_call 46; refine Htr.out.mono ?_; rintro e w1 ⟨mp, rfl, hx1, hm1⟩; have Hm1 := Lib.hid hm1; clear hm1) | (go_at_call 47; refine (Hst.out _ (hx1.alloc _)).mono ?_; rintro e w2 ⟨rfl, hx2⟩; have hb2 := hx2.heap (heap_alloc_new w1 _)) | (go_at_call 48; refine (Hgo.out _).mono ?_; rintro e w3 ⟨rfl, hx3⟩; obtain ⟨bc3, bf3⟩ := (((Ext.refl _).alloc _).trans hx3).box hb2) | (go_at_call 49; refine (Hpr.out _ mp (((hx1.alloc _).trans hx2).alloc _ |>.trans hx3)).mono ?_; rintro e w4 ⟨rfl, hx4⟩))
  go_ret2
  exact ⟨rfl, ((((hx1.alloc _).trans hx2).alloc _).trans hx3).trans hx4⟩
end Go.Proofs.Ytkbhmajcddmhnaa
