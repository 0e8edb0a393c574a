/- Contracts: trip.here, travel. -/
import Derived.Test.YtkbhmajcddmhnaaAt
namespace Go.Proofs.Ytkbhmajcddmhnaa
open Go.RowKit
set_option linter.unusedVariables false

set_option maxRecDepth 100000 in
set_option maxHeartbeats 1000000 in
theorem here_any (mp : Nat) (a : Option Addr) (n cap : Nat) (l : List Offer) (fa : Option Addr) (fn fc : Nat) (fs : List Fair) (k : Nat) (f : Fair) (w : World)
    (hl : OffersAt w a n l) (hn : n ≤ 10) (B : Nat) (hm : MarketAt B w mp a n cap l) (hf : FairsAt w fa fn fs) (hfn : fn ≤ 1000000) (hk : fs[k]? = some f) :
    Calls Try.prog 53 #[.agg #[.pointer (some ⟨mp, 0, none⟩), .slice fa fn fc], .int .i64 k] w (IntsPost (hereOf l f.place f.day) w) := by
  have hkn : k < fn := by
    have := hf.1
    rcases Nat.lt_or_ge k fs.length with h | h
    · omega
    · simp [List.getElem?_eq_none h] at hk
  obtain ⟨b, off, x, ka, kn, kc, rfl, hxk, hb, c0, c1, c2, _, _, _⟩ := hf.get k hkn
  have hfx : f = x := by rw [hk] at hxk; cases hxk; rfl
  subst hfx
  have hat := fun W (hW : Ext w W) => at_any mp a n cap l f.place f.day W (hl.ext hW) hn B (hm.ext hW)
  have Hat := Lib.hid hat
  clear hat hl hm hf hk hxk
  go_enter Try.func53, Try.ntmps53
  go_wp2_with fail
  have hi : Ext w (w.alloc (.cells #[.pointer (some ⟨mp, 0, none⟩), .slice (some ⟨b, off, none⟩) fn fc] 103)) := (Ext.refl _).alloc _
  have d0 : (w.alloc (.cells #[.pointer (some ⟨mp, 0, none⟩), .slice (some ⟨b, off, none⟩) fn fc] 103)).cell? ⟨w.heap.size, 0, none⟩ = some (.pointer (some ⟨mp, 0, none⟩)) := by simp [go_sem]
  have d1 : (w.alloc (.cells #[.pointer (some ⟨mp, 0, none⟩), .slice (some ⟨b, off, none⟩) fn fc] 103)).cell? ⟨w.heap.size, 1, none⟩ = some (.slice (some ⟨b, off, none⟩) fn fc) := by simp [go_sem]
  have e0 := hi.cell c0
  have e1 := hi.cell c1
  generalize w.alloc (.cells #[.pointer (some ⟨mp, 0, none⟩), .slice (some ⟨b, off, none⟩) fn fc] 103) = w1 at *
  refine wp_region_mix [0, 1, 2, 3, 4, 5, 6, 7, 8, 9, 10, 11, 12, 13] [(14, false), (15, true)] (Ext w1) _ _ (by kernel_rfl) (by kernel_rfl) (by kernel_rfl) rfl rfl (Ext.refl _).drew ?_
  intro ι _ g hg
  have g0 := fun p => Ext.cell (hg p) d0
  have g1 := fun p => Ext.cell (hg p) d1
  have g2 := fun p => Ext.cell (hg p) e0
  have g3 := fun p => Ext.cell (hg p) e1
  clear hg d0 d1 e0 e1 c0 c1 c2
  simp only [opsOf, opsOfT, consOp, consOpT, List.getElem?_toArray, List.getElem?_cons_succ, List.getElem?_cons_zero]
  repeat (go_big_quiet_step (fail))
  refine wpQuiet_nil ?_
  clear g0 g1 g2 g3
  refine wpListS_step ?_
  go_wp2_with (go_at_call 62; refine (Hat.out _ (hi.trans (Ext.refl _).drew)).mono ?_; rintro e w2 ⟨a2, n2, c2, rfl, hx2, hfr2, hnc2, hcm2, hi2⟩)
  refine ⟨(Ext.refl _).drew.trans hx2, ?_⟩
  refine wpListS_last ?_
  go_wp2_with fail
  refine wpListS_nil ?_
  go_wp2_with fail
  go_ret
  exact ⟨a2, n2, c2, rfl, hi.trans ((Ext.refl _).drew.trans hx2), hfr2.mono hi.size, hnc2, hcm2, hi2⟩

/-- a trip at work -/
def TripPost (a : Option Addr) (n cap : Nat) (l : List Offer) (fa : Option Addr) (fn fc : Nat) (w : World) (e : Ending) (w' : World) : Prop :=
  ∃ mp, e = .returned (.tuple #[.agg #[.pointer (some ⟨mp, 0, none⟩), .slice fa fn fc], .int .i64 0]) ∧ Ext w w' ∧ MarketAt w.heap.size w' mp a n cap l

def offersOk (l : List Offer) : Bool := decide (l.length ≤ 10) && l.all Offer.valid
def tripOk (l : List Fair) : Bool := inB l.length 1 5 && l.all Fair.valid && sortedDays l
theorem day_of_valid {f : Fair} (h : f.valid = true) : 0 ≤ f.day ∧ f.day ≤ 100000 := by
  simp [Fair.valid, inB] at h
  omega

set_option maxHeartbeats 1000000 in
theorem travel_ok (a : Option Addr) (n cap : Nat) (l : List Offer) (fa : Option Addr) (fn fc : Nat) (fs : List Fair) (w : World) (hl : OffersAt w a n l) (hf : FairsAt w fa fn fs) (ho : offersOk l = true) (ht : tripOk fs = true) :
    Calls Try.prog 46 #[.slice a n cap, .slice fa fn fc] w (TripPost a n cap l fa fn fc w) := by
  simp only [offersOk, tripOk, Bool.and_eq_true, decide_eq_true_eq] at ho ht
  have hln := hl.1
  have hfn := hf.1
  have hn5 : (1 : Int) ≤ (fn : Int) ∧ (fn : Int) ≤ 5 := by have := ht.1.1; simp only [inB, Bool.and_eq_true, decide_eq_true_eq] at this; omega
  obtain ⟨hn1, hn5⟩ := hn5
  have hop := fun W (hW : Ext w W) => open_ok a n cap l W (hl.ext hW) ho.2 (by omega)
  have hin : ∀ W, Calls Try.prog 51 #[.int .i64 fn, .int .i64 1, .int .i64 5] W fun e w' => e = .returned (.bool true) ∧ Ext W w' := fun W => by
    have := in_ext fn 1 5 W
    rw [← hfn, ht.1.1] at this
    rw [← hfn]
    exact this
  have hev : ∀ W, Ext w W → Calls Try.prog 72 #[.slice fa fn fc, .func (.func 73) #[] #[]] W fun e w' => e = .returned (.bool true) ∧ Ext W w' := fun W hW => by
    have := every_fair 73 (enters_of Try.func73 (by kernel_rfl) rfl) fa fn fc fs Fair.valid W (hf.ext hW) (by omega) (fun o _ W' ka kn kc _ h1 h2 h3 => fair_any o ka kn kc W' h1 h2 h3)
    rw [ht.1.2] at this
    exact this
  have hso : ∀ W, Ext w W → Calls Try.prog 74 #[.slice fa fn fc, .func (.func 71) #[] #[]] W fun e w' => e = .returned (.bool true) ∧ Ext W w' := fun W hW => by
    have := isSorted_any fa fn fc fs W (hf.ext hW) (by omega) (fun f hf' => day_of_valid (List.all_eq_true.1 ht.1.2 f hf'))
    rw [ht.2] at this
    exact this
  have Hop := Lib.hid hop
  have Hin := Lib.hid hin
  have Hev := Lib.hid hev
  have Hso := Lib.hid hso
  clear hop hin hev hso hl hf ho ht hln hfn
  go_enter Try.func46, Try.ntmps46
  go_wp2_with (first | (go_at_call 61; refine (Hop.out _ ((Ext.refl _).alloc _)).mono ?_; rintro e w1 ⟨mp, rfl, hx1, hm1⟩) | (go_at_call 51; refine (Hin.out _).mono ?_; rintro e w2 ⟨rfl, hx2⟩) | (go_at_call 72; refine (Hev.out _ (((Ext.refl _).alloc _).trans (hx1.trans hx2))).mono ?_; rintro e w3 ⟨rfl, hx3⟩) | (go_at_call 74; refine (Hso.out _ (((Ext.refl _).alloc _).trans (hx1.trans (hx2.trans hx3)))).mono ?_; rintro e w4 ⟨rfl, hx4⟩; obtain ⟨hc4, hf4⟩ := (hx1.trans (hx2.trans (hx3.trans hx4))).box (heap_alloc_new w _)))
  have hs1 : w.heap.size + 1 ≤ w1.heap.size := by have := hx1.size; simpa using this
  have hx14 := hx1.trans (hx2.trans (hx3.trans hx4))
  have hm4 := hm1.ext (hx2.trans (hx3.trans hx4))
  refine bodyPost_ret (v := .tuple #[.agg #[.pointer (some ⟨mp, 0, none⟩), .slice fa fn fc], .int .i64 0]) (by simp [results, Try.results46, go_sem, hc4]) rfl ⟨mp, rfl, ?_, ?_⟩
  · exact ((((Ext.refl _).alloc _).trans hx14).setCell (Nat.le_refl _) _).setCell (Nat.le_refl _) _
  · refine MarketAt.mono (B := w.heap.size + 1) (MarketAt.same (w := w4) (by simpa using hm4) fun b hb => ?_) (by omega)
    rw [heap_setCell_other _ _ _ _ (by simp; omega), heap_setCell_other _ _ _ _ (by simp; omega)]

theorem travel_offers (a : Option Addr) (n cap : Nat) (l : List Offer) (fv : Value) (w : World) (hl : OffersAt w a n l) (hn : n ≤ 1000000) (ho : offersOk l = false) :
    Calls Try.prog 46 #[.slice a n cap, fv] w fun e w' => e = .returned (.tuple #[.agg #[.pointer none, .slice none 0 0], .int .i64 60]) ∧ Ext w w' := by
  have hop := fun W (hW : Ext w W) => open_bad a n cap l W (hl.ext hW) (by omega) ho
  have Hop := Lib.hid hop
  clear hop hl ho
  go_enter Try.func46, Try.ntmps46
  go_wp2_with (go_at_call 61; refine (Hop.out _ ((Ext.refl _).alloc _)).mono ?_; rintro e w1 ⟨rfl, hx1⟩; obtain ⟨hc4, hf4⟩ := hx1.box (heap_alloc_new w _))
  refine bodyPost_ret (v := .tuple #[.agg #[.pointer none, .slice none 0 0], .int .i64 60]) (by simp [results, Try.results46, go_sem, hc4]) rfl ⟨rfl, ?_⟩
  exact ((((Ext.refl _).alloc _).trans hx1).setCell (Nat.le_refl _) _).setCell (Nat.le_refl _) _

set_option maxHeartbeats 1000000 in
theorem travel_trip (a : Option Addr) (n cap : Nat) (l : List Offer) (fa : Option Addr) (fn fc : Nat) (fs : List Fair) (w : World) (hl : OffersAt w a n l) (hf : FairsAt w fa fn fs) (hfm : fn ≤ 1000000) (ho : offersOk l = true) (ht : tripOk fs = false) :
    Calls Try.prog 46 #[.slice a n cap, .slice fa fn fc] w fun e w' => e = .returned (.tuple #[.agg #[.pointer none, .slice none 0 0], .int .i64 61]) ∧ Ext w w' := by
  simp only [offersOk, Bool.and_eq_true, decide_eq_true_eq] at ho
  have hln := hl.1
  have hfn := hf.1
  have hop := fun W (hW : Ext w W) => open_ok a n cap l W (hl.ext hW) ho.2 (by omega)
  have hin : ∀ W, Calls Try.prog 51 #[.int .i64 fn, .int .i64 1, .int .i64 5] W fun e w' => e = .returned (.bool (inB fs.length 1 5)) ∧ Ext W w' := fun W => by
    rw [hfn]
    exact in_ext fn 1 5 W
  have hev : ∀ W, Ext w W → Calls Try.prog 72 #[.slice fa fn fc, .func (.func 73) #[] #[]] W fun e w' => e = .returned (.bool (fs.all Fair.valid)) ∧ Ext W w' := fun W hW =>
    every_fair 73 (enters_of Try.func73 (by kernel_rfl) rfl) fa fn fc fs Fair.valid W (hf.ext hW) (by omega) (fun o _ W' ka kn kc _ h1 h2 h3 => fair_any o ka kn kc W' h1 h2 h3)
  have Hop := Lib.hid hop
  cases h1 : inB fs.length 1 5
  · rw [h1] at hin
    have Hin := Lib.hid hin
    clear hop hin hev hl hf ho ht hln hfn h1
    go_enter Try.func46, Try.ntmps46
    go_wp2_with (first | (go_at_call 61; refine (Hop.out _ ((Ext.refl _).alloc _)).mono ?_; rintro e w1 ⟨mp, rfl, hx1, hm1⟩) | (go_at_call 51; refine (Hin.out _).mono ?_; rintro e w2 ⟨rfl, hx2⟩; obtain ⟨hc4, hf4⟩ := (hx1.trans hx2).box (heap_alloc_new w _)))
    refine bodyPost_ret (v := .tuple #[.agg #[.pointer none, .slice none 0 0], .int .i64 61]) (by simp [results, Try.results46, go_sem, hc4]) rfl ⟨rfl, ?_⟩
    exact ((((Ext.refl _).alloc _).trans (hx1.trans hx2)).setCell (Nat.le_refl _) _).setCell (Nat.le_refl _) _
  cases h2 : fs.all Fair.valid
  · rw [h1] at hin
    rw [h2] at hev
    have Hin := Lib.hid hin
    have Hev := Lib.hid hev
    clear hop hin hev hl hf ho ht hln hfn h1 h2
    go_enter Try.func46, Try.ntmps46
    go_wp2_with (first | (go_at_call 61; refine (Hop.out _ ((Ext.refl _).alloc _)).mono ?_; rintro e w1 ⟨mp, rfl, hx1, hm1⟩) | (go_at_call 51; refine (Hin.out _).mono ?_; rintro e w2 ⟨rfl, hx2⟩) | (go_at_call 72; refine (Hev.out _ (((Ext.refl _).alloc _).trans (hx1.trans hx2))).mono ?_; rintro e w3 ⟨rfl, hx3⟩; obtain ⟨hc4, hf4⟩ := (hx1.trans (hx2.trans hx3)).box (heap_alloc_new w _)))
    refine bodyPost_ret (v := .tuple #[.agg #[.pointer none, .slice none 0 0], .int .i64 61]) (by simp [results, Try.results46, go_sem, hc4]) rfl ⟨rfl, ?_⟩
    exact ((((Ext.refl _).alloc _).trans (hx1.trans (hx2.trans hx3))).setCell (Nat.le_refl _) _).setCell (Nat.le_refl _) _
  have hso : ∀ W, Ext w W → Calls Try.prog 74 #[.slice fa fn fc, .func (.func 71) #[] #[]] W fun e w' => e = .returned (.bool false) ∧ Ext W w' := fun W hW => by
    have := isSorted_any fa fn fc fs W (hf.ext hW) (by omega) (fun f hf' => day_of_valid (List.all_eq_true.1 h2 f hf'))
    have e : sortedDays fs = false := by simpa [tripOk, h1, h2] using ht
    rw [e] at this
    exact this
  rw [h1] at hin
  rw [h2] at hev
  have Hin := Lib.hid hin
  have Hev := Lib.hid hev
  have Hso := Lib.hid hso
  clear hop hin hev hso hl hf ho ht hln hfn h1 h2
  go_enter Try.func46, Try.ntmps46
  go_wp2_with (first | (go_at_call 61; refine (Hop.out _ ((Ext.refl _).alloc _)).mono ?_; rintro e w1 ⟨mp, rfl, hx1, hm1⟩) | (go_at_call 51; refine (Hin.out _).mono ?_; rintro e w2 ⟨rfl, hx2⟩) | (go_at_call 72; refine (Hev.out _ (((Ext.refl _).alloc _).trans (hx1.trans hx2))).mono ?_; rintro e w3 ⟨rfl, hx3⟩) | (go_at_call 74; refine (Hso.out _ (((Ext.refl _).alloc _).trans (hx1.trans (hx2.trans hx3)))).mono ?_; rintro e w4 ⟨rfl, hx4⟩; obtain ⟨hc4, hf4⟩ := (hx1.trans (hx2.trans (hx3.trans hx4))).box (heap_alloc_new w _)))
  refine bodyPost_ret (v := .tuple #[.agg #[.pointer none, .slice none 0 0], .int .i64 61]) (by simp [results, Try.results46, go_sem, hc4]) rfl ⟨rfl, ?_⟩
  exact ((((Ext.refl _).alloc _).trans (hx1.trans (hx2.trans (hx3.trans hx4)))).setCell (Nat.le_refl _) _).setCell (Nat.le_refl _) _
end Go.Proofs.Ytkbhmajcddmhnaa
