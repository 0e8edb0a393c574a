/- Contract: barter. -/
import Derived.Test.YtkbhmajcddmhnaaVRoad
namespace Go.Proofs.Ytkbhmajcddmhnaa
open Go.RowKit
set_option linter.unusedVariables false
set_option linter.unusedSimpArgs false

/-- what there is after an offer has been taken so many times -/
def barterHeld (held : List Span) (x : Offer) (t : Int) : List Span :=
  let a := held.getD x.give.toNat z0
  let b := held.getD x.get.toNat z0
  (held.set x.give.toNat ⟨a.lo - t * x.units, a.hi - t * x.units⟩).set x.get.toNat ⟨b.lo + t * x.lo, b.hi + t * x.hi⟩
def barterErr (held : List Span) (x : Offer) (t : Int) : Int :=
  if (held.getD x.give.toNat z0).lo < t * x.units then 63 else if 1000000000000000 < (held.getD x.get.toNat z0).hi + t * x.hi then 9 else 0
def BarterPost (b : Nat) (held : List Span) (x : Offer) (t : Int) (w : World) (e : Ending) (w' : World) : Prop :=
  e = .returned (.int .i64 (barterErr held x t)) ∧ Only b w w' ∧ (barterErr held x t = 0 → HeldAt w' b (barterHeld held x t))

set_option maxRecDepth 100000 in
set_option maxHeartbeats 4000000 in
theorem barter_any (b : Nat) (held : List Span) (pl lo hi fr to t U : Int) (gi ge : Nat) (w : World) (hh : HeldAt w b held) (ho : HeldOk held) (hg1 : gi < 5) (hg2 : ge < 5) (hne : gi ≠ ge) (hU : 1 ≤ U) (hU' : U ≤ 50) (hl : 1 ≤ lo) (hl' : lo ≤ hi) (hh' : hi ≤ 50) (ht : 1 ≤ t) (ht' : t ≤ 1000000000000000) :
    Calls Try.prog 55 #[.pointer (some ⟨b, 0, none⟩), .agg #[.int .i64 pl, .int .i64 gi, .int .i64 ge, .int .i64 U, .int .i64 lo, .int .i64 hi, .int .i64 fr, .int .i64 to], .int .i64 t] w (BarterPost b held ⟨pl, gi, ge, U, lo, hi, fr, to⟩ t w) := by
  have hb0 := hh.lt
  obtain ⟨s, hs, c0, c1, cf⟩ := hh.get gi hg1
  obtain ⟨u, hu, e0, e1, _⟩ := hh.get ge hg2
  obtain ⟨s1, s2, s3⟩ := ho.2 gi s hs
  obtain ⟨u1, u2, u3⟩ := ho.2 ge u hu
  have hbe : barterErr held ⟨pl, gi, ge, U, lo, hi, fr, to⟩ t = if s.lo < t * U then 63 else if 1000000000000000 < u.hi + t * hi then 9 else 0 := by
    simp only [barterErr, Int.toNat_natCast, List.getD, hs, hu, Option.getD_some]
  have hbh : barterHeld held ⟨pl, gi, ge, U, lo, hi, fr, to⟩ t = (held.set gi ⟨s.lo - t * U, s.hi - t * U⟩).set ge ⟨u.lo + t * lo, u.hi + t * hi⟩ := by
    simp only [barterHeld, Int.toNat_natCast, List.getD, hs, hu, Option.getD_some]
  unfold BarterPost
  rw [hbe, hbh]
  clear hbe hbh ho
  obtain ⟨sl, sh⟩ := s
  obtain ⟨ul, uh⟩ := u
  simp only at c0 c1 e0 e1 s1 s2 s3 u1 u2 u3 hs hu
  simp only
  obtain ⟨m1, m1'⟩ := mul_bd (M := 1000000000000000) (N := 50) (show 0 ≤ t by omega) ht' (show 0 ≤ U by omega) hU'
  obtain ⟨m2, m2'⟩ := mul_bd (M := 1000000000000000) (N := 50) (show 0 ≤ t by omega) ht' (show 0 ≤ lo by omega) (show lo ≤ 50 by omega)
  obtain ⟨m3, m3'⟩ := mul_bd (M := 1000000000000000) (N := 50) (show 0 ≤ t by omega) ht' (show 0 ≤ hi by omega) hh'
  simp only [Int.reduceMul] at m1' m2' m3'
  obtain ⟨P, hP⟩ : ∃ P, t * U = P := ⟨_, rfl⟩
  obtain ⟨L, hL⟩ : ∃ L, t * lo = L := ⟨_, rfl⟩
  obtain ⟨H, hH⟩ : ∃ H, t * hi = H := ⟨_, rfl⟩
  rw [hP] at m1 m1'
  rw [hL] at m2 m2'
  rw [hH] at m3 m3'
  rw [hP, hL, hH]
  have Hh := Lib.hid hh
  have Hs := Lib.hid hs
  have Hu := Lib.hid hu
  clear hh hs hu
  by_cases hsh : sl < P
  · have hshB : decide (sl < P) = true := by simpa using hsh
    rw [if_pos hsh]
    clear hsh
    go_enter Try.func55, Try.ntmps55
    go_wp2_with fail
    have hbx : (w.alloc (.cells #[.int .i64 pl, .int .i64 gi, .int .i64 ge, .int .i64 U, .int .i64 lo, .int .i64 hi, .int .i64 fr, .int .i64 to] 81)).heap[w.heap.size]? = some (.cells #[.int .i64 pl, .int .i64 gi, .int .i64 ge, .int .i64 U, .int .i64 lo, .int .i64 hi, .int .i64 fr, .int .i64 to] 81 (0, 0)) := heap_alloc_new _ _
    have hx0 : Ext w (w.alloc (.cells #[.int .i64 pl, .int .i64 gi, .int .i64 ge, .int .i64 U, .int .i64 lo, .int .i64 hi, .int .i64 fr, .int .i64 to] 81)) := (Ext.refl _).alloc _
    generalize w.alloc (.cells #[.int .i64 pl, .int .i64 gi, .int .i64 ge, .int .i64 U, .int .i64 lo, .int .i64 hi, .int .i64 fr, .int .i64 to] 81) = W0 at *
    refine wp_region_ext (by kernel_rfl) (by kernel_rfl) (fun f' hf hs => ?_)
    have g5 := fun q => ((hf q).box hbx).1
    clear hf hs
    repeat (go_big_quiet_step (fail))
    refine wpQuiet_nil ?_
    intro W1 hW1
    clear g5
    go_wp2_with fail
    refine wp_region_ext (by kernel_rfl) (by kernel_rfl) (fun f' hf hs => ?_)
    have g5 := fun q => ((hW1.trans (hf q)).box hbx).1
    have g1 := fun q => (hx0.trans (hW1.trans (hf q))).cell c0
    clear hf hs
    repeat (go_big_quiet_step (fail))
    refine wpQuiet_nil ?_
    intro W2 hW2
    clear g5 g1
    go_wp2_with fail
    go_ret
    exact ⟨rfl, (hx0.trans (hW1.trans hW2)).only b, fun h => by cases h⟩
  · have hshB : decide (sl < P) = false := by simpa using hsh
    rw [if_neg hsh]
    obtain ⟨C, hC⟩ : ∃ C, (if 1000000000000000 < uh + H then (9 : Int) else 0) = C := ⟨_, rfl⟩
    rw [hC]
    have HC1 : Hid (1000000000000000 < uh + H → C = 9) := Lib.hid (fun h => by rw [← hC, if_pos h])
    have HC2 : Hid (uh + H ≤ 1000000000000000 → C = 0) := Lib.hid (fun h => by rw [← hC, if_neg (by omega)])
    clear hC
    have hP2 : P ≤ sl := by omega
    clear hsh
    go_enter Try.func55, Try.ntmps55
    go_wp2_with fail
    have hbx : (w.alloc (.cells #[.int .i64 pl, .int .i64 gi, .int .i64 ge, .int .i64 U, .int .i64 lo, .int .i64 hi, .int .i64 fr, .int .i64 to] 81)).heap[w.heap.size]? = some (.cells #[.int .i64 pl, .int .i64 gi, .int .i64 ge, .int .i64 U, .int .i64 lo, .int .i64 hi, .int .i64 fr, .int .i64 to] 81 (0, 0)) := heap_alloc_new _ _
    have hx0 : Ext w (w.alloc (.cells #[.int .i64 pl, .int .i64 gi, .int .i64 ge, .int .i64 U, .int .i64 lo, .int .i64 hi, .int .i64 fr, .int .i64 to] 81)) := (Ext.refl _).alloc _
    generalize w.alloc (.cells #[.int .i64 pl, .int .i64 gi, .int .i64 ge, .int .i64 U, .int .i64 lo, .int .i64 hi, .int .i64 fr, .int .i64 to] 81) = W0 at *
    refine wp_region_ext (by kernel_rfl) (by kernel_rfl) (fun f' hf hs => ?_)
    have g5 := fun q => ((hf q).box hbx).1
    clear hf hs
    repeat (go_big_quiet_step (fail))
    refine wpQuiet_nil ?_
    intro W1 hW1
    clear g5
    go_wp2_with fail
    refine wp_region_ext (by kernel_rfl) (by kernel_rfl) (fun f' hf hs => ?_)
    have g5 := fun q => ((hW1.trans (hf q)).box hbx).1
    have g1 := fun q => (hx0.trans (hW1.trans (hf q))).cell c0
    clear hf hs
    repeat (go_big_quiet_step (fail))
    refine wpQuiet_nil ?_
    intro W2 hW2
    clear g5 g1
    have hx2 : Ext w W2 := hx0.trans (hW1.trans hW2)
    have hb2 : W2.heap[w.heap.size]? = some (.cells #[.int .i64 pl, .int .i64 gi, .int .i64 ge, .int .i64 U, .int .i64 lo, .int .i64 hi, .int .i64 fr, .int .i64 to] 81 (0, 0)) := (hW1.trans hW2).heap hbx
    have Hb2 := Lib.hid hb2
    have Hx2 := Lib.hid hx2
    have hwb : w.heap.size ≠ b := by omega
    have hbw : b ≠ w.heap.size := by omega
    obtain ⟨_, _, kk1, kk2, cf2⟩ := (Hh.out.ext hx2).get gi hg1
    clear kk1 kk2
    have c0' := hx2.cell c0
    have c1' := hx2.cell c1
    clear hW1 hW2 hx0 hbx hx2 hb2 cf c0 c1 e0 e1
    go_wp2_with fail
    refine wp_region_tree (.take [0, 1, 2, 3, 4, 6, 7, 8, 9, 11, 12, 13, 15, 16, 17, 18] (.two 5 (.take [10] (.one 14 (.take [19, 20, 21] (.one 22 (.take [23, 24] (.one 25 .done)))))) 14 (.take [19] (.one 5 (.take [10, 20, 21] (.one 22 (.take [23, 24] (.one 25 .done)))))))) (Only b W2) _ (by kernel_rfl) (by kernel_rfl) rfl (Only.refl _ _).drew ?_
    intro ι _ f hf hs
    have f9 := fun q => ((hf q).box Hb2.out hwb).1
    have HS := Lib.hid hs
    clear hf hs
    simp only [treeOf, oneOp, twoOp, opsOf, consOp, List.getElem?_toArray, List.getElem?_cons_succ, List.getElem?_cons_zero]
    refine wpOT_take ?_
    repeat (go_big_quiet_step (fail))
    refine wpQuiet_nil ?_
    clear f9
    refine wpOT_both ?_
    apply join_same
    · intro G
      go_wp2_with fail
      refine ⟨HS.out _ (Only.refl _ _).drew, ?_⟩
      refine wpOT_take ?_
      repeat (go_big_quiet_step (fail))
      refine wpQuiet_nil ?_
      refine wpOT_one ?_
      go_wp2_with fail
      refine ⟨HS.out _ (Only.refl _ _).drew, ?_⟩
      refine wpOT_take ?_
      repeat (go_big_quiet_step (fail))
      refine wpQuiet_nil ?_
      refine wpOT_one ?_
      go_wp2_with fail
      refine ⟨HS.out _ ((Only.refl b W2).setCell (x := ⟨b, gi * 2, none⟩) (.inl rfl) _).drew, ?_⟩
      refine wpOT_take ?_
      repeat (go_big_quiet_step (fail))
      refine wpQuiet_nil ?_
      refine wpOT_one ?_
      go_wp2_with fail
      refine ⟨HS.out _ (((Only.refl b W2).setCell (x := ⟨b, gi * 2, none⟩) (.inl rfl) _).setCell (x := ⟨b, gi * 2 + 1, none⟩) (.inl rfl) _).drew, ?_⟩
      refine wpOT_done ?_
      exact G
    · intro G
      go_wp2_with fail
      refine ⟨HS.out _ (Only.refl _ _).drew, ?_⟩
      refine wpOT_take ?_
      repeat (go_big_quiet_step (fail))
      refine wpQuiet_nil ?_
      refine wpOT_one ?_
      go_wp2_with fail
      refine ⟨HS.out _ (Only.refl _ _).drew, ?_⟩
      refine wpOT_take ?_
      repeat (go_big_quiet_step (fail))
      refine wpQuiet_nil ?_
      refine wpOT_one ?_
      go_wp2_with fail
      refine ⟨HS.out _ ((Only.refl b W2).setCell (x := ⟨b, gi * 2, none⟩) (.inl rfl) _).drew, ?_⟩
      refine wpOT_take ?_
      repeat (go_big_quiet_step (fail))
      refine wpQuiet_nil ?_
      refine wpOT_one ?_
      go_wp2_with fail
      refine ⟨HS.out _ (((Only.refl b W2).setCell (x := ⟨b, gi * 2, none⟩) (.inl rfl) _).setCell (x := ⟨b, gi * 2 + 1, none⟩) (.inl rfl) _).drew, ?_⟩
      refine wpOT_done ?_
      exact G
    clear HS
    have hx3 : Only b W2 ((W2.setCell ⟨b, gi * 2, none⟩ (.int .i64 (sl - P))).setCell ⟨b, gi * 2 + 1, none⟩ (.int .i64 (sh - P))).drew := (((Only.refl b W2).setCell (x := ⟨b, gi * 2, none⟩) (.inl rfl) _).setCell (x := ⟨b, gi * 2 + 1, none⟩) (.inl rfl) _).drew
    have hh3 : HeldAt ((W2.setCell ⟨b, gi * 2, none⟩ (.int .i64 (sl - P))).setCell ⟨b, gi * 2 + 1, none⟩ (.int .i64 (sh - P))).drew b (held.set gi ⟨sl - P, sh - P⟩) := ((Hh.out.ext Hx2.out).set Hs.out (sl - P) (sh - P)).same rfl
    generalize ((W2.setCell ⟨b, gi * 2, none⟩ (.int .i64 (sl - P))).setCell ⟨b, gi * 2 + 1, none⟩ (.int .i64 (sh - P))).drew = W3 at *
    obtain ⟨u', hu', e0', e1', cf3⟩ := hh3.get ge hg2
    rw [List.getElem?_set, if_neg hne] at hu'
    have hu2 := Hu.out
    rw [hu2] at hu'
    cases hu'
    simp only at e0' e1'
    have Hh3 := Lib.hid hh3
    have Hx3 := Lib.hid hx3
    clear hu2 hh3 hx3 cf2 c0' c1'
    go_wp2_with fail
    refine wp_region_tree (.take [0, 1, 2, 3, 4, 6, 7, 8, 9, 10, 12, 13, 14, 16, 17, 18, 19, 20] (.two 5 (.take [11] (.one 15 (.take [21, 22, 23] (.one 24 (.take [25, 26] (.one 27 .done)))))) 15 (.take [21] (.one 5 (.take [11, 22, 23] (.one 24 (.take [25, 26] (.one 27 .done)))))))) (Only b W3) _ (by kernel_rfl) (by kernel_rfl) rfl (Only.refl _ _).drew ?_
    intro ι _ f hf hs
    have f9 := fun q => ((Hx3.out.trans (hf q)).box Hb2.out hwb).1
    have HS := Lib.hid hs
    clear hf hs
    simp only [treeOf, oneOp, twoOp, opsOf, consOp, List.getElem?_toArray, List.getElem?_cons_succ, List.getElem?_cons_zero]
    refine wpOT_take ?_
    repeat (go_big_quiet_step (fail))
    refine wpQuiet_nil ?_
    clear f9
    refine wpOT_both ?_
    apply join_same
    · intro G
      go_wp2_with fail
      refine ⟨HS.out _ (Only.refl _ _).drew, ?_⟩
      refine wpOT_take ?_
      repeat (go_big_quiet_step (fail))
      refine wpQuiet_nil ?_
      refine wpOT_one ?_
      go_wp2_with fail
      refine ⟨HS.out _ (Only.refl _ _).drew, ?_⟩
      refine wpOT_take ?_
      repeat (go_big_quiet_step (fail))
      refine wpQuiet_nil ?_
      refine wpOT_one ?_
      go_wp2_with fail
      refine ⟨HS.out _ ((Only.refl b W3).setCell (x := ⟨b, ge * 2, none⟩) (.inl rfl) _).drew, ?_⟩
      refine wpOT_take ?_
      repeat (go_big_quiet_step (fail))
      refine wpQuiet_nil ?_
      refine wpOT_one ?_
      go_wp2_with fail
      refine ⟨HS.out _ (((Only.refl b W3).setCell (x := ⟨b, ge * 2, none⟩) (.inl rfl) _).setCell (x := ⟨b, ge * 2 + 1, none⟩) (.inl rfl) _).drew, ?_⟩
      refine wpOT_done ?_
      exact G
    · intro G
      go_wp2_with fail
      refine ⟨HS.out _ (Only.refl _ _).drew, ?_⟩
      refine wpOT_take ?_
      repeat (go_big_quiet_step (fail))
      refine wpQuiet_nil ?_
      refine wpOT_one ?_
      go_wp2_with fail
      refine ⟨HS.out _ (Only.refl _ _).drew, ?_⟩
      refine wpOT_take ?_
      repeat (go_big_quiet_step (fail))
      refine wpQuiet_nil ?_
      refine wpOT_one ?_
      go_wp2_with fail
      refine ⟨HS.out _ ((Only.refl b W3).setCell (x := ⟨b, ge * 2, none⟩) (.inl rfl) _).drew, ?_⟩
      refine wpOT_take ?_
      repeat (go_big_quiet_step (fail))
      refine wpQuiet_nil ?_
      refine wpOT_one ?_
      go_wp2_with fail
      refine ⟨HS.out _ (((Only.refl b W3).setCell (x := ⟨b, ge * 2, none⟩) (.inl rfl) _).setCell (x := ⟨b, ge * 2 + 1, none⟩) (.inl rfl) _).drew, ?_⟩
      refine wpOT_done ?_
      exact G
    clear HS
    have hx4 : Only b W3 ((W3.setCell ⟨b, ge * 2, none⟩ (.int .i64 (ul + L))).setCell ⟨b, ge * 2 + 1, none⟩ (.int .i64 (uh + H))).drew := (((Only.refl b W3).setCell (x := ⟨b, ge * 2, none⟩) (.inl rfl) _).setCell (x := ⟨b, ge * 2 + 1, none⟩) (.inl rfl) _).drew
    have hh4 : HeldAt ((W3.setCell ⟨b, ge * 2, none⟩ (.int .i64 (ul + L))).setCell ⟨b, ge * 2 + 1, none⟩ (.int .i64 (uh + H))).drew b ((held.set gi ⟨sl - P, sh - P⟩).set ge ⟨ul + L, uh + H⟩) := (Hh3.out.set (by rw [List.getElem?_set, if_neg hne]; exact Hu.out) (ul + L) (uh + H)).same rfl
    generalize ((W3.setCell ⟨b, ge * 2, none⟩ (.int .i64 (ul + L))).setCell ⟨b, ge * 2 + 1, none⟩ (.int .i64 (uh + H))).drew = W4 at *
    obtain ⟨v, hv, v0, v1, _⟩ := hh4.get ge hg2
    rw [List.getElem?_set, if_pos rfl, if_pos (by have := Hh.out.1; simp; omega)] at hv
    cases hv
    simp only at v0 v1
    have Hh4 := Lib.hid hh4
    have Hx4 := Lib.hid hx4
    clear hh4 hx4 e0' e1' cf3 v0
    by_cases hfu : 1000000000000000 < uh + H
    · have hfB : decide (1000000000000000 < uh + H) = true := by simpa using hfu
      obtain rfl : C = 9 := HC1.out hfu
      clear hfu HC1 HC2
      go_wp2_with fail
      go_ret
      first
        | exact ⟨rfl, (Hx2.out.only b).trans (Hx3.out.trans Hx4.out)⟩
        | exact ⟨rfl, (Hx2.out.only b).trans (Hx3.out.trans Hx4.out), fun h => by cases h⟩
    · have hfB : decide (1000000000000000 < uh + H) = false := by simpa using hfu
      obtain rfl : C = 0 := HC2.out (by omega)
      clear hfu HC1 HC2
      go_wp2_with fail
      go_ret
      first
        | exact ⟨rfl, (Hx2.out.only b).trans (Hx3.out.trans Hx4.out), Hh4.out⟩
        | exact ⟨rfl, (Hx2.out.only b).trans (Hx3.out.trans Hx4.out), fun _ => Hh4.out⟩
end Go.Proofs.Ytkbhmajcddmhnaa
