/- Contracts: whether days are valid (checkDays, check). -/
import Derived.Test.YtcoelhpmkhimpaaGreatDoorCamC
import Derived.Test.YtcoelhpmkhimpaaGreatDoorData
namespace Go.Proofs.YtcoelhpmkhimpaaGreatDoor
open Go.RowKit
set_option linter.unusedVariables false
set_option linter.unusedSimpArgs false
def daysErr (l : List March) : Int := if l.all dayOk then 0 else 12
theorem days_bad {l : List March} {k : Nat} {x : March} (h : l[k]? = some x) (hx : dayOk x = false) : daysErr l = 12 := by
  unfold daysErr
  rw [if_neg]
  intro e
  have := List.all_eq_true.1 e x (List.mem_of_getElem? h)
  rw [hx] at this
  cases this
theorem days_good {l : List March} {n : Nat} (hl : l.length = n) (h : ∀ (j : Nat) (y : March), j < n → l[j]? = some y → dayOk y = true) : daysErr l = 0 := by
  unfold daysErr
  rw [if_pos]
  rw [List.all_eq_true]
  intro x hx
  obtain ⟨j, hj⟩ := List.mem_iff_getElem?.1 hx
  exact h j x (by have := (List.getElem?_eq_some_iff.1 hj).1; omega) hj
set_option maxHeartbeats 8000000 in
set_option maxRecDepth 100000 in
theorem checkDays_any (a : Option Addr) (n cap : Nat) (l : List March) (w : World) (hl : DaysAt w a n l) (hn : n ≤ 1000000000) : Calls Tryz.prog 71 #[.slice a n cap] w fun e w' => e = .returned (.int .i64 (daysErr l)) ∧ Ext w w' := by
  have hbad := fun (k : Nat) (x : March) => @days_bad l k x
  have hgood := days_good hl.1
  obtain ⟨R, hR⟩ : ∃ R, daysErr l = R := ⟨_, rfl⟩
  rw [hR] at hbad hgood ⊢
  clear hR
  have Hl := Lib.hid hl
  have Hbad := Lib.hid hbad
  have Hgood := Lib.hid hgood
  clear hl hbad hgood
  go_enter Tryz.func71, Tryz.ntmps71
  go_wp2_with fail
  go_loopw [7] (fun i wr => ∃ k : Nat, k ≤ n ∧ i = .int .i64 k ∧ Ext w wr ∧ ∀ (j : Nat) (y : March), j < k → l[j]? = some y → dayOk y = true) (fun i _ => n - (intOf i).toNat)
  case atStart => exact ⟨0, Nat.zero_le _, rfl, Ext.refl _, fun j y h => by omega⟩
  case round =>
    obtain ⟨k, hk, rfl, hx, hall⟩ := hrel
    have Hall := Lib.hid hall
    clear hall
    by_cases hlt : k < n
    · obtain ⟨b, off, x, rfl, hxk, hb, c0, c1, c2, c3, c4, c5, c6, c7⟩ := (Hl.out.ext hx).get k hlt
      have hbd := Hbad.out k x hxk
      have hnext : dayOk x = true → ∀ (j : Nat) (y : March), j < k + 1 → l[j]? = some y → dayOk y = true := fun hd j y hj hy => by
        rcases Nat.lt_or_ge j k with h | h
        · exact Hall.out j y h hy
        · have e : j = k := by omega
          subst e
          rw [hxk] at hy
          cases hy
          exact hd
      obtain ⟨hh, ll, ⟨t0, t1⟩, ⟨g0, g1⟩, ⟨d0, d1⟩⟩ := x
      simp only at c0 c1 c2 c3 c4 c5 c6 c7
      obtain ⟨P1, e1⟩ : ∃ P, inB hh 0 24 = P := ⟨_, rfl⟩
      obtain ⟨P2, e2⟩ : ∃ P, inB ll 0 1000000 = P := ⟨_, rfl⟩
      obtain ⟨P3, e3⟩ : ∃ P, spanOk ⟨t0, t1⟩ 0 60 = P := ⟨_, rfl⟩
      obtain ⟨P4, e4⟩ : ∃ P, (spanOk ⟨g0, g1⟩ 0 1000000 && spanOk ⟨d0, d1⟩ 0 1000000) = P := ⟨_, rfl⟩
      have hv : dayOk ⟨hh, ll, ⟨t0, t1⟩, ⟨g0, g1⟩, ⟨d0, d1⟩⟩ = (P1 && P2 && P3 && P4) := by
        unfold dayOk
        simp only
        rw [e1, e2, e3, ← e4]
        simp only [Bool.and_assoc]
      rw [hv] at hbd hnext
      have hbx := heap_alloc_new wr (.cells #[.int .i64 hh, .int .i64 ll, .int .i64 t0, .int .i64 t1, .int .i64 g0, .int .i64 g1, .int .i64 d0, .int .i64 d1] 54)
      have hxa : Ext w (wr.alloc (.cells #[.int .i64 hh, .int .i64 ll, .int .i64 t0, .int .i64 t1, .int .i64 g0, .int .i64 g1, .int .i64 d0, .int .i64 d1] 54)) := hx.alloc _
      obtain ⟨f0, _⟩ := (Ext.refl _).box hbx
      have E1 := Lib.hid e1
      have E2 := Lib.hid e2
      have E3 := Lib.hid e3
      have E4 := Lib.hid e4
      have Hbd := Lib.hid hbd
      have Hnext := Lib.hid hnext
      clear e1 e2 e3 e4 hbd hnext
      clear hxk hv hx
      have gg1 := trivial
      cases P1
      rotate_left
      cases P2
      rotate_left
      cases P3
      rotate_left
      cases P4
      rotate_left
      · have hnx := Hnext.out rfl
        have Hnx := Lib.hid hnx
        clear hnx
        go_wp2_with (first | (go_at_call 98; refine (fromC1 (alloc_at _ _ _ (by simp)) (by first | exact E1.out | exact E2.out)).mono ?_; rintro e w1 ⟨rfl, hx1⟩; replace hbx := hx1.heap (((Ext.refl _).alloc _).heap hbx); replace hxa := (hxa.alloc _).trans hx1; clear hx1 f0; obtain ⟨f0, _⟩ := (Ext.refl _).box hbx) | (go_at_call 68; first | (have q := gg1; clear q gg1; refine (ordC1 (alloc_at _ _ _ (by simp)) E3.out).mono ?_; rintro e w1 ⟨rfl, hx1⟩; replace hbx := hx1.heap (((Ext.refl _).alloc _).heap hbx); replace hxa := (hxa.alloc _).trans hx1; clear hx1 f0; obtain ⟨f0, _⟩ := (Ext.refl _).box hbx) | (refine (ordC2 (alloc_at _ _ _ (by simp)) E4.out).mono ?_; rintro e w1 ⟨rfl, hx1⟩; replace hbx := hx1.heap (((Ext.refl _).alloc _).heap hbx); replace hxa := (hxa.alloc _).trans hx1; clear hx1 f0; obtain ⟨f0, _⟩ := (Ext.refl _).box hbx)))
        go_roundw
        case rel => exact ⟨k + 1, by omega, by go_num, hxa, Hnx.out⟩
        case measure => simp [intOf]; omega
      all_goals
        have hR := Hbd.out rfl
        subst hR
        go_wp2_with (first | (go_at_call 98; refine (fromC1 (alloc_at _ _ _ (by simp)) (by first | exact E1.out | exact E2.out)).mono ?_; rintro e w1 ⟨rfl, hx1⟩; replace hbx := hx1.heap (((Ext.refl _).alloc _).heap hbx); replace hxa := (hxa.alloc _).trans hx1; clear hx1 f0; obtain ⟨f0, _⟩ := (Ext.refl _).box hbx) | (go_at_call 68; first | (have q := gg1; clear q gg1; refine (ordC1 (alloc_at _ _ _ (by simp)) E3.out).mono ?_; rintro e w1 ⟨rfl, hx1⟩; replace hbx := hx1.heap (((Ext.refl _).alloc _).heap hbx); replace hxa := (hxa.alloc _).trans hx1; clear hx1 f0; obtain ⟨f0, _⟩ := (Ext.refl _).box hbx) | (refine (ordC2 (alloc_at _ _ _ (by simp)) E4.out).mono ?_; rintro e w1 ⟨rfl, hx1⟩; replace hbx := hx1.heap (((Ext.refl _).alloc _).heap hbx); replace hxa := (hxa.alloc _).trans hx1; clear hx1 f0; obtain ⟨f0, _⟩ := (Ext.refl _).box hbx)))
        go_ret
        exact ⟨rfl, hxa⟩
    · have hR := Hgood.out (fun j y hj hy => Hall.out j y (by omega) hy)
      subst hR
      go_wp2_with fail
      go_ret
      exact ⟨rfl, hx⟩
/-- the error of an animal and of days -/
def askDays (b : Breed) (c : Camel) (l : List March) : Int := if camelErr b c ≠ 0 then camelErr b c else if 60 < l.length then 4 else daysErr l
set_option maxHeartbeats 4000000 in
set_option maxRecDepth 100000 in
theorem check_any (s : Breed) (c : Camel) (a : Option Addr) (n cap : Nat) (l : List March) (w : World) (hl : DaysAt w a n l) (hn : n ≤ 1000000000) : Calls Tryz.prog 40 #[s.val, c.val, .slice a n cap] w fun e w' => e = .returned (.int .i64 (askDays s c l)) ∧ Ext w w' := by
  have hcc := fun W => checkCamel_any s c W
  have hcd := fun W (hW : Ext w W) => checkDays_any a n cap l W (hl.ext hW) hn
  have hv : askDays s c l = if camelErr s c ≠ 0 then camelErr s c else if 60 < n then 4 else daysErr l := by unfold askDays; rw [hl.1]
  rw [hv]
  clear hv hl
  obtain ⟨K, hK⟩ : ∃ K, camelErr s c = K := ⟨_, rfl⟩
  obtain ⟨D, hD⟩ : ∃ D, daysErr l = D := ⟨_, rfl⟩
  rw [hK] at hcc ⊢
  rw [hD] at hcd ⊢
  clear hK hD
  obtain ⟨fu, fe, ⟨r0, r1⟩, ⟨h0, h1⟩, ⟨t0, t1⟩, ⟨b0, b1⟩, ⟨u0, u1⟩, ⟨m0, m1⟩, hl, ⟨s0, s1⟩⟩ := s
  obtain ⟨⟨w0, w1⟩, ⟨k0, k1⟩, ⟨o0, o1⟩, mk⟩ := c
  unfold Breed.val Camel.val at *
  simp only at *
  have Hcc := Lib.hid hcc
  have Hcd := Lib.hid hcd
  clear hcc hcd
  by_cases hk : K = 0
  · subst hk
    rw [if_neg (by simp)]
    by_cases h60 : 60 < n
    · rw [if_pos h60]
      have h60B : decide ((60 : Int) < (n : Int)) = true := decide_eq_true (by omega)
      have h60B' : decide (60 < n) = true := decide_eq_true h60
      go_enter Tryz.func40, Tryz.ntmps40
      go_wp2_with (go_at_call 37; refine (Hcc.out _).mono ?_; rintro e w9 ⟨rfl, hx1⟩)
      go_ret
      exact ⟨rfl, (((Ext.refl _).alloc _).alloc _).trans hx1⟩
    · rw [if_neg h60]
      have h60B : decide ((60 : Int) < (n : Int)) = false := decide_eq_false (by omega)
      have h60B' : decide (60 < n) = false := decide_eq_false h60
      go_enter Tryz.func40, Tryz.ntmps40
      go_wp2_with (first | (go_at_call 37; refine (Hcc.out _).mono ?_; rintro e w9 ⟨rfl, hx1⟩) | (go_at_call 71; refine (Hcd.out _ ((((Ext.refl _).alloc _).alloc _).trans hx1)).mono ?_; rintro e w8 ⟨rfl, hx2⟩))
      go_ret
      exact ⟨rfl, ((((Ext.refl _).alloc _).alloc _).trans hx1).trans hx2⟩
  · rw [if_pos hk]
    have hkB : (K != 0) = true := by simpa using hk
    go_enter Tryz.func40, Tryz.ntmps40
    go_wp2_with (go_at_call 37; refine (Hcc.out _).mono ?_; rintro e w9 ⟨rfl, hx1⟩)
    go_ret
    exact ⟨rfl, (((Ext.refl _).alloc _).alloc _).trans hx1⟩
end Go.Proofs.YtcoelhpmkhimpaaGreatDoor
