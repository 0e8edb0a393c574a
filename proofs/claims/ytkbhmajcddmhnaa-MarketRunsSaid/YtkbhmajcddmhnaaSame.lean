/- Contracts of the reference's comparisons: equal lists give true. -/
import Derived.Test.YtkbhmajcddmhnaaRunPl
namespace Go.Proofs.Ytkbhmajcddmhnaa
open Go.RowKit
set_option linter.unusedVariables false

set_option maxHeartbeats 1000000 in
theorem same_ints (a b : Option Addr) (n ca cb : Nat) (l : List Int) (w : World) (ha : IntsAt .i64 w a n l) (hb : IntsAt .i64 w b n l) (hn : n ≤ 1000000) :
    Calls Try.prog 27 #[.slice a n ca, .slice b n cb] w fun e w' => e = .returned (.bool true) ∧ Ext w w' := by
  have Ha := Lib.hid ha
  have Hb := Lib.hid hb
  clear ha hb
  go_enter Try.func27, Try.ntmps27
  go_wp2_with fail
  go_loopw [5] (fun i wr => ∃ k : Nat, k ≤ n ∧ i = .int .i64 k ∧ Ext w wr) (fun i _ => n - (intOf i).toNat)
  case atStart => exact ⟨0, Nat.zero_le _, rfl, Ext.refl _⟩
  case round =>
    obtain ⟨k, hk, rfl, hx⟩ := hrel
    by_cases hlt : k < n
    · obtain ⟨ba, oa, x, rfl, hx1, hba, e0⟩ := (Ha.out.ext hx).get k hlt
      obtain ⟨bb, ob, y, rfl, hx2, hbb, d0⟩ := (Hb.out.ext hx).get k hlt
      obtain rfl : x = y := by rw [hx1] at hx2; cases hx2; rfl
      have hlt' : decide ((k : Int) < (n : Int)) = true := by simp; omega
      clear hx1 hx2
      go_wp2_with fail
      go_quiet (fail)
      go_wp2_with fail
      go_roundw
      case rel => exact ⟨k + 1, by omega, by go_num, hx.drewN _⟩
      case measure => simp [intOf]; omega
    · have hlt' : decide ((k : Int) < (n : Int)) = false := by simp; omega
      go_wp2_with fail
      go_ret
      exact ⟨rfl, hx⟩

set_option maxHeartbeats 1000000 in
theorem same_spans (a b : Option Addr) (n ca cb : Nat) (l : List Span) (w : World) (ha : SpansAt w a n l) (hb : SpansAt w b n l) (hn : n ≤ 1000000) :
    Calls Try.prog 21 #[.slice a n ca, .slice b n cb] w fun e w' => e = .returned (.bool true) ∧ Ext w w' := by
  have Ha := Lib.hid ha
  have Hb := Lib.hid hb
  clear ha hb
  go_enter Try.func21, Try.ntmps21
  go_wp2_with fail
  go_loopw [5] (fun i wr => ∃ k : Nat, k ≤ n ∧ i = .int .i64 k ∧ Ext w wr) (fun i _ => n - (intOf i).toNat)
  case atStart => exact ⟨0, Nat.zero_le _, rfl, Ext.refl _⟩
  case round =>
    obtain ⟨k, hk, rfl, hx⟩ := hrel
    by_cases hlt : k < n
    · obtain ⟨ba, oa, x, rfl, hx1, hba, e0, e1⟩ := (Ha.out.ext hx).get k hlt
      obtain ⟨bb, ob, y, rfl, hx2, hbb, d0, d1⟩ := (Hb.out.ext hx).get k hlt
      obtain rfl : x = y := by rw [hx1] at hx2; cases hx2; rfl
      have hlt' : decide ((k : Int) < (n : Int)) = true := by simp; omega
      clear hx1 hx2
      go_wp2_with fail
      go_quiet (fail)
      go_wp2_with fail
      go_roundw
      case rel => exact ⟨k + 1, by omega, by go_num, hx.drewN _⟩
      case measure => simp [intOf]; omega
    · have hlt' : decide ((k : Int) < (n : Int)) = false := by simp; omega
      go_wp2_with fail
      go_ret
      exact ⟨rfl, hx⟩

set_option maxHeartbeats 1000000 in
theorem same_losses (a b : Option Addr) (n ca cb : Nat) (l : List Loss) (w : World) (ha : LossesAt w a n l) (hb : LossesAt w b n l) (hn : n ≤ 1000000) :
    Calls Try.prog 22 #[.slice a n ca, .slice b n cb] w fun e w' => e = .returned (.bool true) ∧ Ext w w' := by
  have Ha := Lib.hid ha
  have Hb := Lib.hid hb
  clear ha hb
  go_enter Try.func22, Try.ntmps22
  go_wp2_with fail
  go_loopw [5] (fun i wr => ∃ k : Nat, k ≤ n ∧ i = .int .i64 k ∧ Ext w wr) (fun i _ => n - (intOf i).toNat)
  case atStart => exact ⟨0, Nat.zero_le _, rfl, Ext.refl _⟩
  case round =>
    obtain ⟨k, hk, rfl, hx⟩ := hrel
    by_cases hlt : k < n
    · obtain ⟨ba, oa, x, rfl, hx1, hba, e0, e1, e2, e3⟩ := (Ha.out.ext hx).get k hlt
      obtain ⟨bb, ob, y, rfl, hx2, hbb, d0, d1, d2, d3⟩ := (Hb.out.ext hx).get k hlt
      obtain rfl : x = y := by rw [hx1] at hx2; cases hx2; rfl
      have hlt' : decide ((k : Int) < (n : Int)) = true := by simp; omega
      clear hx1 hx2
      go_wp2_with fail
      go_quiet (fail)
      go_wp2_with fail
      go_roundw
      case rel => exact ⟨k + 1, by omega, by go_num, hx.drewN _⟩
      case measure => simp [intOf]; omega
    · have hlt' : decide ((k : Int) < (n : Int)) = false := by simp; omega
      go_wp2_with fail
      go_ret
      exact ⟨rfl, hx⟩

set_option maxHeartbeats 1000000 in
theorem same_offers (a b : Option Addr) (n ca cb : Nat) (l : List Offer) (w : World) (ha : OffersAt w a n l) (hb : OffersAt w b n l) (hn : n ≤ 1000000) :
    Calls Try.prog 25 #[.slice a n ca, .slice b n cb] w fun e w' => e = .returned (.bool true) ∧ Ext w w' := by
  have Ha := Lib.hid ha
  have Hb := Lib.hid hb
  clear ha hb
  go_enter Try.func25, Try.ntmps25
  go_wp2_with fail
  go_loopw [5] (fun i wr => ∃ k : Nat, k ≤ n ∧ i = .int .i64 k ∧ Ext w wr) (fun i _ => n - (intOf i).toNat)
  case atStart => exact ⟨0, Nat.zero_le _, rfl, Ext.refl _⟩
  case round =>
    obtain ⟨k, hk, rfl, hx⟩ := hrel
    by_cases hlt : k < n
    · obtain ⟨ba, oa, x, rfl, hx1, hba, e0, e1, e2, e3, e4, e5, e6, e7⟩ := (Ha.out.ext hx).get k hlt
      obtain ⟨bb, ob, y, rfl, hx2, hbb, d0, d1, d2, d3, d4, d5, d6, d7⟩ := (Hb.out.ext hx).get k hlt
      obtain rfl : x = y := by rw [hx1] at hx2; cases hx2; rfl
      have hlt' : decide ((k : Int) < (n : Int)) = true := by simp; omega
      clear hx1 hx2
      go_wp2_with fail
      go_quiet (fail)
      go_wp2_with fail
      go_roundw
      case rel => exact ⟨k + 1, by omega, by go_num, hx.drewN _⟩
      case measure => simp [intOf]; omega
    · have hlt' : decide ((k : Int) < (n : Int)) = false := by simp; omega
      go_wp2_with fail
      go_ret
      exact ⟨rfl, hx⟩

end Go.Proofs.Ytkbhmajcddmhnaa
