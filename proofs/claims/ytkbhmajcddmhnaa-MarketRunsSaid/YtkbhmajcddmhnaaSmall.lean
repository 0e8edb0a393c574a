/- Contracts of the small functions of layer 6: whether numbers, spans, offers and fairs are valid. -/
import Derived.Test.YtkbhmajcddmhnaaEvery
import Derived.Shelf.Abstract
namespace Go.Proofs.Ytkbhmajcddmhnaa
open Go.RowKit
set_option linter.unusedVariables false

theorem in_any (n lo hi : Int) (w : World) :
    Calls Try.prog 51 #[.int .i64 n, .int .i64 lo, .int .i64 hi] w fun e w' => e = .returned (.bool (inB n lo hi)) ∧ w = w' := by
  go_enter Try.func51, Try.ntmps51
  go_wp2
  all_goals go_ret
  all_goals (refine ⟨ret_bool ?_, rfl⟩; simp [inB]; omega)
theorem within_any (n lo hi : Int) (w : World) :
    Calls Try.prog 50 #[.int .i64 n, .int .i64 lo, .int .i64 hi] w fun e w' => e = .returned (.bool (inB n lo hi)) ∧ w = w' := by
  go_enter Try.func50, Try.ntmps50
  go_wp2
  all_goals go_ret
  all_goals (refine ⟨ret_bool ?_, rfl⟩; simp [inB]; omega)
theorem good_any (n : Int) (w : World) :
    Calls Try.prog 48 #[.int .i64 n] w fun e w' => e = .returned (.bool (inB n 0 4)) ∧ w = w' := by
  go_enter Try.func48, Try.ntmps48
  go_wp2_with (go_at_call 51; refine (in_any _ _ _ _).mono ?_; rintro e w' ⟨rfl, rfl⟩)
  go_ret
  exact ⟨rfl, rfl⟩
theorem proper_any (a b lo hi : Int) (w : World) :
    Calls Try.prog 88 #[.agg #[.int .i64 a, .int .i64 b], .int .i64 lo, .int .i64 hi] w fun e w' => e = .returned (.bool (properB a b lo hi)) ∧ Ext w w' := by
  go_enter Try.func88, Try.ntmps88
  go_wp2
  all_goals go_ret
  all_goals (refine ⟨ret_bool ?_, (Ext.refl _).alloc _⟩; simp [properB]; omega)
theorem ordered_any (a b lo hi : Int) (w : World) :
    Calls Try.prog 70 #[.agg #[.int .i64 a, .int .i64 b], .int .i64 lo, .int .i64 hi] w fun e w' => e = .returned (.bool (properB a b lo hi)) ∧ Ext w w' := by
  go_enter Try.func70, Try.ntmps70
  go_wp2
  all_goals go_ret
  all_goals (refine ⟨ret_bool ?_, (Ext.refl _).alloc _⟩; simp [properB]; omega)

set_option maxHeartbeats 1000000 in
theorem valid_any (o : Offer) (w : World) :
    Calls Try.prog 84 #[o.val] w fun e w' => e = .returned (.bool o.valid) ∧ Ext w w' := by
  obtain ⟨p, g, t, u, l, h, f, z⟩ := o
  unfold Offer.val
  go_enter Try.func84, Try.ntmps84
  go_wp2_with (first | (go_at_call 51; refine (in_any _ _ _ _).mono ?_; rintro e w' ⟨rfl, rfl⟩) | (go_at_call 48; refine (good_any _ _).mono ?_; rintro e w' ⟨rfl, rfl⟩) | (go_at_call 88; refine (proper_any _ _ _ _ _).mono ?_; rintro e w' ⟨rfl, hb⟩; obtain ⟨hc, hf, hz⟩ := hb.facts))
  all_goals go_ret
  all_goals refine ⟨ret_bool ?_, by with_reducible (repeat (first | assumption | exact Ext.refl _ | refine Ext.alloc ?_ _ | refine Ext.drew ?_ | (refine Ext.trans ?_ (by assumption))))⟩
  all_goals simp [Offer.valid, *]

theorem open_any (o : Offer) (place day : Int) (w : World) :
    Calls Try.prog 56 #[o.val, .int .i64 place, .int .i64 day] w fun e w' => e = .returned (.bool (o.place == place && inB day o.from_ o.to)) ∧ Ext w w' := by
  obtain ⟨p, g, t, u, l, h, f, z⟩ := o
  unfold Offer.val
  go_enter Try.func56, Try.ntmps56
  go_wp2_with (go_at_call 50; refine (within_any _ _ _ _).mono ?_; rintro e w' ⟨rfl, rfl⟩)
  all_goals go_ret
  all_goals refine ⟨ret_bool ?_, by with_reducible (repeat (first | assumption | exact Ext.refl _ | refine Ext.alloc ?_ _ | refine Ext.drew ?_ | (refine Ext.trans ?_ (by assumption))))⟩
  all_goals simp_all

theorem part_any (s : Span) (w : World) :
    Calls Try.prog 87 #[s.val] w fun e w' => e = .returned (.bool s.part) ∧ Ext w w' := by
  obtain ⟨l, h⟩ := s
  unfold Span.val
  go_enter Try.func87, Try.ntmps87
  go_wp2_with (go_at_call 88; refine (proper_any _ _ _ _ _).mono ?_; rintro e w' ⟨rfl, hb⟩)
  go_ret
  exact ⟨rfl, by with_reducible (repeat (first | assumption | exact Ext.refl _ | refine Ext.alloc ?_ _ | refine Ext.drew ?_ | (refine Ext.trans ?_ (by assumption))))⟩

theorem fair_any (f : Fair) (a : Option Addr) (n c : Nat) (w : World) (hn : n ≤ c) (hm : c ≤ maxLen) (hs : SpansAt w a n f.keeps) :
    Calls Try.prog 73 #[.agg #[.int .i64 f.place, .int .i64 f.day, .slice a n c]] w fun e w' => e = .returned (.bool f.valid) ∧ Ext w w' := by
  have hl := hs.1
  obtain ⟨p, d, k⟩ := f
  have Hl := Lib.hid hl
  clear hl
  have hev : n ≤ 1000000000 → ∀ W, Ext w W → Calls Try.prog 89 #[.slice a n c, .func (.func 87) #[] #[]] W fun e w' => e = .returned (.bool (k.all Span.part)) ∧ Ext W w' :=
    fun hn' W hW => every_span 87 (enters_of Try.func87 (by kernel_rfl) rfl) a n c k Span.part W (hs.ext hW) hn' (fun o _ W' _ => part_any o W')
  have Hev := Lib.hid hev
  clear hev hs
  unfold maxLen at hm
  by_cases h5 : n = 5
  · subst h5
    go_enter Try.func73, Try.ntmps73
    go_wp2_with (first | (go_at_call 51; refine (in_any _ _ _ _).mono ?_; rintro e w' ⟨rfl, rfl⟩) | (go_at_call 89; refine (Hev.out (by omega) _ ((Ext.refl _).alloc _)).mono ?_; rintro e w' ⟨rfl, hb⟩))
    all_goals go_ret
    all_goals refine ⟨ret_bool ?_, by with_reducible (repeat (first | assumption | exact Ext.refl _ | refine Ext.alloc ?_ _ | refine Ext.drew ?_ | (refine Ext.trans ?_ (by assumption))))⟩
    all_goals (have := Hl.out; simp_all [Fair.valid])
  · have h5' : ((n : Int) == 5) = false := by simp; omega
    go_enter Try.func73, Try.ntmps73
    go_wp2_with (go_at_call 51; refine (in_any _ _ _ _).mono ?_; rintro e w' ⟨rfl, rfl⟩)
    all_goals go_ret
    all_goals refine ⟨ret_bool ?_, by with_reducible (repeat (first | assumption | exact Ext.refl _ | refine Ext.alloc ?_ _ | refine Ext.drew ?_ | (refine Ext.trans ?_ (by assumption))))⟩
    all_goals (have := Hl.out; simp_all [Fair.valid])
end Go.Proofs.Ytkbhmajcddmhnaa
