/- Contracts of the small functions of layer 6: whether numbers, spans, offers and fairs are valid. -/
import Derived.Test.YtkbhmajcddmhnaaVEvery
import Derived.Shelf.Abstract
namespace Go.Proofs.Ytkbhmajcddmhnaa
open Go.RowKit
set_option linter.unusedVariables false

theorem in_any (n lo hi : Int) (w : World) :
    Calls Try.prog 51 #[.int .i64 n, .int .i64 lo, .int .i64 hi] w fun e w' => e = .returned (.bool (inB n lo hi)) ∧ w = w' := by
  go_enter Try.func51, Try.ntmps51
  go_wp2
  all_goals go_ret
  all_goals (refine ⟨ret_bool ?_, rfl⟩; simp [inB]; omega)
theorem within_any (n lo hi : Int) (w : World) :
    Calls Try.prog 50 #[.int .i64 n, .int .i64 lo, .int .i64 hi] w fun e w' => e = .returned (.bool (inB n lo hi)) ∧ w = w' := by
  go_enter Try.func50, Try.ntmps50
  go_wp2
  all_goals go_ret
  all_goals (refine ⟨ret_bool ?_, rfl⟩; simp [inB]; omega)
theorem good_any (n : Int) (w : World) :
    Calls Try.prog 48 #[.int .i64 n] w fun e w' => e = .returned (.bool (inB n 0 4)) ∧ w = w' := by
  go_enter Try.func48, Try.ntmps48
  go_wp2_with (go_at_call 51; refine (in_any _ _ _ _).mono ?_; rintro e w' ⟨rfl, rfl⟩)
  go_ret
  exact ⟨rfl, rfl⟩
theorem proper_any (a b lo hi : Int) (w : World) :
    Calls Try.prog 88 #[.agg #[.int .i64 a, .int .i64 b], .int .i64 lo, .int .i64 hi] w fun e w' => e = .returned (.bool (properB a b lo hi)) ∧ Ext w w' := by
  go_enter Try.func88, Try.ntmps88
  go_wp2
  all_goals go_ret
  all_goals (refine ⟨ret_bool ?_, (Ext.refl _).alloc _⟩; simp [properB]; omega)
theorem ordered_any (a b lo hi : Int) (w : World) :
    Calls Try.prog 70 #[.agg #[.int .i64 a, .int .i64 b], .int .i64 lo, .int .i64 hi] w fun e w' => e = .returned (.bool (properB a b lo hi)) ∧ Ext w w' := by
  go_enter Try.func70, Try.ntmps70
  go_wp2
  all_goals go_ret
  all_goals (refine ⟨ret_bool ?_, (Ext.refl _).alloc _⟩; simp [properB]; omega)

set_option maxHeartbeats 1000000 in
theorem valid_any (o : Offer) (w : World) :
    Calls Try.prog 84 #[o.val] w fun e w' => e = .returned (.bool o.valid) ∧ Ext w w' := by
  obtain ⟨p, g, t, u, l, h, f, z⟩ := o
  unfold Offer.val
  go_enter Try.func84, Try.ntmps84
  go_wp2_with (first | (go_at_call 51; refine (in_any _ _ _ _).mono ?_; rintro e w' ⟨rfl, rfl⟩) | (go_at_call 48; refine (good_any _ _).mono ?_; rintro e w' ⟨rfl, rfl⟩) | (go_at_call 88; refine (proper_any _ _ _ _ _).mono ?_; rintro e w' ⟨rfl, hb⟩; obtain ⟨hc, hf, hz⟩ := hb.facts))
  all_goals go_ret
  all_goals refine ⟨ret_bool ?_, by with_reducible (repeat (first | assumption | exact Ext.refl _ | refine Ext.alloc ?_ _ | refine Ext.drew ?_ | (refine Ext.trans ?_ (by assumption))))⟩
  all_goals simp [Offer.valid, *]

theorem open_any (o : Offer) (place day : Int) (w : World) :
    Calls Try.prog 56 #[o.val, .int .i64 place, .int .i64 day] w fun e w' => e = .returned (.bool (o.place == place && inB day o.from_ o.to)) ∧ Ext w w' := by
  obtain ⟨p, g, t, u, l, h, f, z⟩ := o
  unfold Offer.val
  go_enter Try.func56, Try.ntmps56
  go_wp2_with (go_at_call 50; refine (within_any _ _ _ _).mono ?_; rintro e w' ⟨rfl, rfl⟩)
  all_goals go_ret
  all_goals refine ⟨ret_bool ?_, by with_reducible (repeat (first | assumption | exact Ext.refl _ | refine Ext.alloc ?_ _ | refine Ext.drew ?_ | (refine Ext.trans ?_ (by assumption))))⟩
  all_goals simp_all

theorem part_any (s : Span) (w : World) :
    Calls Try.prog 87 #[s.val] w fun e w' => e = .returned (.bool s.part) ∧ Ext w w' := by
  obtain ⟨l, h⟩ := s
  unfold Span.val
  go_enter Try.func87, Try.ntmps87
  go_wp2_with (go_at_call 88; refine (proper_any _ _ _ _ _).mono ?_; rintro e w' ⟨rfl, hb⟩)
  go_ret
  exact ⟨rfl, by with_reducible (repeat (first | assumption | exact Ext.refl _ | refine Ext.alloc ?_ _ | refine Ext.drew ?_ | (refine Ext.trans ?_ (by assumption))))⟩

theorem fair_any (f : Fair) (a : Option Addr) (n c : Nat) (w : World) (hn : n ≤ c) (hm : c ≤ maxLen) (hs : SpansAt w a n f.keeps) :
    Calls Try.prog 73 #[.agg #[.int .i64 f.place, .int .i64 f.day, .slice a n c]] w fun e w' => e = .returned (.bool f.valid) ∧ Ext w w' := by
  have hl := hs.1
  obtain ⟨p, d, k⟩ := f
  have Hl := Lib.hid hl
  clear hl
  have hev : n ≤ 1000000000 → ∀ W, Ext w W → Calls Try.prog 89 #[.slice a n c, .func (.func 87) #[] #[]] W fun e w' => e = .returned (.bool (k.all Span.part)) ∧ Ext W w' :=
    fun hn' W hW => every_span 87 (enters_of Try.func87 (by kernel_rfl) rfl) a n c k Span.part W (hs.ext hW) hn' (fun o _ W' _ => part_any o W')
  have Hev := Lib.hid hev
  clear hev hs
  unfold maxLen at hm
  by_cases h5 : n = 5
  · subst h5
    go_enter Try.func73, Try.ntmps73
    go_wp2_with (first | (go_at_call 51; refine (in_any _ _ _ _).mono ?_; rintro e w' ⟨rfl, rfl⟩) | (go_at_call 89; refine (Hev.out (by omega) _ ((Ext.refl _).alloc _)).mono ?_; rintro e w' ⟨rfl, hb⟩))
    all_goals go_ret
    all_goals refine ⟨ret_bool ?_, by with_reducible (repeat (first | assumption | exact Ext.refl _ | refine Ext.alloc ?_ _ | refine Ext.drew ?_ | (refine Ext.trans ?_ (by assumption))))⟩
    all_goals (have := Hl.out; simp_all [Fair.valid])
  · have h5' : ((n : Int) == 5) = false := by simp; omega
    go_enter Try.func73, Try.ntmps73
    go_wp2_with (go_at_call 51; refine (in_any _ _ _ _).mono ?_; rintro e w' ⟨rfl, rfl⟩)
    all_goals go_ret
    all_goals refine ⟨ret_bool ?_, by with_reducible (repeat (first | assumption | exact Ext.refl _ | refine Ext.alloc ?_ _ | refine Ext.drew ?_ | (refine Ext.trans ?_ (by assumption))))⟩
    all_goals (have := Hl.out; simp_all [Fair.valid])
end Go.Proofs.Ytkbhmajcddmhnaa

/- Contracts: market.travel and what it calls. -/
namespace Go.Proofs.Ytkbhmajcddmhnaa
open Go.RowKit
set_option linter.unusedVariables false

theorem later_any (p1 d1 p2 d2 : Int) (s1 s2 : Value) (h1 : 0 ≤ d1) (h2 : d1 ≤ 100000) (h3 : 0 ≤ d2) (h4 : d2 ≤ 100000) (w : World) (k1 : s1.cells = #[s1]) (k2 : s2.cells = #[s2]) :
    Calls Try.prog 71 #[.agg #[.int .i64 p1, .int .i64 d1, s1], .agg #[.int .i64 p2, .int .i64 d2, s2]] w fun e w' => e = .returned (.int .i64 (d1 - d2)) ∧ Ext w w' := by
  go_enter Try.func71, Try.ntmps71
  go_wp2
  go_ret
  exact ⟨rfl, by with_reducible (repeat (first | assumption | exact Ext.refl _ | refine Ext.alloc ?_ _ | refine Ext.drew ?_ | (refine Ext.trans ?_ (by assumption))))⟩

/-- each day is not before that of the one before -/
def sortedDays : List Fair → Bool
  | a :: b :: r => decide (a.day ≤ b.day) && sortedDays (b :: r)
  | _ => true
theorem sortedDays_iff (l : List Fair) : sortedDays l = true ↔ ∀ (k : Nat) (a b : Fair), l[k]? = some a → l[k+1]? = some b → a.day ≤ b.day := by
  induction l with
  | nil => simp [sortedDays]
  | cons x r ih =>
    cases r with
    | nil => simp [sortedDays]
    | cons y r =>
      simp only [sortedDays, Bool.and_eq_true, decide_eq_true_eq, ih]
      constructor
      · rintro ⟨h1, h2⟩ k a b ha hb
        cases k with
        | zero => simp at ha hb; subst ha hb; exact h1
        | succ k => exact h2 k a b (by simpa using ha) (by simpa using hb)
      · intro h
        exact ⟨h 0 x y rfl rfl, fun k a b ha hb => h (k+1) a b (by simpa using ha) (by simpa using hb)⟩

set_option maxHeartbeats 1000000 in
theorem isSorted_any (a : Option Addr) (n cap : Nat) (l : List Fair) (w : World) (hl : FairsAt w a n l) (hn : n ≤ 1000000000) (hd : ∀ f ∈ l, 0 ≤ f.day ∧ f.day ≤ 100000) :
    Calls Try.prog 74 #[.slice a n cap, .func (.func 71) #[] #[]] w fun e w' => e = .returned (.bool (sortedDays l)) ∧ Ext w w' := by
  have Hl := Lib.hid hl
  have Hd := Lib.hid hd
  clear hl hd
  go_enter Try.func74, Try.ntmps74
  go_wp2_with fail
  go_loopw [5] (fun i5 wr => ∃ k : Nat, k ≤ n ∧ i5 = .int .i64 ((k : Int) - 1) ∧ Ext w wr ∧ ∀ (j : Nat) (a b : Fair), k ≤ j + 1 → l[j]? = some a → l[j+1]? = some b → a.day ≤ b.day) (fun i5 _ => (intOf i5 + 1).toNat)
  case atStart => exact ⟨n, Nat.le_refl _, rfl, Ext.refl _, fun j a b h1 h2 h3 => by have := Hl.out.1; rcases Nat.lt_or_ge (j+1) l.length with h | h; omega; simp [List.getElem?_eq_none h] at h3⟩
  case round =>
    obtain ⟨k, hk, rfl, hx, hall⟩ := hrel
    have Hall := Lib.hid hall
    clear hall
    by_cases hlt : 1 < k
    · obtain ⟨j, rfl⟩ : ∃ j : Nat, k = j + 2 := ⟨k - 2, by omega⟩
      obtain ⟨b, off, x, ka, kn, kc, rfl, hxk, hb, c0, c1, c2, h1, h2, h3⟩ := (Hl.out.ext hx).get (j+1) (by omega)
      obtain ⟨b', off', y, ka', kn', kc', e', hyk, hb', d0, d1, d2, h1', h2', h3'⟩ := (Hl.out.ext hx).get j (by omega)
      cases e'
      have hdx := Hd.out x (List.mem_of_getElem? hxk)
      have hdy := Hd.out y (List.mem_of_getElem? hyk)
      have Hxk := Lib.hid hxk
      have Hyk := Lib.hid hyk
      clear hxk hyk
      obtain ⟨x0, x1⟩ := hdx
      obtain ⟨y0, y1⟩ := hdy
      rw [show ((j + 2 : Nat) : Int) - 1 = ((j + 1 : Nat) : Int) from by omega]
      have hc := fun W => later_any x.place x.day y.place y.day (.slice ka kn kc) (.slice ka' kn' kc') x0 x1 y0 y1 W rfl rfl
      have Hc := Lib.hid hc
      clear hc h3 h3'
      by_cases hle : y.day ≤ x.day
      all_goals
        go_wp2_with fail
        refine wp_region_ext (by kernel_rfl) (by kernel_rfl) (fun f hf hs => ?_)
        have e0 := fun p => (hf p).cell c0
        have e1 := fun p => (hf p).cell c1
        have e2 := fun p => (hf p).cell c2
        have g0 := fun p => (hf p).cell d0
        have g1 := fun p => (hf p).cell d1
        have g2 := fun p => (hf p).cell d2
        have Hf := Lib.hid hf
        have Hs := Lib.hid hs
        clear hf hs
        repeat (go_big_quiet_step ((go_at_call 71; exact Calls.ext_of (Hf.out _) Hs.out (Hc.out _))))
        refine wpQuiet_nil ?_
        intro W1 hW1
        clear e0 e1 e2 g0 g1 g2
        go_wp2_with fail
      · go_roundw
        case rel =>
          refine ⟨j + 1, by omega, by go_num, hx.trans hW1, fun i u v h1 h2 h3 => ?_⟩
          rcases Nat.lt_or_ge j i with h | h
          · exact Hall.out i u v (by omega) h2 h3
          · have e : i = j := by omega
            subst e
            have := Hxk.out
            rw [h3] at this
            cases this
            have := Hyk.out
            rw [h2] at this
            cases this
            exact hle
        case measure => simp [intOf]; omega
      · go_ret
        refine ⟨ret_bool ?_, hx.trans hW1⟩
        symm
        rw [Bool.eq_false_iff]
        intro h
        have := (sortedDays_iff l).1 h j y x Hyk.out Hxk.out
        omega
    · have h01 : ¬ (0 : Int) < (k : Int) - 1 := by omega
      go_wp2_with fail
      go_ret
      refine ⟨ret_bool ?_, hx⟩
      symm
      exact (sortedDays_iff l).2 fun i u v h2 h3 => Hall.out i u v (by omega) h2 h3
end Go.Proofs.Ytkbhmajcddmhnaa
