/- Contracts of the instances of 'every' over offers, fairs, spans, integers and lists of integers. -/
import Derived.Test.YtkbhmajcddmhnaaVGr1
namespace Go.Proofs.Ytkbhmajcddmhnaa
open Go.RowKit
set_option linter.unusedVariables false

/-! ### 'every' over offer -/
set_option maxHeartbeats 400000 in
theorem indexFunc_offer (a : Option Addr) (n cap c : Nat) (l : List Offer) (p : Offer → Bool) (w : World) (hl : OffersAt w a n l) (hn : n ≤ 1000000000)
    (hp : ∀ o, o ∈ l → ∀ W, Ext w W → Calls Try.prog 95 #[o.val, .pointer (some ⟨c, 0, none⟩)] W fun e W' => e = .returned (.bool (p o)) ∧ Ext W W') :
    Calls Try.prog 101 #[.slice a n cap, .func (.func 95) #[] #[.pointer (some ⟨c, 0, none⟩)]] w fun e w' =>
      e = .returned (.int .i64 (idxI p l)) ∧ Ext w w' := by
  have Hp := Lib.hid hp
  have Hl := Lib.hid hl
  clear hp hl
  go_enter Try.func101, Try.ntmps101
  go_wp2_with fail
  go_loopw [5, 8] (fun i5 i8 wr => ∃ k : Nat, k ≤ n ∧ i8 = .int .i64 k ∧ Ext w wr ∧ ∀ (j : Nat) (y : Offer), j < k → l[j]? = some y → p y = false) (fun _ i8 _ => n - (intOf i8).toNat)
  case atStart => exact ⟨0, Nat.zero_le _, rfl, Ext.refl _, fun j y h => by omega⟩
  case round =>
    obtain ⟨k, hk, rfl, hx, hall⟩ := hrel
    have Hall := Lib.hid hall
    clear hall
    by_cases hlt : k < n
    · obtain ⟨b, off, x, rfl, hxk, hb, c0, c1, c2, c3, c4, c5, c6, c7⟩ := (Hl.out.ext hx).get k hlt
      have Hxk := Lib.hid hxk
      clear hxk
      have hc := Hp.out x (List.mem_of_getElem? Hxk.out) wr hx
      have Hc := Lib.hid hc
      clear hc
      cases hpx : p x with
      | true =>
        have Hpx := Lib.hid hpx
        rw [hpx] at Hc
        clear hpx
        go_wp2_with (go_at_call 95; refine Hc.out.mono ?_; rintro e w' ⟨rfl, hb⟩)
        go_ret
        exact ⟨ret_int (idxI_some Hxk.out Hpx.out Hall.out).symm, hx.trans (by assumption)⟩
      | false =>
        have Hpx := Lib.hid hpx
        rw [hpx] at Hc
        clear hpx
        go_wp2_with (go_at_call 95; refine Hc.out.mono ?_; rintro e w' ⟨rfl, hb⟩)
        go_roundw
        case rel => exact ⟨k + 1, by omega, by go_num, hx.trans (by assumption), fun j y hj hy => by
            rcases Nat.lt_or_ge j k with h | h
            · exact Hall.out j y h hy
            · have e : j = k := by omega
              subst e
              have := Hxk.out
              rw [hy] at this
              cases this
              exact Hpx.out⟩
        case measure => simp [intOf]; omega
    · go_wp2_with fail
      go_ret
      refine ⟨ret_int ?_, hx⟩
      refine (idxI_none (fun j y hy => Hall.out j y ?_ hy)).symm
      have h1 := Hl.out.1
      rcases Nat.lt_or_ge j l.length with h | h
      · omega
      · simp [List.getElem?_eq_none h] at hy

theorem contains_offer (a : Option Addr) (n cap c : Nat) (l : List Offer) (p : Offer → Bool) (w : World) (hl : OffersAt w a n l) (hn : n ≤ 1000000000)
    (hp : ∀ o, o ∈ l → ∀ W, Ext w W → Calls Try.prog 95 #[o.val, .pointer (some ⟨c, 0, none⟩)] W fun e W' => e = .returned (.bool (p o)) ∧ Ext W W') :
    Calls Try.prog 94 #[.slice a n cap, .func (.func 95) #[] #[.pointer (some ⟨c, 0, none⟩)]] w fun e w' =>
      e = .returned (.bool (l.any p)) ∧ Ext w w' := by
  have Hc := Lib.hid (indexFunc_offer a n cap c l p w hl hn hp)
  clear hp hl
  go_enter Try.func94, Try.ntmps94
  go_wp2_with (go_at_call 101; refine Hc.out.mono ?_; rintro e w' ⟨rfl, hb⟩)
  go_ret
  exact ⟨ret_bool (idxI_ge p l), by assumption⟩

theorem everyFn_offer (g c : Nat) (eg : ∀ args w, (callFunc g args).run Try.prog w = .ok (.enter g args) w) (o : Offer) (b : Bool) (W : World) (hc : W.cell? ⟨c, 0, none⟩ = some (.func (.func g) #[] #[]))
    (hg : ∀ W', Ext W W' → Calls Try.prog g #[o.val] W' fun e W'' => e = .returned (.bool b) ∧ Ext W' W'') :
    Calls Try.prog 95 #[o.val, .pointer (some ⟨c, 0, none⟩)] W fun e W' => e = .returned (.bool (!b)) ∧ Ext W W' := by
  have hcb : c < W.heap.size := block_lt_of_cell hc
  have Hg := Lib.hid hg
  clear hg
  obtain ⟨x0, x1, x2, x3, x4, x5, x6, x7⟩ := o
  unfold Offer.val at *
  go_enter Try.func95, Try.ntmps95
  go_wp2_with fail
  refine (Hg.out _ ?_).mono ?_
  · first | exact Ext.refl _ | exact (Ext.refl _).alloc _
  rintro e w' ⟨rfl, hb⟩
  go_wp2_with fail
  go_ret
  exact ⟨rfl, by first | assumption | exact ((Ext.refl _).alloc _).trans (by assumption)⟩

theorem every_offer (g : Nat) (eg : ∀ args w, (callFunc g args).run Try.prog w = .ok (.enter g args) w) (a : Option Addr) (n cap : Nat) (l : List Offer) (p : Offer → Bool) (w : World) (hl : OffersAt w a n l) (hn : n ≤ 1000000000)
    (hp : ∀ o, o ∈ l → ∀ W, Ext w W → Calls Try.prog g #[o.val] W fun e W' => e = .returned (.bool (p o)) ∧ Ext W W') :
    Calls Try.prog 83 #[.slice a n cap, .func (.func g) #[] #[]] w fun e w' =>
      e = .returned (.bool (l.all p)) ∧ Ext w w' := by
  have hi : Ext w (w.alloc (.cells #[.func (.func g) #[] #[]] 153)) := (Ext.refl _).alloc _
  have hc := contains_offer a n cap w.heap.size l (fun o => !p o) (w.alloc (.cells #[.func (.func g) #[] #[]] 153)) (hl.ext hi) hn
    (fun o ho W hW => everyFn_offer g w.heap.size eg o (p o) W (hW.cell (by simp [go_sem])) (fun W' hW' => hp o ho W' (hi.trans (hW.trans hW'))))
  have Hc := Lib.hid hc
  clear hc hp hl
  go_enter Try.func83, Try.ntmps83
  go_wp2_with (go_at_call 94; refine Hc.out.mono ?_; rintro e w' ⟨rfl, hb⟩)
  go_ret
  exact ⟨ret_bool (any_not p l), hi.trans (by assumption)⟩


/-! ### 'every' over fair -/
set_option maxHeartbeats 400000 in
theorem indexFunc_fair (a : Option Addr) (n cap c : Nat) (l : List Fair) (p : Fair → Bool) (w : World) (hl : FairsAt w a n l) (hn : n ≤ 1000000000)
    (hp : ∀ o, o ∈ l → ∀ W ka kn kc, Ext w W → kn ≤ kc → kc ≤ maxLen → SpansAt W ka kn o.keeps → Calls Try.prog 86 #[.agg #[.int .i64 o.place, .int .i64 o.day, .slice ka kn kc], .pointer (some ⟨c, 0, none⟩)] W fun e W' => e = .returned (.bool (p o)) ∧ Ext W W') :
    Calls Try.prog 96 #[.slice a n cap, .func (.func 86) #[] #[.pointer (some ⟨c, 0, none⟩)]] w fun e w' =>
      e = .returned (.int .i64 (idxI p l)) ∧ Ext w w' := by
  have Hp := Lib.hid hp
  have Hl := Lib.hid hl
  clear hp hl
  go_enter Try.func96, Try.ntmps96
  go_wp2_with fail
  go_loopw [5, 8] (fun i5 i8 wr => ∃ k : Nat, k ≤ n ∧ i8 = .int .i64 k ∧ Ext w wr ∧ ∀ (j : Nat) (y : Fair), j < k → l[j]? = some y → p y = false) (fun _ i8 _ => n - (intOf i8).toNat)
  case atStart => exact ⟨0, Nat.zero_le _, rfl, Ext.refl _, fun j y h => by omega⟩
  case round =>
    obtain ⟨k, hk, rfl, hx, hall⟩ := hrel
    have Hall := Lib.hid hall
    clear hall
    by_cases hlt : k < n
    · obtain ⟨b, off, x, ka, kn, kc, rfl, hxk, hb, c0, c1, c2, h1, h2, h3⟩ := (Hl.out.ext hx).get k hlt
      have Hxk := Lib.hid hxk
      clear hxk
      have hc := Hp.out x (List.mem_of_getElem? Hxk.out) wr ka kn kc hx h1 h2 h3
      have Hc := Lib.hid hc
      clear hc
      cases hpx : p x with
      | true =>
        have Hpx := Lib.hid hpx
        rw [hpx] at Hc
        clear hpx
        go_wp2_with (go_at_call 86; refine Hc.out.mono ?_; rintro e w' ⟨rfl, hb⟩)
        go_ret
        exact ⟨ret_int (idxI_some Hxk.out Hpx.out Hall.out).symm, hx.trans (by assumption)⟩
      | false =>
        have Hpx := Lib.hid hpx
        rw [hpx] at Hc
        clear hpx
        go_wp2_with (go_at_call 86; refine Hc.out.mono ?_; rintro e w' ⟨rfl, hb⟩)
        go_roundw
        case rel => exact ⟨k + 1, by omega, by go_num, hx.trans (by assumption), fun j y hj hy => by
            rcases Nat.lt_or_ge j k with h | h
            · exact Hall.out j y h hy
            · have e : j = k := by omega
              subst e
              have := Hxk.out
              rw [hy] at this
              cases this
              exact Hpx.out⟩
        case measure => simp [intOf]; omega
    · go_wp2_with fail
      go_ret
      refine ⟨ret_int ?_, hx⟩
      refine (idxI_none (fun j y hy => Hall.out j y ?_ hy)).symm
      have h1 := Hl.out.1
      rcases Nat.lt_or_ge j l.length with h | h
      · omega
      · simp [List.getElem?_eq_none h] at hy

theorem contains_fair (a : Option Addr) (n cap c : Nat) (l : List Fair) (p : Fair → Bool) (w : World) (hl : FairsAt w a n l) (hn : n ≤ 1000000000)
    (hp : ∀ o, o ∈ l → ∀ W ka kn kc, Ext w W → kn ≤ kc → kc ≤ maxLen → SpansAt W ka kn o.keeps → Calls Try.prog 86 #[.agg #[.int .i64 o.place, .int .i64 o.day, .slice ka kn kc], .pointer (some ⟨c, 0, none⟩)] W fun e W' => e = .returned (.bool (p o)) ∧ Ext W W') :
    Calls Try.prog 85 #[.slice a n cap, .func (.func 86) #[] #[.pointer (some ⟨c, 0, none⟩)]] w fun e w' =>
      e = .returned (.bool (l.any p)) ∧ Ext w w' := by
  have Hc := Lib.hid (indexFunc_fair a n cap c l p w hl hn hp)
  clear hp hl
  go_enter Try.func85, Try.ntmps85
  go_wp2_with (go_at_call 96; refine Hc.out.mono ?_; rintro e w' ⟨rfl, hb⟩)
  go_ret
  exact ⟨ret_bool (idxI_ge p l), by assumption⟩

theorem everyFn_fair (g c : Nat) (eg : ∀ args w, (callFunc g args).run Try.prog w = .ok (.enter g args) w) (o : Fair) (ka : Option Addr) (kn kc : Nat) (b : Bool) (W : World) (hc : W.cell? ⟨c, 0, none⟩ = some (.func (.func g) #[] #[]))
    (hg : ∀ W', Ext W W' → Calls Try.prog g #[.agg #[.int .i64 o.place, .int .i64 o.day, .slice ka kn kc]] W' fun e W'' => e = .returned (.bool b) ∧ Ext W' W'') :
    Calls Try.prog 86 #[.agg #[.int .i64 o.place, .int .i64 o.day, .slice ka kn kc], .pointer (some ⟨c, 0, none⟩)] W fun e W' => e = .returned (.bool (!b)) ∧ Ext W W' := by
  have hcb : c < W.heap.size := block_lt_of_cell hc
  have Hg := Lib.hid hg
  clear hg
  obtain ⟨x0, x1, x2⟩ := o
  go_enter Try.func86, Try.ntmps86
  go_wp2_with fail
  refine (Hg.out _ ?_).mono ?_
  · first | exact Ext.refl _ | exact (Ext.refl _).alloc _
  rintro e w' ⟨rfl, hb⟩
  go_wp2_with fail
  go_ret
  exact ⟨rfl, by first | assumption | exact ((Ext.refl _).alloc _).trans (by assumption)⟩

theorem every_fair (g : Nat) (eg : ∀ args w, (callFunc g args).run Try.prog w = .ok (.enter g args) w) (a : Option Addr) (n cap : Nat) (l : List Fair) (p : Fair → Bool) (w : World) (hl : FairsAt w a n l) (hn : n ≤ 1000000000)
    (hp : ∀ o, o ∈ l → ∀ W ka kn kc, Ext w W → kn ≤ kc → kc ≤ maxLen → SpansAt W ka kn o.keeps → Calls Try.prog g #[.agg #[.int .i64 o.place, .int .i64 o.day, .slice ka kn kc]] W fun e W' => e = .returned (.bool (p o)) ∧ Ext W W') :
    Calls Try.prog 72 #[.slice a n cap, .func (.func g) #[] #[]] w fun e w' =>
      e = .returned (.bool (l.all p)) ∧ Ext w w' := by
  have hi : Ext w (w.alloc (.cells #[.func (.func g) #[] #[]] 143)) := (Ext.refl _).alloc _
  have hc := contains_fair a n cap w.heap.size l (fun o => !p o) (w.alloc (.cells #[.func (.func g) #[] #[]] 143)) (hl.ext hi) hn
    (fun o ho W ka kn kc hW h1 h2 h3 => everyFn_fair g w.heap.size eg o ka kn kc (p o) W (hW.cell (by simp [go_sem])) (fun W' hW' => hp o ho W' ka kn kc (hi.trans (hW.trans hW')) h1 h2 (h3.ext hW')))
  have Hc := Lib.hid hc
  clear hc hp hl
  go_enter Try.func72, Try.ntmps72
  go_wp2_with (go_at_call 85; refine Hc.out.mono ?_; rintro e w' ⟨rfl, hb⟩)
  go_ret
  exact ⟨ret_bool (any_not p l), hi.trans (by assumption)⟩


/-! ### 'every' over span -/
set_option maxHeartbeats 400000 in
theorem indexFunc_span (a : Option Addr) (n cap c : Nat) (l : List Span) (p : Span → Bool) (w : World) (hl : SpansAt w a n l) (hn : n ≤ 1000000000)
    (hp : ∀ o, o ∈ l → ∀ W, Ext w W → Calls Try.prog 98 #[o.val, .pointer (some ⟨c, 0, none⟩)] W fun e W' => e = .returned (.bool (p o)) ∧ Ext W W') :
    Calls Try.prog 102 #[.slice a n cap, .func (.func 98) #[] #[.pointer (some ⟨c, 0, none⟩)]] w fun e w' =>
      e = .returned (.int .i64 (idxI p l)) ∧ Ext w w' := by
  have Hp := Lib.hid hp
  have Hl := Lib.hid hl
  clear hp hl
  go_enter Try.func102, Try.ntmps102
  go_wp2_with fail
  go_loopw [5, 8] (fun i5 i8 wr => ∃ k : Nat, k ≤ n ∧ i8 = .int .i64 k ∧ Ext w wr ∧ ∀ (j : Nat) (y : Span), j < k → l[j]? = some y → p y = false) (fun _ i8 _ => n - (intOf i8).toNat)
  case atStart => exact ⟨0, Nat.zero_le _, rfl, Ext.refl _, fun j y h => by omega⟩
  case round =>
    obtain ⟨k, hk, rfl, hx, hall⟩ := hrel
    have Hall := Lib.hid hall
    clear hall
    by_cases hlt : k < n
    · obtain ⟨b, off, x, rfl, hxk, hb, c0, c1⟩ := (Hl.out.ext hx).get k hlt
      have Hxk := Lib.hid hxk
      clear hxk
      have hc := Hp.out x (List.mem_of_getElem? Hxk.out) wr hx
      have Hc := Lib.hid hc
      clear hc
      cases hpx : p x with
      | true =>
        have Hpx := Lib.hid hpx
        rw [hpx] at Hc
        clear hpx
        go_wp2_with (go_at_call 98; refine Hc.out.mono ?_; rintro e w' ⟨rfl, hb⟩)
        go_ret
        exact ⟨ret_int (idxI_some Hxk.out Hpx.out Hall.out).symm, hx.trans (by assumption)⟩
      | false =>
        have Hpx := Lib.hid hpx
        rw [hpx] at Hc
        clear hpx
        go_wp2_with (go_at_call 98; refine Hc.out.mono ?_; rintro e w' ⟨rfl, hb⟩)
        go_roundw
        case rel => exact ⟨k + 1, by omega, by go_num, hx.trans (by assumption), fun j y hj hy => by
            rcases Nat.lt_or_ge j k with h | h
            · exact Hall.out j y h hy
            · have e : j = k := by omega
              subst e
              have := Hxk.out
              rw [hy] at this
              cases this
              exact Hpx.out⟩
        case measure => simp [intOf]; omega
    · go_wp2_with fail
      go_ret
      refine ⟨ret_int ?_, hx⟩
      refine (idxI_none (fun j y hy => Hall.out j y ?_ hy)).symm
      have h1 := Hl.out.1
      rcases Nat.lt_or_ge j l.length with h | h
      · omega
      · simp [List.getElem?_eq_none h] at hy

theorem contains_span (a : Option Addr) (n cap c : Nat) (l : List Span) (p : Span → Bool) (w : World) (hl : SpansAt w a n l) (hn : n ≤ 1000000000)
    (hp : ∀ o, o ∈ l → ∀ W, Ext w W → Calls Try.prog 98 #[o.val, .pointer (some ⟨c, 0, none⟩)] W fun e W' => e = .returned (.bool (p o)) ∧ Ext W W') :
    Calls Try.prog 97 #[.slice a n cap, .func (.func 98) #[] #[.pointer (some ⟨c, 0, none⟩)]] w fun e w' =>
      e = .returned (.bool (l.any p)) ∧ Ext w w' := by
  have Hc := Lib.hid (indexFunc_span a n cap c l p w hl hn hp)
  clear hp hl
  go_enter Try.func97, Try.ntmps97
  go_wp2_with (go_at_call 102; refine Hc.out.mono ?_; rintro e w' ⟨rfl, hb⟩)
  go_ret
  exact ⟨ret_bool (idxI_ge p l), by assumption⟩

theorem everyFn_span (g c : Nat) (eg : ∀ args w, (callFunc g args).run Try.prog w = .ok (.enter g args) w) (o : Span) (b : Bool) (W : World) (hc : W.cell? ⟨c, 0, none⟩ = some (.func (.func g) #[] #[]))
    (hg : ∀ W', Ext W W' → Calls Try.prog g #[o.val] W' fun e W'' => e = .returned (.bool b) ∧ Ext W' W'') :
    Calls Try.prog 98 #[o.val, .pointer (some ⟨c, 0, none⟩)] W fun e W' => e = .returned (.bool (!b)) ∧ Ext W W' := by
  have hcb : c < W.heap.size := block_lt_of_cell hc
  have Hg := Lib.hid hg
  clear hg
  obtain ⟨x0, x1⟩ := o
  unfold Span.val at *
  go_enter Try.func98, Try.ntmps98
  go_wp2_with fail
  refine (Hg.out _ ?_).mono ?_
  · first | exact Ext.refl _ | exact (Ext.refl _).alloc _
  rintro e w' ⟨rfl, hb⟩
  go_wp2_with fail
  go_ret
  exact ⟨rfl, by first | assumption | exact ((Ext.refl _).alloc _).trans (by assumption)⟩

theorem every_span (g : Nat) (eg : ∀ args w, (callFunc g args).run Try.prog w = .ok (.enter g args) w) (a : Option Addr) (n cap : Nat) (l : List Span) (p : Span → Bool) (w : World) (hl : SpansAt w a n l) (hn : n ≤ 1000000000)
    (hp : ∀ o, o ∈ l → ∀ W, Ext w W → Calls Try.prog g #[o.val] W fun e W' => e = .returned (.bool (p o)) ∧ Ext W W') :
    Calls Try.prog 89 #[.slice a n cap, .func (.func g) #[] #[]] w fun e w' =>
      e = .returned (.bool (l.all p)) ∧ Ext w w' := by
  have hi : Ext w (w.alloc (.cells #[.func (.func g) #[] #[]] 155)) := (Ext.refl _).alloc _
  have hc := contains_span a n cap w.heap.size l (fun o => !p o) (w.alloc (.cells #[.func (.func g) #[] #[]] 155)) (hl.ext hi) hn
    (fun o ho W hW => everyFn_span g w.heap.size eg o (p o) W (hW.cell (by simp [go_sem])) (fun W' hW' => hp o ho W' (hi.trans (hW.trans hW'))))
  have Hc := Lib.hid hc
  clear hc hp hl
  go_enter Try.func89, Try.ntmps89
  go_wp2_with (go_at_call 97; refine Hc.out.mono ?_; rintro e w' ⟨rfl, hb⟩)
  go_ret
  exact ⟨ret_bool (any_not p l), hi.trans (by assumption)⟩


/-! ### 'every' over int -/
set_option maxHeartbeats 400000 in
theorem indexFunc_int (a : Option Addr) (n cap c : Nat) (l : List Int) (p : Int → Bool) (w : World) (hl : IntsAt .i64 w a n l) (hn : n ≤ 1000000000)
    (hp : ∀ o, o ∈ l → ∀ W, Ext w W → Calls Try.prog 91 #[.int .i64 o, .pointer (some ⟨c, 0, none⟩)] W fun e W' => e = .returned (.bool (p o)) ∧ Ext W W') :
    Calls Try.prog 99 #[.slice a n cap, .func (.func 91) #[] #[.pointer (some ⟨c, 0, none⟩)]] w fun e w' =>
      e = .returned (.int .i64 (idxI p l)) ∧ Ext w w' := by
  have Hp := Lib.hid hp
  have Hl := Lib.hid hl
  clear hp hl
  go_enter Try.func99, Try.ntmps99
  go_wp2_with fail
  go_loopw [5, 8] (fun i5 i8 wr => ∃ k : Nat, k ≤ n ∧ i8 = .int .i64 k ∧ Ext w wr ∧ ∀ (j : Nat) (y : Int), j < k → l[j]? = some y → p y = false) (fun _ i8 _ => n - (intOf i8).toNat)
  case atStart => exact ⟨0, Nat.zero_le _, rfl, Ext.refl _, fun j y h => by omega⟩
  case round =>
    obtain ⟨k, hk, rfl, hx, hall⟩ := hrel
    have Hall := Lib.hid hall
    clear hall
    by_cases hlt : k < n
    · obtain ⟨b, off, x, rfl, hxk, hb, c0⟩ := (Hl.out.ext hx).get k hlt
      have Hxk := Lib.hid hxk
      clear hxk
      have hc := Hp.out x (List.mem_of_getElem? Hxk.out) wr hx
      have Hc := Lib.hid hc
      clear hc
      cases hpx : p x with
      | true =>
        have Hpx := Lib.hid hpx
        rw [hpx] at Hc
        clear hpx
        go_wp2_with (go_at_call 91; refine Hc.out.mono ?_; rintro e w' ⟨rfl, hb⟩)
        go_ret
        exact ⟨ret_int (idxI_some Hxk.out Hpx.out Hall.out).symm, hx.trans (by assumption)⟩
      | false =>
        have Hpx := Lib.hid hpx
        rw [hpx] at Hc
        clear hpx
        go_wp2_with (go_at_call 91; refine Hc.out.mono ?_; rintro e w' ⟨rfl, hb⟩)
        go_roundw
        case rel => exact ⟨k + 1, by omega, by go_num, hx.trans (by assumption), fun j y hj hy => by
            rcases Nat.lt_or_ge j k with h | h
            · exact Hall.out j y h hy
            · have e : j = k := by omega
              subst e
              have := Hxk.out
              rw [hy] at this
              cases this
              exact Hpx.out⟩
        case measure => simp [intOf]; omega
    · go_wp2_with fail
      go_ret
      refine ⟨ret_int ?_, hx⟩
      refine (idxI_none (fun j y hy => Hall.out j y ?_ hy)).symm
      have h1 := Hl.out.1
      rcases Nat.lt_or_ge j l.length with h | h
      · omega
      · simp [List.getElem?_eq_none h] at hy

theorem contains_int (a : Option Addr) (n cap c : Nat) (l : List Int) (p : Int → Bool) (w : World) (hl : IntsAt .i64 w a n l) (hn : n ≤ 1000000000)
    (hp : ∀ o, o ∈ l → ∀ W, Ext w W → Calls Try.prog 91 #[.int .i64 o, .pointer (some ⟨c, 0, none⟩)] W fun e W' => e = .returned (.bool (p o)) ∧ Ext W W') :
    Calls Try.prog 90 #[.slice a n cap, .func (.func 91) #[] #[.pointer (some ⟨c, 0, none⟩)]] w fun e w' =>
      e = .returned (.bool (l.any p)) ∧ Ext w w' := by
  have Hc := Lib.hid (indexFunc_int a n cap c l p w hl hn hp)
  clear hp hl
  go_enter Try.func90, Try.ntmps90
  go_wp2_with (go_at_call 99; refine Hc.out.mono ?_; rintro e w' ⟨rfl, hb⟩)
  go_ret
  exact ⟨ret_bool (idxI_ge p l), by assumption⟩

theorem everyFn_int (g c : Nat) (eg : ∀ args w, (callFunc g args).run Try.prog w = .ok (.enter g args) w) (o : Int) (b : Bool) (W : World) (hc : W.cell? ⟨c, 0, none⟩ = some (.func (.func g) #[] #[]))
    (hg : ∀ W', Ext W W' → Calls Try.prog g #[.int .i64 o] W' fun e W'' => e = .returned (.bool b) ∧ Ext W' W'') :
    Calls Try.prog 91 #[.int .i64 o, .pointer (some ⟨c, 0, none⟩)] W fun e W' => e = .returned (.bool (!b)) ∧ Ext W W' := by
  have hcb : c < W.heap.size := block_lt_of_cell hc
  have Hg := Lib.hid hg
  clear hg
  go_enter Try.func91, Try.ntmps91
  go_wp2_with fail
  refine (Hg.out _ ?_).mono ?_
  · first | exact Ext.refl _ | exact (Ext.refl _).alloc _
  rintro e w' ⟨rfl, hb⟩
  go_wp2_with fail
  go_ret
  exact ⟨rfl, by first | assumption | exact ((Ext.refl _).alloc _).trans (by assumption)⟩

theorem every_int (g : Nat) (eg : ∀ args w, (callFunc g args).run Try.prog w = .ok (.enter g args) w) (a : Option Addr) (n cap : Nat) (l : List Int) (p : Int → Bool) (w : World) (hl : IntsAt .i64 w a n l) (hn : n ≤ 1000000000)
    (hp : ∀ o, o ∈ l → ∀ W, Ext w W → Calls Try.prog g #[.int .i64 o] W fun e W' => e = .returned (.bool (p o)) ∧ Ext W W') :
    Calls Try.prog 75 #[.slice a n cap, .func (.func g) #[] #[]] w fun e w' =>
      e = .returned (.bool (l.all p)) ∧ Ext w w' := by
  have hi : Ext w (w.alloc (.cells #[.func (.func g) #[] #[]] 110)) := (Ext.refl _).alloc _
  have hc := contains_int a n cap w.heap.size l (fun o => !p o) (w.alloc (.cells #[.func (.func g) #[] #[]] 110)) (hl.ext hi) hn
    (fun o ho W hW => everyFn_int g w.heap.size eg o (p o) W (hW.cell (by simp [go_sem])) (fun W' hW' => hp o ho W' (hi.trans (hW.trans hW'))))
  have Hc := Lib.hid hc
  clear hc hp hl
  go_enter Try.func75, Try.ntmps75
  go_wp2_with (go_at_call 90; refine Hc.out.mono ?_; rintro e w' ⟨rfl, hb⟩)
  go_ret
  exact ⟨ret_bool (any_not p l), hi.trans (by assumption)⟩


/-! ### 'every' over ints -/
set_option maxHeartbeats 400000 in
theorem indexFunc_ints (a : Option Addr) (n cap c : Nat) (l : List (List Int)) (p : (List Int) → Bool) (w : World) (hl : RowsAt w a n l) (hn : n ≤ 1000000000)
    (hp : ∀ o, o ∈ l → ∀ W ka kn kc, Ext w W → kn ≤ kc → kc ≤ maxLen → IntsAt .i64 W ka kn o → Calls Try.prog 93 #[.slice ka kn kc, .pointer (some ⟨c, 0, none⟩)] W fun e W' => e = .returned (.bool (p o)) ∧ Ext W W') :
    Calls Try.prog 100 #[.slice a n cap, .func (.func 93) #[] #[.pointer (some ⟨c, 0, none⟩)]] w fun e w' =>
      e = .returned (.int .i64 (idxI p l)) ∧ Ext w w' := by
  have Hp := Lib.hid hp
  have Hl := Lib.hid hl
  clear hp hl
  go_enter Try.func100, Try.ntmps100
  go_wp2_with fail
  go_loopw [5, 8] (fun i5 i8 wr => ∃ k : Nat, k ≤ n ∧ i8 = .int .i64 k ∧ Ext w wr ∧ ∀ (j : Nat) (y : (List Int)), j < k → l[j]? = some y → p y = false) (fun _ i8 _ => n - (intOf i8).toNat)
  case atStart => exact ⟨0, Nat.zero_le _, rfl, Ext.refl _, fun j y h => by omega⟩
  case round =>
    obtain ⟨k, hk, rfl, hx, hall⟩ := hrel
    have Hall := Lib.hid hall
    clear hall
    by_cases hlt : k < n
    · obtain ⟨b, off, x, ka, kn, kc, rfl, hxk, hb, c0, h1, h2, h3⟩ := (Hl.out.ext hx).get k hlt
      have Hxk := Lib.hid hxk
      clear hxk
      have hc := Hp.out x (List.mem_of_getElem? Hxk.out) wr ka kn kc hx h1 h2 h3
      have Hc := Lib.hid hc
      clear hc
      cases hpx : p x with
      | true =>
        have Hpx := Lib.hid hpx
        rw [hpx] at Hc
        clear hpx
        go_wp2_with (go_at_call 93; refine Hc.out.mono ?_; rintro e w' ⟨rfl, hb⟩)
        go_ret
        exact ⟨ret_int (idxI_some Hxk.out Hpx.out Hall.out).symm, hx.trans (by assumption)⟩
      | false =>
        have Hpx := Lib.hid hpx
        rw [hpx] at Hc
        clear hpx
        go_wp2_with (go_at_call 93; refine Hc.out.mono ?_; rintro e w' ⟨rfl, hb⟩)
        go_roundw
        case rel => exact ⟨k + 1, by omega, by go_num, hx.trans (by assumption), fun j y hj hy => by
            rcases Nat.lt_or_ge j k with h | h
            · exact Hall.out j y h hy
            · have e : j = k := by omega
              subst e
              have := Hxk.out
              rw [hy] at this
              cases this
              exact Hpx.out⟩
        case measure => simp [intOf]; omega
    · go_wp2_with fail
      go_ret
      refine ⟨ret_int ?_, hx⟩
      refine (idxI_none (fun j y hy => Hall.out j y ?_ hy)).symm
      have h1 := Hl.out.1
      rcases Nat.lt_or_ge j l.length with h | h
      · omega
      · simp [List.getElem?_eq_none h] at hy

theorem contains_ints (a : Option Addr) (n cap c : Nat) (l : List (List Int)) (p : (List Int) → Bool) (w : World) (hl : RowsAt w a n l) (hn : n ≤ 1000000000)
    (hp : ∀ o, o ∈ l → ∀ W ka kn kc, Ext w W → kn ≤ kc → kc ≤ maxLen → IntsAt .i64 W ka kn o → Calls Try.prog 93 #[.slice ka kn kc, .pointer (some ⟨c, 0, none⟩)] W fun e W' => e = .returned (.bool (p o)) ∧ Ext W W') :
    Calls Try.prog 92 #[.slice a n cap, .func (.func 93) #[] #[.pointer (some ⟨c, 0, none⟩)]] w fun e w' =>
      e = .returned (.bool (l.any p)) ∧ Ext w w' := by
  have Hc := Lib.hid (indexFunc_ints a n cap c l p w hl hn hp)
  clear hp hl
  go_enter Try.func92, Try.ntmps92
  go_wp2_with (go_at_call 100; refine Hc.out.mono ?_; rintro e w' ⟨rfl, hb⟩)
  go_ret
  exact ⟨ret_bool (idxI_ge p l), by assumption⟩

theorem everyFn_ints (g c : Nat) (eg : ∀ args w, (callFunc g args).run Try.prog w = .ok (.enter g args) w) (o : (List Int)) (ka : Option Addr) (kn kc : Nat) (b : Bool) (W : World) (hc : W.cell? ⟨c, 0, none⟩ = some (.func (.func g) #[] #[]))
    (hg : ∀ W', Ext W W' → Calls Try.prog g #[.slice ka kn kc] W' fun e W'' => e = .returned (.bool b) ∧ Ext W' W'') :
    Calls Try.prog 93 #[.slice ka kn kc, .pointer (some ⟨c, 0, none⟩)] W fun e W' => e = .returned (.bool (!b)) ∧ Ext W W' := by
  have hcb : c < W.heap.size := block_lt_of_cell hc
  have Hg := Lib.hid hg
  clear hg
  go_enter Try.func93, Try.ntmps93
  go_wp2_with fail
  refine (Hg.out _ ?_).mono ?_
  · first | exact Ext.refl _ | exact (Ext.refl _).alloc _
  rintro e w' ⟨rfl, hb⟩
  go_wp2_with fail
  go_ret
  exact ⟨rfl, by first | assumption | exact ((Ext.refl _).alloc _).trans (by assumption)⟩

theorem every_ints (g : Nat) (eg : ∀ args w, (callFunc g args).run Try.prog w = .ok (.enter g args) w) (a : Option Addr) (n cap : Nat) (l : List (List Int)) (p : (List Int) → Bool) (w : World) (hl : RowsAt w a n l) (hn : n ≤ 1000000000)
    (hp : ∀ o, o ∈ l → ∀ W ka kn kc, Ext w W → kn ≤ kc → kc ≤ maxLen → IntsAt .i64 W ka kn o → Calls Try.prog g #[.slice ka kn kc] W fun e W' => e = .returned (.bool (p o)) ∧ Ext W W') :
    Calls Try.prog 79 #[.slice a n cap, .func (.func g) #[] #[]] w fun e w' =>
      e = .returned (.bool (l.all p)) ∧ Ext w w' := by
  have hi : Ext w (w.alloc (.cells #[.func (.func g) #[] #[]] 62)) := (Ext.refl _).alloc _
  have hc := contains_ints a n cap w.heap.size l (fun o => !p o) (w.alloc (.cells #[.func (.func g) #[] #[]] 62)) (hl.ext hi) hn
    (fun o ho W ka kn kc hW h1 h2 h3 => everyFn_ints g w.heap.size eg o ka kn kc (p o) W (hW.cell (by simp [go_sem])) (fun W' hW' => hp o ho W' ka kn kc (hi.trans (hW.trans hW')) h1 h2 (h3.ext hW')))
  have Hc := Lib.hid hc
  clear hc hp hl
  go_enter Try.func79, Try.ntmps79
  go_wp2_with (go_at_call 92; refine Hc.out.mono ?_; rintro e w' ⟨rfl, hb⟩)
  go_ret
  exact ⟨ret_bool (any_not p l), hi.trans (by assumption)⟩

end Go.Proofs.Ytkbhmajcddmhnaa
