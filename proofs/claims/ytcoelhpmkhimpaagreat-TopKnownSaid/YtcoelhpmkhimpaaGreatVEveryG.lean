/- Whether something is so of all things of a list: contracts of every, slices.ContainsFunc, slices.IndexFunc. -/
import Derived.Test.YtcoelhpmkhimpaaGreatVBase
namespace Go.Proofs.YtcoelhpmkhimpaaGreat
open Go.RowKit
set_option linter.unusedVariables false

/-! ### 'every' over int -/
set_option maxHeartbeats 400000 in
theorem indexFunc_int (a : Option Addr) (n cap c e : Nat) (l : List Int) (p : Int → Bool) (w : World) (hl : IntsAt .i64 w a n l) (hn : n ≤ 1000000000)
    (hp : ∀ o, o ∈ l → ∀ W, Ext w W → Calls Tryz.prog 83 #[.int .i64 o, .pointer (some ⟨c, 0, none⟩), .pointer (some ⟨e, 0, none⟩)] W fun e W' => e = .returned (.bool (p o)) ∧ Ext W W') :
    Calls Tryz.prog 112 #[.slice a n cap, .func (.func 83) #[] #[.pointer (some ⟨c, 0, none⟩), .pointer (some ⟨e, 0, none⟩)]] w fun e w' =>
      e = .returned (.int .i64 (idxI p l)) ∧ Ext w w' := by
  have Hp := Lib.hid hp
  have Hl := Lib.hid hl
  clear hp hl
  go_enter Tryz.func112, Tryz.ntmps112
  go_wp2_with fail
  go_loopw [5, 8] (fun i5 i8 wr => ∃ k : Nat, k ≤ n ∧ i8 = .int .i64 k ∧ Ext w wr ∧ ∀ (j : Nat) (y : Int), j < k → l[j]? = some y → p y = false) (fun _ i8 _ => n - (intOf i8).toNat)
  case atStart => exact ⟨0, Nat.zero_le _, rfl, Ext.refl _, fun j y h => by omega⟩
  case round =>
    obtain ⟨k, hk, rfl, hx, hall⟩ := hrel
    have Hall := Lib.hid hall
    clear hall
    by_cases hlt : k < n
    · obtain ⟨b, off, x, rfl, hxk, hb, c0⟩ := (Hl.out.ext hx).get k hlt
      have Hxk := Lib.hid hxk
      clear hxk
      have hc := Hp.out x (List.mem_of_getElem? Hxk.out) wr hx
      have Hc := Lib.hid hc
      clear hc
      cases hpx : p x with
      | true =>
        have Hpx := Lib.hid hpx
        rw [hpx] at Hc
        clear hpx
        go_wp2_with (go_at_call 83; refine Hc.out.mono ?_; rintro e w' ⟨rfl, hb⟩)
        go_ret
        exact ⟨ret_int (idxI_some Hxk.out Hpx.out Hall.out).symm, hx.trans (by assumption)⟩
      | false =>
        have Hpx := Lib.hid hpx
        rw [hpx] at Hc
        clear hpx
        go_wp2_with (go_at_call 83; refine Hc.out.mono ?_; rintro e w' ⟨rfl, hb⟩)
        go_roundw
        case rel => exact ⟨k + 1, by omega, by go_num, hx.trans (by assumption), fun j y hj hy => by
            rcases Nat.lt_or_ge j k with h | h
            · exact Hall.out j y h hy
            · have e : j = k := by omega
              subst e
              have := Hxk.out
              rw [hy] at this
              cases this
              exact Hpx.out⟩
        case measure => simp [intOf]; omega
    · go_wp2_with fail
      go_ret
      refine ⟨ret_int ?_, hx⟩
      refine (idxI_none (fun j y hy => Hall.out j y ?_ hy)).symm
      have h1 := Hl.out.1
      rcases Nat.lt_or_ge j l.length with h | h
      · omega
      · simp [List.getElem?_eq_none h] at hy

theorem contains_int (a : Option Addr) (n cap c e : Nat) (l : List Int) (p : Int → Bool) (w : World) (hl : IntsAt .i64 w a n l) (hn : n ≤ 1000000000)
    (hp : ∀ o, o ∈ l → ∀ W, Ext w W → Calls Tryz.prog 83 #[.int .i64 o, .pointer (some ⟨c, 0, none⟩), .pointer (some ⟨e, 0, none⟩)] W fun e W' => e = .returned (.bool (p o)) ∧ Ext W W') :
    Calls Tryz.prog 82 #[.slice a n cap, .func (.func 83) #[] #[.pointer (some ⟨c, 0, none⟩), .pointer (some ⟨e, 0, none⟩)]] w fun e w' =>
      e = .returned (.bool (l.any p)) ∧ Ext w w' := by
  have Hc := Lib.hid (indexFunc_int a n cap c e l p w hl hn hp)
  clear hp hl
  go_enter Tryz.func82, Tryz.ntmps82
  go_wp2_with (go_at_call 112; refine Hc.out.mono ?_; rintro e w' ⟨rfl, hb⟩)
  go_ret
  exact ⟨ret_bool (idxI_ge p l), by assumption⟩


/-! ### 'every' over half -/
set_option maxHeartbeats 400000 in
theorem indexFunc_half (a : Option Addr) (n cap c : Nat) (l : List Half) (p : Half → Bool) (w : World) (hl : HalvesAt w a n l) (hn : n ≤ 1000000000)
    (hp : ∀ o, o ∈ l → ∀ W, Ext w W → Calls Tryz.prog 89 #[o.val, .pointer (some ⟨c, 0, none⟩)] W fun e W' => e = .returned (.bool (p o)) ∧ Ext W W') :
    Calls Tryz.prog 113 #[.slice a n cap, .func (.func 89) #[] #[.pointer (some ⟨c, 0, none⟩)]] w fun e w' =>
      e = .returned (.int .i64 (idxI p l)) ∧ Ext w w' := by
  have Hp := Lib.hid hp
  have Hl := Lib.hid hl
  clear hp hl
  go_enter Tryz.func113, Tryz.ntmps113
  go_wp2_with fail
  go_loopw [5, 8] (fun i5 i8 wr => ∃ k : Nat, k ≤ n ∧ i8 = .int .i64 k ∧ Ext w wr ∧ ∀ (j : Nat) (y : Half), j < k → l[j]? = some y → p y = false) (fun _ i8 _ => n - (intOf i8).toNat)
  case atStart => exact ⟨0, Nat.zero_le _, rfl, Ext.refl _, fun j y h => by omega⟩
  case round =>
    obtain ⟨k, hk, rfl, hx, hall⟩ := hrel
    have Hall := Lib.hid hall
    clear hall
    by_cases hlt : k < n
    · obtain ⟨b, off, x, rfl, hxk, hb, c0, c1, c2⟩ := (Hl.out.ext hx).get k hlt
      have Hxk := Lib.hid hxk
      clear hxk
      have hc := Hp.out x (List.mem_of_getElem? Hxk.out) wr hx
      have Hc := Lib.hid hc
      clear hc
      cases hpx : p x with
      | true =>
        have Hpx := Lib.hid hpx
        rw [hpx] at Hc
        clear hpx
        go_wp2_with (go_at_call 89; refine Hc.out.mono ?_; rintro e w' ⟨rfl, hb⟩)
        go_ret
        exact ⟨ret_int (idxI_some Hxk.out Hpx.out Hall.out).symm, hx.trans (by assumption)⟩
      | false =>
        have Hpx := Lib.hid hpx
        rw [hpx] at Hc
        clear hpx
        go_wp2_with (go_at_call 89; refine Hc.out.mono ?_; rintro e w' ⟨rfl, hb⟩)
        go_roundw
        case rel => exact ⟨k + 1, by omega, by go_num, hx.trans (by assumption), fun j y hj hy => by
            rcases Nat.lt_or_ge j k with h | h
            · exact Hall.out j y h hy
            · have e : j = k := by omega
              subst e
              have := Hxk.out
              rw [hy] at this
              cases this
              exact Hpx.out⟩
        case measure => simp [intOf]; omega
    · go_wp2_with fail
      go_ret
      refine ⟨ret_int ?_, hx⟩
      refine (idxI_none (fun j y hy => Hall.out j y ?_ hy)).symm
      have h1 := Hl.out.1
      rcases Nat.lt_or_ge j l.length with h | h
      · omega
      · simp [List.getElem?_eq_none h] at hy

theorem contains_half (a : Option Addr) (n cap c : Nat) (l : List Half) (p : Half → Bool) (w : World) (hl : HalvesAt w a n l) (hn : n ≤ 1000000000)
    (hp : ∀ o, o ∈ l → ∀ W, Ext w W → Calls Tryz.prog 89 #[o.val, .pointer (some ⟨c, 0, none⟩)] W fun e W' => e = .returned (.bool (p o)) ∧ Ext W W') :
    Calls Tryz.prog 88 #[.slice a n cap, .func (.func 89) #[] #[.pointer (some ⟨c, 0, none⟩)]] w fun e w' =>
      e = .returned (.bool (l.any p)) ∧ Ext w w' := by
  have Hc := Lib.hid (indexFunc_half a n cap c l p w hl hn hp)
  clear hp hl
  go_enter Tryz.func88, Tryz.ntmps88
  go_wp2_with (go_at_call 113; refine Hc.out.mono ?_; rintro e w' ⟨rfl, hb⟩)
  go_ret
  exact ⟨ret_bool (idxI_ge p l), by assumption⟩

theorem everyFn_half0 (g c : Nat) (eg : ∀ args w, (callFunc g args).run Tryz.prog w = .ok (.enter g args) w) (o : Half) (b : Bool) (W : World) (hc : W.cell? ⟨c, 0, none⟩ = some (.func (.func g) #[] #[]))
    (hg : ∀ W', Ext W W' → Calls Tryz.prog g #[o.val] W' fun e W'' => e = .returned (.bool b) ∧ Ext W' W'') :
    Calls Tryz.prog 89 #[o.val, .pointer (some ⟨c, 0, none⟩)] W fun e W' => e = .returned (.bool (!b)) ∧ Ext W W' := by
  have hcb : c < W.heap.size := block_lt_of_cell hc
  have Hg := Lib.hid hg
  clear hg
  obtain ⟨x0, x1, x2⟩ := o
  unfold Half.val at *
  go_enter Tryz.func89, Tryz.ntmps89
  go_wp2_with fail
  refine (Hg.out _ ?_).mono ?_
  · first | exact Ext.refl _ | exact (Ext.refl _).alloc _
  rintro e w' ⟨rfl, hb⟩
  go_wp2_with fail
  go_ret
  exact ⟨rfl, by first | assumption | exact ((Ext.refl _).alloc _).trans (by assumption)⟩

theorem every_half0 (g : Nat) (eg : ∀ args w, (callFunc g args).run Tryz.prog w = .ok (.enter g args) w) (a : Option Addr) (n cap : Nat) (l : List Half) (p : Half → Bool) (w : World) (hl : HalvesAt w a n l) (hn : n ≤ 1000000000)
    (hp : ∀ o, o ∈ l → ∀ W, Ext w W → Calls Tryz.prog g #[o.val] W fun e W' => e = .returned (.bool (p o)) ∧ Ext W W') :
    Calls Tryz.prog 61 #[.slice a n cap, .func (.func g) #[] #[]] w fun e w' =>
      e = .returned (.bool (l.all p)) ∧ Ext w w' := by
  have hi : Ext w (w.alloc (.cells #[.func (.func g) #[] #[]] 127)) := (Ext.refl _).alloc _
  have hc := contains_half a n cap w.heap.size l (fun o => !p o) (w.alloc (.cells #[.func (.func g) #[] #[]] 127)) (hl.ext hi) hn
    (fun o ho W hW => everyFn_half0 g w.heap.size eg o (p o) W (hW.cell (by simp [go_sem])) (fun W' hW' => hp o ho W' (hi.trans (hW.trans hW'))))
  have Hc := Lib.hid hc
  clear hc hp hl
  go_enter Tryz.func61, Tryz.ntmps61
  go_wp2_with (go_at_call 88; refine Hc.out.mono ?_; rintro e w' ⟨rfl, hb⟩)
  go_ret
  exact ⟨ret_bool (any_not p l), hi.trans (by assumption)⟩
theorem everyFn_half1 (g c g1 : Nat) (eg : ∀ args w, (callFunc g args).run Tryz.prog w = .ok (.enter g args) w) (o : Half) (b : Bool) (W : World) (hc : W.cell? ⟨c, 0, none⟩ = some (.func (.func g) #[] #[.pointer (some ⟨g1, 0, none⟩)]))
    (hg : ∀ W', Ext W W' → Calls Tryz.prog g #[o.val, .pointer (some ⟨g1, 0, none⟩)] W' fun e W'' => e = .returned (.bool b) ∧ Ext W' W'') :
    Calls Tryz.prog 89 #[o.val, .pointer (some ⟨c, 0, none⟩)] W fun e W' => e = .returned (.bool (!b)) ∧ Ext W W' := by
  have hcb : c < W.heap.size := block_lt_of_cell hc
  have Hg := Lib.hid hg
  clear hg
  obtain ⟨x0, x1, x2⟩ := o
  unfold Half.val at *
  go_enter Tryz.func89, Tryz.ntmps89
  go_wp2_with fail
  refine (Hg.out _ ?_).mono ?_
  · first | exact Ext.refl _ | exact (Ext.refl _).alloc _
  rintro e w' ⟨rfl, hb⟩
  go_wp2_with fail
  go_ret
  exact ⟨rfl, by first | assumption | exact ((Ext.refl _).alloc _).trans (by assumption)⟩

theorem every_half1 (g g1 : Nat) (eg : ∀ args w, (callFunc g args).run Tryz.prog w = .ok (.enter g args) w) (a : Option Addr) (n cap : Nat) (l : List Half) (p : Half → Bool) (w : World) (hl : HalvesAt w a n l) (hn : n ≤ 1000000000)
    (hp : ∀ o, o ∈ l → ∀ W, Ext w W → Calls Tryz.prog g #[o.val, .pointer (some ⟨g1, 0, none⟩)] W fun e W' => e = .returned (.bool (p o)) ∧ Ext W W') :
    Calls Tryz.prog 61 #[.slice a n cap, .func (.func g) #[] #[.pointer (some ⟨g1, 0, none⟩)]] w fun e w' =>
      e = .returned (.bool (l.all p)) ∧ Ext w w' := by
  have hi : Ext w (w.alloc (.cells #[.func (.func g) #[] #[.pointer (some ⟨g1, 0, none⟩)]] 127)) := (Ext.refl _).alloc _
  have hc := contains_half a n cap w.heap.size l (fun o => !p o) (w.alloc (.cells #[.func (.func g) #[] #[.pointer (some ⟨g1, 0, none⟩)]] 127)) (hl.ext hi) hn
    (fun o ho W hW => everyFn_half1 g w.heap.size g1 eg o (p o) W (hW.cell (by simp [go_sem])) (fun W' hW' => hp o ho W' (hi.trans (hW.trans hW'))))
  have Hc := Lib.hid hc
  clear hc hp hl
  go_enter Tryz.func61, Tryz.ntmps61
  go_wp2_with (go_at_call 88; refine Hc.out.mono ?_; rintro e w' ⟨rfl, hb⟩)
  go_ret
  exact ⟨ret_bool (any_not p l), hi.trans (by assumption)⟩

/-! ### 'every' over trek -/
set_option maxHeartbeats 400000 in
theorem indexFunc_trek (a : Option Addr) (n cap c : Nat) (l : List Trek) (p : Trek → Bool) (w : World) (hl : TreksAt w a n l) (hn : n ≤ 1000000000)
    (hp : ∀ o, o ∈ l → ∀ W, Ext w W → Calls Tryz.prog 56 #[o.val, .pointer (some ⟨c, 0, none⟩)] W fun e W' => e = .returned (.bool (p o)) ∧ Ext W W') :
    Calls Tryz.prog 84 #[.slice a n cap, .func (.func 56) #[] #[.pointer (some ⟨c, 0, none⟩)]] w fun e w' =>
      e = .returned (.int .i64 (idxI p l)) ∧ Ext w w' := by
  have Hp := Lib.hid hp
  have Hl := Lib.hid hl
  clear hp hl
  go_enter Tryz.func84, Tryz.ntmps84
  go_wp2_with fail
  go_loopw [5, 8] (fun i5 i8 wr => ∃ k : Nat, k ≤ n ∧ i8 = .int .i64 k ∧ Ext w wr ∧ ∀ (j : Nat) (y : Trek), j < k → l[j]? = some y → p y = false) (fun _ i8 _ => n - (intOf i8).toNat)
  case atStart => exact ⟨0, Nat.zero_le _, rfl, Ext.refl _, fun j y h => by omega⟩
  case round =>
    obtain ⟨k, hk, rfl, hx, hall⟩ := hrel
    have Hall := Lib.hid hall
    clear hall
    by_cases hlt : k < n
    · obtain ⟨b, off, x, rfl, hxk, hb, c0, c1, c2, c3, c4, c5⟩ := (Hl.out.ext hx).get k hlt
      have Hxk := Lib.hid hxk
      clear hxk
      have hc := Hp.out x (List.mem_of_getElem? Hxk.out) wr hx
      have Hc := Lib.hid hc
      clear hc
      cases hpx : p x with
      | true =>
        have Hpx := Lib.hid hpx
        rw [hpx] at Hc
        clear hpx
        go_wp2_with (go_at_call 56; refine Hc.out.mono ?_; rintro e w' ⟨rfl, hb⟩)
        go_ret
        exact ⟨ret_int (idxI_some Hxk.out Hpx.out Hall.out).symm, hx.trans (by assumption)⟩
      | false =>
        have Hpx := Lib.hid hpx
        rw [hpx] at Hc
        clear hpx
        go_wp2_with (go_at_call 56; refine Hc.out.mono ?_; rintro e w' ⟨rfl, hb⟩)
        go_roundw
        case rel => exact ⟨k + 1, by omega, by go_num, hx.trans (by assumption), fun j y hj hy => by
            rcases Nat.lt_or_ge j k with h | h
            · exact Hall.out j y h hy
            · have e : j = k := by omega
              subst e
              have := Hxk.out
              rw [hy] at this
              cases this
              exact Hpx.out⟩
        case measure => simp [intOf]; omega
    · go_wp2_with fail
      go_ret
      refine ⟨ret_int ?_, hx⟩
      refine (idxI_none (fun j y hy => Hall.out j y ?_ hy)).symm
      have h1 := Hl.out.1
      rcases Nat.lt_or_ge j l.length with h | h
      · omega
      · simp [List.getElem?_eq_none h] at hy

theorem contains_trek (a : Option Addr) (n cap c : Nat) (l : List Trek) (p : Trek → Bool) (w : World) (hl : TreksAt w a n l) (hn : n ≤ 1000000000)
    (hp : ∀ o, o ∈ l → ∀ W, Ext w W → Calls Tryz.prog 56 #[o.val, .pointer (some ⟨c, 0, none⟩)] W fun e W' => e = .returned (.bool (p o)) ∧ Ext W W') :
    Calls Tryz.prog 55 #[.slice a n cap, .func (.func 56) #[] #[.pointer (some ⟨c, 0, none⟩)]] w fun e w' =>
      e = .returned (.bool (l.any p)) ∧ Ext w w' := by
  have Hc := Lib.hid (indexFunc_trek a n cap c l p w hl hn hp)
  clear hp hl
  go_enter Tryz.func55, Tryz.ntmps55
  go_wp2_with (go_at_call 84; refine Hc.out.mono ?_; rintro e w' ⟨rfl, hb⟩)
  go_ret
  exact ⟨ret_bool (idxI_ge p l), by assumption⟩

theorem everyFn_trek0 (g c : Nat) (eg : ∀ args w, (callFunc g args).run Tryz.prog w = .ok (.enter g args) w) (o : Trek) (b : Bool) (W : World) (hc : W.cell? ⟨c, 0, none⟩ = some (.func (.func g) #[] #[]))
    (hg : ∀ W', Ext W W' → Calls Tryz.prog g #[o.val] W' fun e W'' => e = .returned (.bool b) ∧ Ext W' W'') :
    Calls Tryz.prog 56 #[o.val, .pointer (some ⟨c, 0, none⟩)] W fun e W' => e = .returned (.bool (!b)) ∧ Ext W W' := by
  have hcb : c < W.heap.size := block_lt_of_cell hc
  have Hg := Lib.hid hg
  clear hg
  obtain ⟨⟨x0, x1⟩, ⟨x2, x3⟩, ⟨x4, x5⟩⟩ := o
  unfold Trek.val at *
  go_enter Tryz.func56, Tryz.ntmps56
  go_wp2_with fail
  refine (Hg.out _ ?_).mono ?_
  · first | exact Ext.refl _ | exact (Ext.refl _).alloc _
  rintro e w' ⟨rfl, hb⟩
  go_wp2_with fail
  go_ret
  exact ⟨rfl, by first | assumption | exact ((Ext.refl _).alloc _).trans (by assumption)⟩

theorem every_trek0 (g : Nat) (eg : ∀ args w, (callFunc g args).run Tryz.prog w = .ok (.enter g args) w) (a : Option Addr) (n cap : Nat) (l : List Trek) (p : Trek → Bool) (w : World) (hl : TreksAt w a n l) (hn : n ≤ 1000000000)
    (hp : ∀ o, o ∈ l → ∀ W, Ext w W → Calls Tryz.prog g #[o.val] W fun e W' => e = .returned (.bool (p o)) ∧ Ext W W') :
    Calls Tryz.prog 34 #[.slice a n cap, .func (.func g) #[] #[]] w fun e w' =>
      e = .returned (.bool (l.all p)) ∧ Ext w w' := by
  have hi : Ext w (w.alloc (.cells #[.func (.func g) #[] #[]] 44)) := (Ext.refl _).alloc _
  have hc := contains_trek a n cap w.heap.size l (fun o => !p o) (w.alloc (.cells #[.func (.func g) #[] #[]] 44)) (hl.ext hi) hn
    (fun o ho W hW => everyFn_trek0 g w.heap.size eg o (p o) W (hW.cell (by simp [go_sem])) (fun W' hW' => hp o ho W' (hi.trans (hW.trans hW'))))
  have Hc := Lib.hid hc
  clear hc hp hl
  go_enter Tryz.func34, Tryz.ntmps34
  go_wp2_with (go_at_call 55; refine Hc.out.mono ?_; rintro e w' ⟨rfl, hb⟩)
  go_ret
  exact ⟨ret_bool (any_not p l), hi.trans (by assumption)⟩

/-! ### 'every' over span -/
set_option maxHeartbeats 400000 in
theorem indexFunc_span (a : Option Addr) (n cap c : Nat) (l : List Span) (p : Span → Bool) (w : World) (hl : SpansAt w a n l) (hn : n ≤ 1000000000)
    (hp : ∀ o, o ∈ l → ∀ W, Ext w W → Calls Tryz.prog 99 #[o.val, .pointer (some ⟨c, 0, none⟩)] W fun e W' => e = .returned (.bool (p o)) ∧ Ext W W') :
    Calls Tryz.prog 117 #[.slice a n cap, .func (.func 99) #[] #[.pointer (some ⟨c, 0, none⟩)]] w fun e w' =>
      e = .returned (.int .i64 (idxI p l)) ∧ Ext w w' := by
  have Hp := Lib.hid hp
  have Hl := Lib.hid hl
  clear hp hl
  go_enter Tryz.func117, Tryz.ntmps117
  go_wp2_with fail
  go_loopw [5, 8] (fun i5 i8 wr => ∃ k : Nat, k ≤ n ∧ i8 = .int .i64 k ∧ Ext w wr ∧ ∀ (j : Nat) (y : Span), j < k → l[j]? = some y → p y = false) (fun _ i8 _ => n - (intOf i8).toNat)
  case atStart => exact ⟨0, Nat.zero_le _, rfl, Ext.refl _, fun j y h => by omega⟩
  case round =>
    obtain ⟨k, hk, rfl, hx, hall⟩ := hrel
    have Hall := Lib.hid hall
    clear hall
    by_cases hlt : k < n
    · obtain ⟨b, off, x, rfl, hxk, hb, c0, c1⟩ := (Hl.out.ext hx).get k hlt
      have Hxk := Lib.hid hxk
      clear hxk
      have hc := Hp.out x (List.mem_of_getElem? Hxk.out) wr hx
      have Hc := Lib.hid hc
      clear hc
      cases hpx : p x with
      | true =>
        have Hpx := Lib.hid hpx
        rw [hpx] at Hc
        clear hpx
        go_wp2_with (go_at_call 99; refine Hc.out.mono ?_; rintro e w' ⟨rfl, hb⟩)
        go_ret
        exact ⟨ret_int (idxI_some Hxk.out Hpx.out Hall.out).symm, hx.trans (by assumption)⟩
      | false =>
        have Hpx := Lib.hid hpx
        rw [hpx] at Hc
        clear hpx
        go_wp2_with (go_at_call 99; refine Hc.out.mono ?_; rintro e w' ⟨rfl, hb⟩)
        go_roundw
        case rel => exact ⟨k + 1, by omega, by go_num, hx.trans (by assumption), fun j y hj hy => by
            rcases Nat.lt_or_ge j k with h | h
            · exact Hall.out j y h hy
            · have e : j = k := by omega
              subst e
              have := Hxk.out
              rw [hy] at this
              cases this
              exact Hpx.out⟩
        case measure => simp [intOf]; omega
    · go_wp2_with fail
      go_ret
      refine ⟨ret_int ?_, hx⟩
      refine (idxI_none (fun j y hy => Hall.out j y ?_ hy)).symm
      have h1 := Hl.out.1
      rcases Nat.lt_or_ge j l.length with h | h
      · omega
      · simp [List.getElem?_eq_none h] at hy

theorem contains_span (a : Option Addr) (n cap c : Nat) (l : List Span) (p : Span → Bool) (w : World) (hl : SpansAt w a n l) (hn : n ≤ 1000000000)
    (hp : ∀ o, o ∈ l → ∀ W, Ext w W → Calls Tryz.prog 99 #[o.val, .pointer (some ⟨c, 0, none⟩)] W fun e W' => e = .returned (.bool (p o)) ∧ Ext W W') :
    Calls Tryz.prog 98 #[.slice a n cap, .func (.func 99) #[] #[.pointer (some ⟨c, 0, none⟩)]] w fun e w' =>
      e = .returned (.bool (l.any p)) ∧ Ext w w' := by
  have Hc := Lib.hid (indexFunc_span a n cap c l p w hl hn hp)
  clear hp hl
  go_enter Tryz.func98, Tryz.ntmps98
  go_wp2_with (go_at_call 117; refine Hc.out.mono ?_; rintro e w' ⟨rfl, hb⟩)
  go_ret
  exact ⟨ret_bool (idxI_ge p l), by assumption⟩

theorem everyFn_span2 (g c g1 g2 : Nat) (eg : ∀ args w, (callFunc g args).run Tryz.prog w = .ok (.enter g args) w) (o : Span) (b : Bool) (W : World) (hc : W.cell? ⟨c, 0, none⟩ = some (.func (.func g) #[] #[.pointer (some ⟨g1, 0, none⟩), .pointer (some ⟨g2, 0, none⟩)]))
    (hg : ∀ W', Ext W W' → Calls Tryz.prog g #[o.val, .pointer (some ⟨g1, 0, none⟩), .pointer (some ⟨g2, 0, none⟩)] W' fun e W'' => e = .returned (.bool b) ∧ Ext W' W'') :
    Calls Tryz.prog 99 #[o.val, .pointer (some ⟨c, 0, none⟩)] W fun e W' => e = .returned (.bool (!b)) ∧ Ext W W' := by
  have hcb : c < W.heap.size := block_lt_of_cell hc
  have Hg := Lib.hid hg
  clear hg
  obtain ⟨x0, x1⟩ := o
  unfold Span.val at *
  go_enter Tryz.func99, Tryz.ntmps99
  go_wp2_with fail
  refine (Hg.out _ ?_).mono ?_
  · first | exact Ext.refl _ | exact (Ext.refl _).alloc _
  rintro e w' ⟨rfl, hb⟩
  go_wp2_with fail
  go_ret
  exact ⟨rfl, by first | assumption | exact ((Ext.refl _).alloc _).trans (by assumption)⟩

theorem every_span2 (g g1 g2 : Nat) (eg : ∀ args w, (callFunc g args).run Tryz.prog w = .ok (.enter g args) w) (a : Option Addr) (n cap : Nat) (l : List Span) (p : Span → Bool) (w : World) (hl : SpansAt w a n l) (hn : n ≤ 1000000000)
    (hp : ∀ o, o ∈ l → ∀ W, Ext w W → Calls Tryz.prog g #[o.val, .pointer (some ⟨g1, 0, none⟩), .pointer (some ⟨g2, 0, none⟩)] W fun e W' => e = .returned (.bool (p o)) ∧ Ext W W') :
    Calls Tryz.prog 70 #[.slice a n cap, .func (.func g) #[] #[.pointer (some ⟨g1, 0, none⟩), .pointer (some ⟨g2, 0, none⟩)]] w fun e w' =>
      e = .returned (.bool (l.all p)) ∧ Ext w w' := by
  have hi : Ext w (w.alloc (.cells #[.func (.func g) #[] #[.pointer (some ⟨g1, 0, none⟩), .pointer (some ⟨g2, 0, none⟩)]] 140)) := (Ext.refl _).alloc _
  have hc := contains_span a n cap w.heap.size l (fun o => !p o) (w.alloc (.cells #[.func (.func g) #[] #[.pointer (some ⟨g1, 0, none⟩), .pointer (some ⟨g2, 0, none⟩)]] 140)) (hl.ext hi) hn
    (fun o ho W hW => everyFn_span2 g w.heap.size g1 g2 eg o (p o) W (hW.cell (by simp [go_sem])) (fun W' hW' => hp o ho W' (hi.trans (hW.trans hW'))))
  have Hc := Lib.hid hc
  clear hc hp hl
  go_enter Tryz.func70, Tryz.ntmps70
  go_wp2_with (go_at_call 98; refine Hc.out.mono ?_; rintro e w' ⟨rfl, hb⟩)
  go_ret
  exact ⟨ret_bool (any_not p l), hi.trans (by assumption)⟩
end Go.Proofs.YtcoelhpmkhimpaaGreat
