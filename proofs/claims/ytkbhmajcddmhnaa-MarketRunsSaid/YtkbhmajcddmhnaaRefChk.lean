/- Contracts of the reference: Great, Offers, Stocks. -/
import Derived.Test.YtkbhmajcddmhnaaHere
import Derived.Test.YtkbhmajcddmhnaaFilled
namespace Go.Proofs.Ytkbhmajcddmhnaa
open Go.RowKit
set_option linter.unusedVariables false

def greatB (l : List Offer) (fs : List Fair) : Bool := decide (15 < l.length) || decide (8 < fs.length) || fs.any fun f => decide (10 < f.keeps.length)

theorem great_any (a : Option Addr) (n cap : Nat) (l : List Offer) (fa : Option Addr) (fn fc : Nat) (fs : List Fair) (w : World) (hln : l.length = n) (hf : FairsAt w fa fn fs) (hn : n ≤ maxLen) (hm : fn ≤ maxLen) :
    Calls Try.prog 15 #[.slice a n cap, .slice fa fn fc] w fun e w' => e = .returned (.bool (greatB l fs)) ∧ Ext w w' := by
  have hfn := hf.1
  unfold maxLen at hn hm
  have Hf := Lib.hid hf
  have Hl := Lib.hid hln
  have Hfn := Lib.hid hfn
  clear hf hln hfn
  by_cases h1 : 15 < n
  · go_enter Try.func15, Try.ntmps15
    go_wp2_with fail
    go_ret
    exact ⟨ret_bool (by simp [greatB, Hl.out, h1]), Ext.refl _⟩
  by_cases h2 : 8 < fn
  · go_enter Try.func15, Try.ntmps15
    go_wp2_with fail
    go_ret
    exact ⟨ret_bool (by simp [greatB, Hfn.out, h2]), Ext.refl _⟩
  go_enter Try.func15, Try.ntmps15
  go_wp2_with fail
  go_loop [5] (fun i => ∃ k : Nat, k ≤ fn ∧ i = .int .i64 k ∧ ∀ (j : Nat) (y : Fair), j < k → fs[j]? = some y → y.keeps.length ≤ 10) (fun i => fn - (intOf i).toNat)
  case atStart => exact ⟨0, Nat.zero_le _, rfl, fun j y h => by omega⟩
  case round =>
    obtain ⟨k, hk, rfl, hall⟩ := hrel
    have Hall := Lib.hid hall
    clear hall
    by_cases hlt : k < fn
    · obtain ⟨b, off, x, ka, kn, kc, rfl, hxk, hb, c0, c1, c2, h3, h4, h5⟩ := Hf.out.get k hlt
      have hkl := h5.1
      have Hx := Lib.hid (And.intro hxk hkl)
      unfold maxLen at h4
      clear hxk h5 hkl
      by_cases h10 : 10 < kn
      · go_wp2_with fail
        go_ret
        refine ⟨ret_bool ?_, Ext.refl _⟩
        symm
        unfold greatB
        have : (fs.any fun f => decide (10 < f.keeps.length)) = true := List.any_eq_true.2 ⟨x, List.mem_of_getElem? Hx.out.1, by rw [Hx.out.2]; simpa using h10⟩
        rw [this]; simp
      · go_wp2_with fail
        go_round
        case rel => exact ⟨k + 1, by omega, by go_num, fun j y hj hy => by
            rcases Nat.lt_or_ge j k with h | h
            · exact Hall.out j y h hy
            · have e : j = k := by omega
              subst e
              have := Hx.out.1
              rw [hy] at this
              cases this
              have := Hx.out.2
              omega⟩
        case measure => simp [intOf]; omega
    · go_wp2_with fail
      go_ret
      refine ⟨ret_bool ?_, Ext.refl _⟩
      symm
      unfold greatB
      have e1 : decide (15 < l.length) = false := by rw [Hl.out]; simpa using h1
      have e2 : decide (8 < fs.length) = false := by rw [Hfn.out]; simpa using h2
      have e3 : (fs.any fun f => decide (10 < f.keeps.length)) = false := by
        rw [List.any_eq_false]
        intro y hy
        obtain ⟨j, hj⟩ := List.mem_iff_getElem?.1 hy
        have hjl : j < fs.length := by rcases Nat.lt_or_ge j fs.length with h | h; exact h; simp [List.getElem?_eq_none h] at hj
        have := Hall.out j y (by have := Hfn.out; omega) hj
        simp; omega
      rw [e1, e2, e3]; rfl

theorem stocks_any (a : Option Addr) (n cap : Nat) (l : List Int) (w : World) (hl : IntsAt .i64 w a n l) (hn : n ≤ 1000000) :
    Calls Try.prog 34 #[.slice a n cap] w fun e w' => e = .returned (.bool (stocksOk l)) ∧ Ext w w' := by
  have hln := hl.1
  have Hl := Lib.hid hl
  have Hln := Lib.hid hln
  clear hl hln
  by_cases h5 : n = 5
  · subst h5
    go_enter Try.func34, Try.ntmps34
    go_wp2_with fail
    go_loop [3] (fun i => ∃ k : Nat, k ≤ 5 ∧ i = .int .i64 k ∧ ∀ (j : Nat) (y : Int), j < k → l[j]? = some y → inB y 0 1000000 = true) (fun i => 5 - (intOf i).toNat)
    case atStart => exact ⟨0, Nat.zero_le _, rfl, fun j y h => by omega⟩
    case round =>
      obtain ⟨k, hk, rfl, hall⟩ := hrel
      have Hall := Lib.hid hall
      clear hall
      by_cases hlt : k < 5
      · obtain ⟨b, off, x, rfl, hxk, hb, c0⟩ := Hl.out.get k hlt
        have Hx := Lib.hid hxk
        clear hxk
        have hc := within_any x 0 1000000
        cases hin : inB x 0 1000000
        all_goals
          rw [hin] at hc
          have Hc := Lib.hid hc
          have Hin := Lib.hid hin
          clear hc hin
          go_wp2_with (go_at_call 50; refine (Hc.out _).mono ?_; rintro e w' ⟨rfl, rfl⟩)
        · go_ret
          refine ⟨ret_bool ?_, Ext.refl _⟩
          symm
          have : (l.all fun n => inB n 0 1000000) = false := by
            rw [List.all_eq_false]
            exact ⟨x, List.mem_of_getElem? Hx.out, by rw [Hin.out]; simp⟩
          simp [stocksOk, this]
        · go_round
          case rel => exact ⟨k + 1, by omega, by go_num, fun j y hj hy => by
              rcases Nat.lt_or_ge j k with h | h
              · exact Hall.out j y h hy
              · have e : j = k := by omega
                subst e
                have := Hx.out
                rw [hy] at this
                cases this
                exact Hin.out⟩
          case measure => simp [intOf]; omega
      · go_wp2_with fail
        go_ret
        refine ⟨ret_bool ?_, Ext.refl _⟩
        symm
        have e1 : decide (l.length = 5) = true := by rw [Hln.out]; rfl
        have : (l.all fun n => inB n 0 1000000) = true := by
          rw [List.all_eq_true]
          intro y hy
          obtain ⟨j, hj⟩ := List.mem_iff_getElem?.1 hy
          have hjl : j < l.length := by rcases Nat.lt_or_ge j l.length with h | h; exact h; simp [List.getElem?_eq_none h] at hj
          exact Hall.out j y (by have := Hln.out; omega) hj
        simp [stocksOk, this, Hln.out]
  · have h5' : ((n : Int) != 5) = true := by rw [bne_iff_ne]; omega
    go_enter Try.func34, Try.ntmps34
    go_wp2_with fail
    go_ret
    exact ⟨ret_bool (by simp [stocksOk, Hln.out, h5]), Ext.refl _⟩

theorem offersOk_false {l : List Offer} {x : Offer} (h : x ∈ l) (hv : x.valid = false) : offersOk l = false := by
  have : l.all Offer.valid = false := by rw [List.all_eq_false]; exact ⟨x, h, by rw [hv]; simp⟩
  simp [offersOk, this]

set_option maxHeartbeats 2000000 in
theorem refOffers_any (a : Option Addr) (n cap : Nat) (l : List Offer) (w : World) (hl : OffersAt w a n l) (hn : n ≤ 1000000) :
    Calls Try.prog 39 #[.slice a n cap] w fun e w' => e = .returned (.bool (offersOk l)) ∧ Ext w w' := by
  have hln := hl.1
  have Hl := Lib.hid hl
  have Hln := Lib.hid hln
  clear hl hln
  by_cases h10 : 10 < n
  · go_enter Try.func39, Try.ntmps39
    go_wp2_with fail
    go_ret
    exact ⟨ret_bool (by simp [offersOk, Hln.out]; omega), Ext.refl _⟩
  go_enter Try.func39, Try.ntmps39
  go_wp2_with fail
  go_loopw [3] (fun i wr => ∃ k : Nat, k ≤ n ∧ i = .int .i64 k ∧ Ext w wr ∧ ∀ (j : Nat) (y : Offer), j < k → l[j]? = some y → y.valid = true) (fun i _ => n - (intOf i).toNat)
  case atStart => exact ⟨0, Nat.zero_le _, rfl, Ext.refl _, fun j y h => by omega⟩
  case round =>
    obtain ⟨k, hk, rfl, hx, hall⟩ := hrel
    have Hall := Lib.hid hall
    clear hall
    by_cases hlt : k < n
    · obtain ⟨b, off, x, rfl, hxk, hb, c0, c1, c2, c3, c4, c5, c6, c7⟩ := (Hl.out.ext hx).get k hlt
      have Hx := Lib.hid (And.intro hxk hx)
      clear hxk hx
      go_wp2_with (first | (go_at_call 50; refine (within_any _ _ _ _).mono ?_; rintro e w' ⟨rfl, rfl⟩) | (go_at_call 70; refine (ordered_any _ _ _ _ _).mono ?_; rintro e w' ⟨rfl, hb⟩; obtain ⟨hc, hf, hz⟩ := hb.facts))
      case' roundEnd => go_roundw
      case measure => simp [intOf]; omega
      case rel =>
        refine ⟨k + 1, by omega, by go_num, ?_, fun j y hj hy => ?_⟩
        · have hx0 := Hx.out.2
          with_reducible (repeat (first | assumption | exact Ext.refl _ | refine Ext.alloc ?_ _ | refine Ext.drew ?_ | (refine Ext.trans ?_ (by assumption))))
        · rcases Nat.lt_or_ge j k with h | h
          · exact Hall.out j y h hy
          · have e : j = k := by omega
            subst e
            have := Hx.out.1
            rw [hy] at this
            cases this
            simp [Offer.valid, inB, properB] at *
            omega
      all_goals
        go_ret
        refine ⟨ret_bool ?_, ?_⟩
        · symm
          refine offersOk_false (List.mem_of_getElem? Hx.out.1) ?_
          simp [Offer.valid, inB, properB] at *
          omega
        · have hx0 := Hx.out.2
          with_reducible (repeat (first | assumption | exact Ext.refl _ | refine Ext.alloc ?_ _ | refine Ext.drew ?_ | (refine Ext.trans ?_ (by assumption))))
    · go_wp2_with fail
      go_ret
      refine ⟨ret_bool ?_, hx⟩
      symm
      have : l.all Offer.valid = true := by
        rw [List.all_eq_true]
        intro y hy
        obtain ⟨j, hj⟩ := List.mem_iff_getElem?.1 hy
        have hjl : j < l.length := by rcases Nat.lt_or_ge j l.length with h | h; exact h; simp [List.getElem?_eq_none h] at hj
        exact Hall.out j y (by have := Hln.out; omega) hj
      simp [offersOk, this, Hln.out]; omega
end Go.Proofs.Ytkbhmajcddmhnaa
