/- Layer 3, in plain words: what water a well has, after draws. No function of the program is named here. -/
import Derived.Test.YtcoelhpmkhimpaaGreatDoorWay
namespace Go.Proofs.YtcoelhpmkhimpaaGreatDoor
set_option linter.unusedVariables false
def filledOf (w : Well) (h : Span) (d : Int) : Span := ⟨min w.room (h.lo + d * w.yield.lo), min w.room (h.hi + d * w.yield.hi)⟩
def drawsOk (n : Nat) : Int → List Draw → Bool
  | _, [] => true
  | k, x :: l => inB x.well 0 (n - 1) && inB x.day k 100000 && inB x.water 0 1000000000 && drawsOk n x.day l
/-- what a well has, and since which evening; or which draw finds too little -/
def drawnOf (w : Well) (well day : Int) : Span → Int → List Draw → Except Nat (Span × Int)
  | h, e, [] => .ok (h, e)
  | h, e, x :: l => if x.well ≠ well ∨ day ≤ x.day then (match drawnOf w well day h e l with | .error k => .error (k + 1) | .ok r => .ok r)
    else if (filledOf w h (x.day - e)).hi < x.water then .error 0
    else match drawnOf w well day ⟨max 0 ((filledOf w h (x.day - e)).lo - x.water), (filledOf w h (x.day - e)).hi - x.water⟩ x.day l with | .error k => .error (k + 1) | .ok r => .ok r
def waterAsk (l : Land) (well : Int) (draws : List Draw) (day : Int) : Int :=
  if landOk l = false then 30 else if (inB well 0 (l.wells.length - 1) && inB day 0 100000) = false then 2 else if 200 < draws.length then 4 else if drawsOk l.wells.length 0 draws = false then 32 else 0
def waterAt (l : Land) (well : Int) (draws : List Draw) (day : Int) : Span × Int × Int :=
  if waterAsk l well draws day ≠ 0 then (⟨0, 0⟩, 0, waterAsk l well draws day)
  else match drawnOf (l.wells.getD well.toNat zw) well day (l.wells.getD well.toNat zw).has (-1) draws with
    | .error k => (⟨0, 0⟩, k, 33)
    | .ok r => (filledOf (l.wells.getD well.toNat zw) r.1 (day - 1 - r.2), 0, 0)
structure WellOk (w : Well) : Prop where
  yield : SpanIs w.yield 0 10000000
  room : 0 ≤ w.room ∧ w.room ≤ 1000000000
  has : SpanIs w.has 0 w.room
theorem wellIs {w : Well} (h : wellOk w = true) : WellOk w := by
  simp only [wellOk, Bool.and_eq_true] at h
  obtain ⟨⟨⟨⟨⟨h1, h2⟩, h3⟩, h4⟩, h5⟩, h6⟩ := h
  exact ⟨spanIs h3, inB_is h4, spanIs h5⟩
theorem filled_is {w : Well} (hw : WellOk w) {h : Span} {d : Int} (hh : SpanIs h 0 w.room) (hd : 0 ≤ d) : SpanIs (filledOf w h d) 0 w.room := by
  have h1 := mul_le2 hd (Int.le_refl d) hw.yield.low hw.yield.ord (Int.le_refl d) hw.yield.top
  have := hh.low
  have := hh.ord
  have := hw.room
  exact ⟨by simp only [filledOf]; omega, by simp only [filledOf]; omega, by simp only [filledOf]; omega⟩
theorem filled_mono {w : Well} (hw : WellOk w) {h : Span} {d e : Int} (hd : 0 ≤ d) (he : d ≤ e) : (filledOf w h d).lo ≤ (filledOf w h e).lo ∧ (filledOf w h d).hi ≤ (filledOf w h e).hi := by
  have h1 := (mul_le2 hd he hw.yield.low (Int.le_refl _) (Int.le_refl e) (Int.le_refl _)).2.1
  have h2 := (mul_le2 hd he (show 0 ≤ w.yield.hi by have := hw.yield; have := this.low; have := hw.yield.ord; omega) (Int.le_refl _) (Int.le_refl e) (Int.le_refl _)).2.1
  exact ⟨by simp only [filledOf]; omega, by simp only [filledOf]; omega⟩
theorem filled_zero {w : Well} {h : Span} (hh : SpanIs h 0 w.room) : filledOf w h 0 = h := by
  have := hh.ord
  have := hh.top
  obtain ⟨a, b⟩ := h
  simp only [filledOf, Int.zero_mul, Int.add_zero, Span.mk.injEq] at *
  omega
end Go.Proofs.YtcoelhpmkhimpaaGreatDoor
