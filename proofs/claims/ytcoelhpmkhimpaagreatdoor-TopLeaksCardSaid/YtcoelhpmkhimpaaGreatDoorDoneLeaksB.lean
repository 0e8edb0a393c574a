/- Contract of load.trying: the error that stopped what was tried. -/
import Derived.Test.YtcoelhpmkhimpaaGreatDoorCam
import Derived.Test.YtcoelhpmkhimpaaGreatDoorBase
import Derived.Test.YtcoelhpmkhimpaaGreatDoorFromTo
import Derived.Test.YtcoelhpmkhimpaaGreatDoorData
import Derived.Test.YtcoelhpmkhimpaaGreatDoorFromB
import Derived.Test.YtcoelhpmkhimpaaGreatDoorMix
import Derived.Test.YtcoelhpmkhimpaaGreatDoorOwn
import Derived.Test.YtcoelhpmkhimpaaGreatDoorScal
import Derived.RegionTactic
import Derived.BigRegion
import Derived.Test.YtcoelhpmkhimpaaGreatDoorLastsP
import Derived.Test.YtcoelhpmkhimpaaGreatDoorRngB
import Derived.Test.YtcoelhpmkhimpaaGreatDoorDaysIt
import Derived.Test.YtcoelhpmkhimpaaGreatDoorRepC
import Derived.Test.YtcoelhpmkhimpaaGreatDoorCamD
import Derived.Test.YtcoelhpmkhimpaaGreatDoorFlow
import Derived.Test.YtcoelhpmkhimpaaGreatDoorWalkP
import Derived.Test.YtcoelhpmkhimpaaGreatDoorUnl
import Derived.Test.YtcoelhpmkhimpaaGreatDoorTreeIn
import Derived.Test.YtcoelhpmkhimpaaGreatDoorRefC
import Derived.Test.YtcoelhpmkhimpaaGreatDoorWDays
import Derived.Test.YtcoelhpmkhimpaaGreatDoorCamC
import Derived.Test.YtcoelhpmkhimpaaGreatDoorTree
import Derived.Test.YtcoelhpmkhimpaaGreatDoorWaterP
import Derived.Test.YtcoelhpmkhimpaaGreatDoorArith
import Derived.Defers
import Derived.Recover
namespace Go.Proofs.YtcoelhpmkhimpaaGreatDoor
set_option linter.unusedVariables false
structure Pack where
  kind : Int
  mass : Span
  hard : Span
  crumbs : Span
  leak : Span
  hurt : Int
  days : Int
  deriving DecidableEq
def zspan : Span := ⟨0, 0⟩
def packKindOk (p : Pack) : Bool :=
  if p.kind = 1 then spanOk p.hard 1 100000 && spanOk p.crumbs 0 1000 && decide (p.leak = zspan)
  else if p.kind = 2 then decide (p.hard = zspan) && decide (p.crumbs = zspan) && decide (p.leak = zspan)
  else decide (p.kind = 3) && decide (p.hard = zspan) && decide (p.crumbs = zspan) && spanOk p.leak 0 1000000
def packOk (p : Pack) : Bool := spanOk p.mass 0 1000000 && inB p.hurt 0 6000000 && inB p.days 0 100000 && packKindOk p
/-- what is left of a pack -/
def leftP (p : Pack) : Span :=
  if p.kind = 3 then ⟨max 0 (p.mass.lo - p.leak.hi * p.days), max 0 (p.mass.hi - p.leak.lo * p.days)⟩
  else if p.kind = 2 ∨ p.hurt < p.hard.lo then p.mass
  else ⟨p.mass.lo * (1000 - p.crumbs.hi) / 1000, if p.hurt < p.hard.hi then p.mass.hi else (p.mass.hi * (1000 - p.crumbs.lo) + 999) / 1000⟩
/-- the same pack later on -/
structure Later (p q : Pack) : Prop where
  kind : q.kind = p.kind
  mass : q.mass = p.mass
  hard : q.hard = p.hard
  crumbs : q.crumbs = p.crumbs
  leak : q.leak = p.leak
  hurt : p.hurt ≤ q.hurt
  days : p.days ≤ q.days
theorem part_less {a k : Int} (ha : 0 ≤ a) (hk : 0 ≤ k) (hk1 : k ≤ 1000) : 0 ≤ a * (1000 - k) / 1000 ∧ a * (1000 - k) / 1000 ≤ a ∧ (a * (1000 - k) + 999) / 1000 ≤ a ∧ a * (1000 - k) / 1000 ≤ (a * (1000 - k) + 999) / 1000 := by
  have h0 := Int.mul_nonneg ha (show 0 ≤ 1000 - k by omega)
  have h1 := Int.mul_le_mul_of_nonneg_left (show 1000 - k ≤ 1000 by omega) ha
  omega
structure PackIs (p : Pack) : Prop where
  mass : SpanIs p.mass 0 1000000
  hurt : 0 ≤ p.hurt ∧ p.hurt ≤ 6000000
  days : 0 ≤ p.days ∧ p.days ≤ 100000
  kind : (p.kind = 1 ∧ SpanIs p.hard 1 100000 ∧ SpanIs p.crumbs 0 1000 ∧ p.leak = zspan) ∨ (p.kind = 2 ∧ p.hard = zspan ∧ p.crumbs = zspan ∧ p.leak = zspan) ∨ (p.kind = 3 ∧ p.hard = zspan ∧ p.crumbs = zspan ∧ SpanIs p.leak 0 1000000)
theorem packIs {p : Pack} (h : packOk p = true) : PackIs p := by
  simp only [packOk, Bool.and_eq_true] at h
  obtain ⟨⟨⟨h1, h2⟩, h3⟩, h4⟩ := h
  refine ⟨spanIs h1, inB_is h2, inB_is h3, ?_⟩
  unfold packKindOk at h4
  split at h4
  · rename_i e
    simp only [Bool.and_eq_true, decide_eq_true_eq] at h4
    exact .inl ⟨e, spanIs h4.1.1, spanIs h4.1.2, h4.2⟩
  · split at h4
    · rename_i e
      simp only [Bool.and_eq_true, decide_eq_true_eq] at h4
      exact .inr (.inl ⟨e, h4.1.1, h4.1.2, h4.2⟩)
    · simp only [Bool.and_eq_true, decide_eq_true_eq] at h4
      exact .inr (.inr ⟨h4.1.1.1, h4.1.1.2, h4.1.2, spanIs h4.2⟩)
theorem leftP1 {p : Pack} (k : p.kind = 1) : leftP p = if p.hurt < p.hard.lo then p.mass else ⟨p.mass.lo * (1000 - p.crumbs.hi) / 1000, if p.hurt < p.hard.hi then p.mass.hi else (p.mass.hi * (1000 - p.crumbs.lo) + 999) / 1000⟩ := by
  unfold leftP
  rw [if_neg (by omega)]
  by_cases e : p.hurt < p.hard.lo
  · rw [if_pos (.inr e), if_pos e]
  · rw [if_neg (by omega), if_neg e]
theorem leftP2 {p : Pack} (k : p.kind = 2) : leftP p = p.mass := by
  unfold leftP
  rw [if_neg (by omega), if_pos (.inl k)]
theorem leftP3 {p : Pack} (k : p.kind = 3) : leftP p = ⟨max 0 (p.mass.lo - p.leak.hi * p.days), max 0 (p.mass.hi - p.leak.lo * p.days)⟩ := by
  unfold leftP
  rw [if_pos k]
theorem left_of {p : Pack} (h : PackIs p) : SpanIs (leftP p) 0 1000000 := by
  have m1 := h.mass.low
  have m2 := h.mass.ord
  have m3 := h.mass.top
  rcases h.kind with ⟨k, h1, h2, h3⟩ | ⟨k, h1, h2, h3⟩ | ⟨k, h1, h2, h3⟩
  · have c1 := h2.low
    have c2 := h2.ord
    have c3 := h2.top
    have a := part_less m1 (show 0 ≤ p.crumbs.hi by omega) c3
    have b := part_less (show 0 ≤ p.mass.hi by omega) c1 (show p.crumbs.lo ≤ 1000 by omega)
    have hmm : p.mass.lo * (1000 - p.crumbs.hi) ≤ p.mass.hi * (1000 - p.crumbs.lo) := Int.mul_le_mul m2 (by omega) (by omega) (by omega)
    have hdd := Int.ediv_le_ediv (show (0 : Int) < 1000 by omega) hmm
    rw [leftP1 k]
    by_cases e1 : p.hurt < p.hard.lo
    · rw [if_pos e1]
      exact ⟨m1, m2, m3⟩
    · rw [if_neg e1]
      by_cases e2 : p.hurt < p.hard.hi
      · rw [if_pos e2]
        exact ⟨a.1, Int.le_trans a.2.1 m2, m3⟩
      · rw [if_neg e2]
        exact ⟨a.1, Int.le_trans hdd b.2.2.2, Int.le_trans b.2.2.1 m3⟩
  · rw [leftP2 k]
    exact ⟨m1, m2, m3⟩
  · have l1 := h3.low
    have l2 := h3.ord
    have d := h.days
    have e1 := Int.mul_nonneg l1 d.1
    have e2 := Int.mul_le_mul_of_nonneg_right l2 d.1
    rw [leftP3 k]
    exact ⟨by simp only; omega, by simp only; omega, by simp only; omega⟩
/-- what is left never grows -/
theorem left_less {p q : Pack} (hp : PackIs p) (hq : PackIs q) (h : Later p q) : (leftP q).lo ≤ (leftP p).lo ∧ (leftP q).hi ≤ (leftP p).hi := by
  have m1 := hp.mass.low
  have m2 := hp.mass.ord
  have hh := h.hurt
  have hd := h.days
  rcases hp.kind with ⟨k, h1, h2, h3⟩ | ⟨k, h1, h2, h3⟩ | ⟨k, h1, h2, h3⟩
  · have c1 := h2.low
    have c2 := h2.ord
    have c3 := h2.top
    have a := part_less m1 (show 0 ≤ p.crumbs.hi by omega) c3
    have b := part_less (show 0 ≤ p.mass.hi by omega) c1 (show p.crumbs.lo ≤ 1000 by omega)
    have o := h1.ord
    rw [leftP1 k, leftP1 (h.kind.trans k), h.mass, h.hard, h.crumbs]
    by_cases e1 : p.hurt < p.hard.lo
    · rw [if_pos e1]
      by_cases e2 : q.hurt < p.hard.lo
      · rw [if_pos e2]
        exact ⟨Int.le_refl _, Int.le_refl _⟩
      · rw [if_neg e2]
        by_cases e3 : q.hurt < p.hard.hi
        · rw [if_pos e3]
          exact ⟨a.2.1, Int.le_refl _⟩
        · rw [if_neg e3]
          exact ⟨a.2.1, b.2.2.1⟩
    · rw [if_neg e1, if_neg (show ¬q.hurt < p.hard.lo by omega)]
      by_cases e2 : p.hurt < p.hard.hi
      · rw [if_pos e2]
        by_cases e3 : q.hurt < p.hard.hi
        · rw [if_pos e3]
          exact ⟨Int.le_refl _, Int.le_refl _⟩
        · rw [if_neg e3]
          exact ⟨Int.le_refl _, b.2.2.1⟩
      · rw [if_neg e2, if_neg (show ¬q.hurt < p.hard.hi by omega)]
        exact ⟨Int.le_refl _, Int.le_refl _⟩
  · rw [leftP2 k, leftP2 (h.kind.trans k), h.mass]
    exact ⟨Int.le_refl _, Int.le_refl _⟩
  · have l1 := h3.low
    have l2 := h3.ord
    have e1 := Int.mul_le_mul_of_nonneg_left hd l1
    have e2 := Int.mul_le_mul_of_nonneg_left hd (show 0 ≤ p.leak.hi by omega)
    rw [leftP3 k, leftP3 (h.kind.trans k), h.mass, h.leak]
    exact ⟨by simp only; omega, by simp only; omega⟩
def zpack : Pack := ⟨0, zspan, zspan, zspan, zspan, 0, 0⟩
def packAt (l : List Pack) (i : Int) : Pack := l.getD i.toNat zpack
/-- what some packs weigh -/
def weigh (l : List Pack) : List Int → Span
  | [] => zspan
  | i :: r => ⟨(leftP (packAt l i)).lo + (weigh l r).lo, (leftP (packAt l i)).hi + (weigh l r).hi⟩
theorem weigh_less {l m : List Pack} : ∀ (is : List Int), (∀ i ∈ is, PackIs (packAt l i) ∧ PackIs (packAt m i) ∧ Later (packAt l i) (packAt m i)) → (weigh m is).lo ≤ (weigh l is).lo ∧ (weigh m is).hi ≤ (weigh l is).hi
  | [], _ => ⟨Int.le_refl _, Int.le_refl _⟩
  | i :: r, h => by
    obtain ⟨h1, h2, h3⟩ := h i (by simp)
    have a := left_less h1 h2 h3
    have b := weigh_less r fun j hj => h j (by simp [hj])
    simp only [weigh]
    omega
theorem weigh_is {l : List Pack} : ∀ (is : List Int), (∀ i ∈ is, PackIs (packAt l i)) → 0 ≤ (weigh l is).lo ∧ (weigh l is).lo ≤ (weigh l is).hi ∧ (weigh l is).hi ≤ is.length * 1000000
  | [], _ => by simp [weigh, zspan]
  | i :: r, h => by
    have a := left_of (h i (by simp))
    have b := weigh_is r fun j hj => h j (by simp [hj])
    have := a.low
    have := a.ord
    have := a.top
    simp only [weigh, List.length_cons]
    omega
structure Tied where
  left : List Int
  right : List Int
  top : List Int
def allOf (t : Tied) : List Int := t.left ++ t.right ++ t.top
def evenOf (l : List Pack) (t : Tied) (bound : Int) : Int :=
  if -bound ≤ (weigh l t.left).lo - (weigh l t.right).hi ∧ (weigh l t.left).hi - (weigh l t.right).lo ≤ bound then 2
  else if bound < (weigh l t.left).lo - (weigh l t.right).hi ∨ (weigh l t.left).hi - (weigh l t.right).lo < -bound then 0 else 1
def readyOf (l : List Pack) (t : Tied) (bound : Int) (can : Span) : Int :=
  if evenOf l t bound = 0 ∨ can.hi < (weigh l (allOf t)).lo then 0 else if evenOf l t bound = 2 ∧ (weigh l (allOf t)).hi ≤ can.lo then 2 else 1
/-- the law, in plain words -/
theorem leaks_law {l m : List Pack} {t : Tied} {bound : Int} {can : Span} (hcan : can.lo ≤ can.hi) (h : ∀ i ∈ allOf t, PackIs (packAt l i) ∧ PackIs (packAt m i) ∧ Later (packAt l i) (packAt m i)) :
    (readyOf l t bound can = 2 → evenOf m t bound = 2 → readyOf m t bound can = 2) ∧ (readyOf m t bound can = 0 → evenOf m t bound = 0 ∨ (can.hi < (weigh m (allOf t)).lo ∧ readyOf l t bound can = 0)) := by
  have hw := weigh_less (allOf t) h
  have hm := weigh_is (l := m) (allOf t) fun i hi => (h i hi).2.1
  constructor
  · intro h1 h2
    unfold readyOf at h1 ⊢
    rw [h2]
    split at h1
    · omega
    · split at h1
      · rename_i e1 e2
        rw [if_neg (by omega), if_pos (by omega)]
      · omega
  · intro h1
    unfold readyOf at h1
    split at h1
    · rename_i e
      rcases e with e | e
      · exact .inl e
      · refine .inr ⟨e, ?_⟩
        unfold readyOf
        rw [if_pos (.inr (by omega))]
    · split at h1 <;> omega
end Go.Proofs.YtcoelhpmkhimpaaGreatDoor

namespace Go.Proofs.YtcoelhpmkhimpaaGreatDoor
set_option linter.unusedVariables false
/-- numbers that rise from above 'last' to below n -/
def riseB (n last : Int) : List Int → Bool
  | [] => true
  | x :: r => inB x (last + 1) (n - 1) && riseB n x r
def lastOf (last : Int) : List Int → Int
  | [] => last
  | x :: r => lastOf x r
theorem riseB_append (n x : Int) : ∀ (l : List Int) (last : Int), riseB n last (l ++ [x]) = (riseB n last l && inB x (lastOf last l + 1) (n - 1))
  | [], last => by simp [riseB, lastOf]
  | y :: r, last => by simp [riseB, lastOf, riseB_append n x r y, Bool.and_assoc]
theorem lastOf_append (x : Int) : ∀ (l : List Int) (last : Int), lastOf last (l ++ [x]) = x
  | [], last => rfl
  | y :: r, last => by simp [lastOf, lastOf_append x r y]
theorem riseB_take (n : Int) (l : List Int) (last : Int) (k : Nat) (h : riseB n last l = true) : riseB n last (l.take k) = true := by
  induction l generalizing last k with
  | nil => simp [riseB]
  | cons y r ih =>
    cases k with
    | zero => rfl
    | succ k =>
      simp only [riseB, Bool.and_eq_true] at h
      simp only [List.take_succ_cons, riseB, Bool.and_eq_true]
      exact ⟨h.1, ih y k h.2⟩
theorem take_succ_of {l : List Int} {k : Nat} {y : Int} (h : l[k]? = some y) : l.take (k + 1) = l.take k ++ [y] := by
  rw [List.take_add_one, h, Option.toList_some]
theorem riseB_fail {n last : Int} {l : List Int} {k : Nat} {y : Int} (h : l[k]? = some y) (hk : riseB n last (l.take k) = true) (hy : inB y (lastOf last (l.take k) + 1) (n - 1) = false) : riseB n last l = false := by
  cases hl : riseB n last l with
  | false => rfl
  | true =>
    have := riseB_take n l last (k + 1) hl
    rw [take_succ_of h, riseB_append, hk, hy] at this
    cases this
theorem riseB_range {n : Int} : ∀ {l : List Int} {last : Int}, riseB n last l = true → ∀ x ∈ l, last < x ∧ x < n
  | [], _, _, x, hx => by simp at hx
  | y :: r, last, h, x, hx => by
    simp only [riseB, Bool.and_eq_true] at h
    have hy := inB_is h.1
    rcases List.mem_cons.1 hx with rfl | hx
    · omega
    · have := riseB_range h.2 x hx
      omega
theorem lastOf_range {n : Int} : ∀ {l : List Int} {last : Int}, riseB n last l = true → last ≤ lastOf last l
  | [], _, _ => Int.le_refl _
  | y :: r, last, h => by
    simp only [riseB, Bool.and_eq_true] at h
    have hy := inB_is h.1
    have := lastOf_range h.2
    simp only [lastOf]
    omega
theorem lastOf_top {n : Int} : ∀ {l : List Int} {last : Int}, last < n → riseB n last l = true → lastOf last l < n
  | [], _, h, _ => h
  | y :: r, last, h0, h => by
    simp only [riseB, Bool.and_eq_true] at h
    have hy := inB_is h.1
    exact lastOf_top (l := r) (last := y) (by omega) h.2
theorem lastOf_take {last : Int} {l : List Int} {k : Nat} {y : Int} (h : l[k]? = some y) : lastOf last (l.take (k + 1)) = y := by
  rw [take_succ_of h, lastOf_append]
/-- a load that is valid for n packs -/
def tiesOk (n : Nat) (t : Tied) : Bool := riseB n (-1) t.left && riseB n (-1) t.right && riseB n (-1) t.top && decide ((allOf t).length ≤ 10) && decide (allOf t).Nodup
structure TiesIs (n : Nat) (t : Tied) : Prop where
  left : riseB n (-1) t.left = true
  right : riseB n (-1) t.right = true
  top : riseB n (-1) t.top = true
  few : (allOf t).length ≤ 10
  once : (allOf t).Nodup
theorem tiesIs {n : Nat} {t : Tied} (h : tiesOk n t = true) : TiesIs n t := by
  unfold tiesOk at h
  simp only [Bool.and_eq_true, decide_eq_true_eq] at h
  exact ⟨h.1.1.1.1, h.1.1.1.2, h.1.1.2, h.1.2, h.2⟩
theorem TiesIs.range {n : Nat} {t : Tied} (h : TiesIs n t) : ∀ i ∈ allOf t, 0 ≤ i ∧ i < n := fun i hi => by
  unfold allOf at hi
  rcases List.mem_append.1 hi with hi | hi
  · rcases List.mem_append.1 hi with hi | hi
    · have := riseB_range h.left i hi; omega
    · have := riseB_range h.right i hi; omega
  · have := riseB_range h.top i hi; omega
end Go.Proofs.YtcoelhpmkhimpaaGreatDoor

namespace Go.Proofs.YtcoelhpmkhimpaaGreatDoor
set_option linter.unusedVariables false
def fitOf (b : Breed) (c : Camel) : Span :=
  ⟨min (min (min 1000 (c.water.lo * 2 * 1000 / b.full)) (c.fat.lo * 2 * 1000 / b.fed)) (1000 - c.sore.hi),
   min (min (min 1000 (upq (c.water.hi * 2 * 1000) b.full)) (upq (c.fat.hi * 2 * 1000) b.fed)) (1000 - c.sore.lo)⟩
def carryOf (b : Breed) (c : Camel) : Span := ⟨b.strong.lo * (fitOf b c).lo / 1000, upq (b.strong.hi * (fitOf b c).hi) 1000⟩
theorem fit_is {b : Breed} {c : Camel} (hb : BreedOk b) (hc : CamelOk b c) : SpanIs (fitOf b c) 0 1000 := by
  obtain ⟨w1, w2, w3⟩ := hc.water
  obtain ⟨f1, f2, f3⟩ := hc.fat
  obtain ⟨s1, s2, s3⟩ := hc.sore
  have hfu := hb.full
  have hfe := hb.fed
  have a1 : 0 ≤ c.water.lo * 2 * 1000 / b.full := Int.ediv_nonneg (by omega) (by omega)
  have a2 : c.water.lo * 2 * 1000 / b.full ≤ upq (c.water.hi * 2 * 1000) b.full := ediv_le_upq (by omega) (by omega)
  have b1 : 0 ≤ c.fat.lo * 2 * 1000 / b.fed := Int.ediv_nonneg (by omega) (by omega)
  have b2 : c.fat.lo * 2 * 1000 / b.fed ≤ upq (c.fat.hi * 2 * 1000) b.fed := ediv_le_upq (by omega) (by omega)
  unfold fitOf
  generalize c.water.lo * 2 * 1000 / b.full = A at *
  generalize upq (c.water.hi * 2 * 1000) b.full = A' at *
  generalize c.fat.lo * 2 * 1000 / b.fed = B at *
  generalize upq (c.fat.hi * 2 * 1000) b.fed = B' at *
  refine ⟨?_, ?_, ?_⟩ <;> simp only <;> omega
theorem carry_is {b : Breed} {c : Camel} (hb : BreedOk b) (hc : CamelOk b c) : (carryOf b c).lo ≤ (carryOf b c).hi := by
  have hf := fit_is hb hc
  obtain ⟨s1, s2, s3⟩ := hb.strong
  have h := mul_le2 s1 s2 hf.low hf.ord s3 hf.top
  exact ediv_le_upq (by omega) h.2.1
end Go.Proofs.YtcoelhpmkhimpaaGreatDoor

namespace Go.Proofs.YtcoelhpmkhimpaaGreatDoor
open Go.RowKit
set_option linter.unusedVariables false
set_option linter.unusedSimpArgs false

def keyIsU (p : Int) (e : MapEntry) : Bool := match e.key with | .int .u8 q => p == q | _ => false
def ByteKeys (es : List MapEntry) : Prop := ∀ e ∈ es, ∃ q, e.key = .int .u8 q
/-- block b is a map with int keys that gives F p at p -/
def UMapIs (w : World) (b : Nat) (F : Int → Option Value) : Prop :=
  ∃ es clock, w.heap[b]? = some (.map es clock) ∧ ByteKeys es.toList ∧ ∀ p, F p = (es.toList.find? (keyIsU p)).map (·.val)
theorem UMapIs.ext {w w' : World} {b : Nat} {F : Int → Option Value} (h : UMapIs w b F) (e : Ext w w') : UMapIs w' b F :=
  let ⟨es, c, h1, h2⟩ := h; ⟨es, c, e.heap h1, h2⟩
theorem UMapIs.lt {w : World} {b : Nat} {F : Int → Option Value} (h : UMapIs w b F) : b < w.heap.size :=
  let ⟨_, _, h1, _⟩ := h; (Array.getElem?_eq_some_iff.1 h1).1
theorem UMapIs.same {w w' : World} {b : Nat} {F : Int → Option Value} (h : UMapIs w b F) (e : w'.heap[b]? = w.heap[b]?) : UMapIs w' b F :=
  let ⟨es, c, h1, h2⟩ := h; ⟨es, c, e.trans h1, h2⟩
theorem UMapIs.made (w : World) : UMapIs (w.alloc (.map #[] 0)) w.heap.size (fun _ => none) :=
  ⟨#[], 0, heap_alloc_new w _, by simp [ByteKeys], fun p => rfl⟩

theorem findNow_u8 (p : Int) : ∀ (es : List MapEntry) (i : Nat), ByteKeys es → Instr.findNow (.int .u8) (.int .u8 p) es i = some ((es.findIdx? (keyIsU p)).bind fun j => (es[j]?).map fun e => (i + j, e.val))
  | [], i, _ => by simp [Instr.findNow]
  | e :: es, i, h => by
    obtain ⟨q, hq⟩ := h e (by simp)
    have ih := findNow_u8 p es (i + 1) (fun x hx => h x (by simp [hx]))
    unfold Instr.findNow
    simp only [Instr.sameNow, hq, if_true]
    by_cases hpq : p = q
    · subst hpq
      have : keyIsU p e = true := by simp [keyIsU, hq]
      simp [List.findIdx?_cons, this]
    · have hb : (p == q) = false := by simp [hpq]
      have : keyIsU p e = false := by simp [keyIsU, hq, hpq]
      simp only [hb, ih, List.findIdx?_cons, this]
      cases hf : es.findIdx? (keyIsU p) with
      | none => simp
      | some j =>
        simp only [Option.bind_some, Option.map_some, Bool.false_eq_true, if_false, List.getElem?_cons_succ]
        cases es[j]? <;> simp
        omega

theorem find_of_findIdxU {α : Type} (p : α → Bool) (l : List α) : l.find? p = (l.findIdx? p).bind fun j => l[j]? := by
  induction l with
  | nil => simp
  | cons x l ih =>
    rw [List.find?_cons, List.findIdx?_cons]
    cases h : p x with
    | true => simp
    | false =>
      simp only [Bool.false_eq_true, if_false, ih]
      cases l.findIdx? p <;> simp

section
variable {P : Program} {t K E : TypeId}
theorem run_lookup_u8 {w : World} {b : Nat} {F : Int → Option Value} {z : Value} (h : UMapIs w b F) (ht : P.underlying t = some (.map K E)) (hK : P.underlying K = some (.int .u8)) (hz : (zeroValue E).run P w = .ok z w) (p : Int) :
    (Instr.lookup t (.map (some b)) (.int .u8 p) true).run P w = .ok (.tuple #[(F p).getD z, .bool (F p).isSome]) w ∧ (Instr.lookup t (.map (some b)) (.int .u8 p) false).run P w = .ok ((F p).getD z) w := by
  obtain ⟨es, clock, hb, hk, hF⟩ := h
  have hfind := findNow_u8 p es.toList 0 hk
  have hget : (getObj b).run P w = .ok (.map es clock) w := by simp [getObj, Sem.run, hb]
  have hck : (Instr.checkKey es.isEmpty 10000 K (.int .u8 p)).run P w = .ok () w := by
    rw [show (10000 : Nat) = 9999 + 1 from rfl]
    unfold Instr.checkKey
    simp [Sem.run_bind, run_underlying hK]
  have hfk : (Instr.findKey K (.int .u8 p) es.toList).run P w = .ok ((es.toList.findIdx? (keyIsU p)).bind fun j => (es.toList[j]?).map fun e => (0 + j, e.val)) w := by
    unfold Instr.findKey
    simp only [Sem.run_bind, run_underlying hK, Result.andThen_ok, hfind, Sem.run_pure]
  unfold Instr.lookup
  simp only [Sem.run_bind, run_underlying ht, Result.andThen_ok, hget, Sem.run_pure, hck, hfk]
  rw [hF p, find_of_findIdxU]
  cases hi : es.toList.findIdx? (keyIsU p) with
  | none => simp [hz, Sem.run_bind]
  | some j =>
    simp only [Option.bind_some]
    cases es.toList[j]? <;> simp [hz, Sem.run_bind]

theorem keyIsU_key {p : Int} {e : MapEntry} (h : keyIsU p e = true) : e.key = .int .u8 p := by
  unfold keyIsU at h
  split at h
  · rename_i q hq
    rw [hq]
    have := beq_iff_eq.1 h
    rw [this]
  · cases h

theorem find_modifyU (p : Int) (v : Value) : ∀ (l : List MapEntry) (j : Nat), l.findIdx? (keyIsU p) = some j → ∀ q, ((l.modify j fun e => { e with key := .int .u8 p, val := v }).find? (keyIsU q)).map (·.val) = if q = p then some v else (l.find? (keyIsU q)).map (·.val)
  | [], j, h, q => by simp at h
  | e :: l, j, h, q => by
    rw [List.findIdx?_cons] at h
    cases hp : keyIsU p e with
    | true =>
      rw [hp] at h
      simp only [if_true, Option.some.injEq] at h
      subst h
      rw [List.modify_zero_cons, List.find?_cons]
      by_cases hq : q = p
      · subst hq; simp [keyIsU]
      · have h1 : keyIsU q { e with key := .int .u8 p, val := v } = false := by simp [keyIsU, hq]
        have h2 : keyIsU q e = false := by have := keyIsU_key hp; simp [keyIsU, this, hq]
        rw [h1, if_neg hq, List.find?_cons, h2]
    | false =>
      rw [hp] at h
      simp only [Bool.false_eq_true, if_false] at h
      cases hf : l.findIdx? (keyIsU p) with
      | none => rw [hf] at h; cases h
      | some i =>
        rw [hf] at h
        simp only [Option.map_some, Option.some.injEq] at h
        subst h
        rw [List.modify_succ_cons, List.find?_cons, List.find?_cons]
        have ih := find_modifyU p v l i hf q
        cases hq : keyIsU q e with
        | true =>
          have : q ≠ p := by intro e1; subst e1; rw [hp] at hq; cases hq
          simp [this]
        | false => simpa using ih

theorem byteKeys_modify (p : Int) (v : Value) : ∀ (l : List MapEntry) (j : Nat), ByteKeys l → ByteKeys (l.modify j fun e => { e with key := .int .u8 p, val := v })
  | [], j, h => by cases j <;> simp [ByteKeys]
  | e :: l, 0, h => by
    rw [List.modify_zero_cons]
    intro x hx
    rcases List.mem_cons.1 hx with rfl | hx
    · exact ⟨p, rfl⟩
    · exact h x (List.mem_cons_of_mem _ hx)
  | e :: l, j + 1, h => by
    rw [List.modify_succ_cons]
    intro x hx
    rcases List.mem_cons.1 hx with rfl | hx
    · exact h _ (List.mem_cons_self ..)
    · exact byteKeys_modify p v l j (fun y hy => h y (List.mem_cons_of_mem _ hy)) x hx

theorem run_mapUpdate_u8 {w : World} {b : Nat} {F : Int → Option Value} (h : UMapIs w b F) (ht : P.underlying t = some (.map K E)) (hK : P.underlying K = some (.int .u8)) (p : Int) (v : Value) :
    ∃ w', (Instr.mapUpdate t (.map (some b)) (.int .u8 p) v).run P w = .ok () w' ∧ UMapIs w' b (fun q => if q = p then some v else F q) ∧ w.grownBy w' (some b) := by
  obtain ⟨es, clock, hb, hk, hF⟩ := h
  have hblt : b < w.heap.size := (Array.getElem?_eq_some_iff.1 hb).1
  have hfind := findNow_u8 p es.toList 0 hk
  have hget : (getObj b).run P w = .ok (.map es clock) w := by simp [getObj, Sem.run, hb]
  have hset : ∀ o, (setObj b o).run P w = .ok () { w with heap := w.heap.setIfInBounds b o } := by intro o; simp [setObj, Sem.run, hb]
  have hck : (Instr.checkKey false 10000 K (.int .u8 p)).run P w = .ok () w := by
    rw [show (10000 : Nat) = 9999 + 1 from rfl]
    unfold Instr.checkKey
    simp [Sem.run_bind, run_underlying hK]
  have hfk : (Instr.findKey K (.int .u8 p) es.toList).run P w = .ok ((es.toList.findIdx? (keyIsU p)).bind fun j => (es.toList[j]?).map fun e => (0 + j, e.val)) w := by
    unfold Instr.findKey
    simp only [Sem.run_bind, run_underlying hK, Result.andThen_ok, hfind, Sem.run_pure]
  have hgrown : ∀ o, w.grownBy { w with heap := w.heap.setIfInBounds b o } (some b) := fun o => ⟨rfl, rfl, rfl, by simp, fun i _ hi => by
    have hne : b ≠ i := fun e => hi (by rw [e])
    simp [Array.getElem?_setIfInBounds_ne hne]⟩
  have hnew : ∀ o, ({ w with heap := w.heap.setIfInBounds b o } : World).heap[b]? = some o := fun o => by simp [hblt]
  unfold Instr.mapUpdate
  simp only [Sem.run_bind, run_underlying ht, Result.andThen_ok, hget, hck, hfk]
  cases hi : es.toList.findIdx? (keyIsU p) with
  | none =>
    simp only [Option.bind_none, hset]
    refine ⟨_, rfl, ⟨_, _, hnew _, ?_, ?_⟩, hgrown _⟩
    · intro e he
      simp only [Array.toList_push, List.mem_append, List.mem_singleton] at he
      rcases he with he | rfl
      · exact hk e he
      · exact ⟨p, rfl⟩
    · intro q
      simp only [Array.toList_push, List.find?_append]
      have hnone : es.toList.find? (keyIsU p) = none := by rw [find_of_findIdxU, hi]; rfl
      by_cases hq : q = p
      · subst hq
        simp [hnone, keyIsU]
      · rw [if_neg hq, hF q]
        have : keyIsU q { key := .int .u8 p, val := v, born := clock } = false := by simp [keyIsU, hq]
        cases hfq : es.toList.find? (keyIsU q) <;> simp [List.find?_cons, this]
  | some j =>
    obtain ⟨hj, hpj, _⟩ := List.findIdx?_eq_some_iff_getElem.1 hi
    have hkey := keyIsU_key hpj
    have hel : es.toList[j]? = some es.toList[j] := List.getElem?_eq_getElem hj
    simp only [Option.bind_some, hel, Option.map_some, Nat.zero_add]
    have hstay : (Instr.keyThatStays (((es[j]?).map (·.key)).getD (.int .u8 p)) (.int .u8 p)).run P w = .ok (.int .u8 p) w := by
      have : es[j]? = some es.toList[j] := by rw [← Array.getElem?_toList]; exact hel
      rw [this]
      simp only [Option.map_some, Option.getD_some, hkey]
      unfold Instr.keyThatStays
      rw [show (10000 : Nat) = 9999 + 1 from rfl]
      simp [Instr.sameBits]
    simp only [Sem.run_bind, hstay, Result.andThen_ok, hset]
    refine ⟨_, rfl, ⟨_, _, hnew _, ?_, ?_⟩, hgrown _⟩
    · rw [Array.toList_modify]
      exact byteKeys_modify p v _ j hk
    · intro q
      show (if q = p then some v else F q) = _
      rw [Array.toList_modify]
      have := find_modifyU p v es.toList j hi q
      rw [this, hF q]
end
end Go.Proofs.YtcoelhpmkhimpaaGreatDoor

namespace Go.Proofs.YtcoelhpmkhimpaaGreatDoor
open Go.RowKit
set_option linter.unusedVariables false
set_option linter.unusedSimpArgs false
/-- the panic that load.need raises -/
def stopped (k : Int) : Ending := .panicked [{ v := .iface 35 (.int .i64 k), recovered := false }]
theorem need_yes (k : Int) (w : World) : Calls Tryz.prog 20 #[.bool true, .int .i64 k] w fun e w' => e = .returned (.tuple #[]) ∧ Ext w w' := by
  go_enter Tryz.func20, Tryz.ntmps20
  go_wp2_with fail
  go_end0
  exact ⟨rfl, Ext.refl _⟩
theorem panic35 (v : Value) (w : World) : (Instr.panic (.iface 35 v)).run Tryz.prog w = .halt (.panic (.iface 35 v)) w := rfl
theorem need_no (k : Int) (w : World) : Calls Tryz.prog 20 #[.bool false, .int .i64 k] w fun e w' => e = stopped k ∧ Ext w w' := by
  have hp := panic35
  go_enter Tryz.func20, Tryz.ntmps20
  go_wp2_with fail
  exact ⟨rfl, rfl, Ext.refl _⟩
/-! ### over int, closure 54 -/
set_option maxHeartbeats 400000 in
theorem indexFunc_int54 (a : Option Addr) (n cap q0 q1 : Nat) (l : List Int) (p : Int → Bool) (w : World) (hl : IntsAt .i64 w a n l) (hn : n ≤ 1000000000)
    (hp : ∀ o, o ∈ l → ∀ W, Ext w W → Calls Tryz.prog 54 #[.int .i64 o, .pointer (some ⟨q0, 0, none⟩), .pointer (some ⟨q1, 0, none⟩)] W fun e W' => e = .returned (.bool (p o)) ∧ Ext W W') :
    Calls Tryz.prog 86 #[.slice a n cap, .func (.func 54) #[] #[.pointer (some ⟨q0, 0, none⟩), .pointer (some ⟨q1, 0, none⟩)]] w fun e w' =>
      e = .returned (.int .i64 (idxI p l)) ∧ Ext w w' := by
  have Hp := Lib.hid hp
  have Hl := Lib.hid hl
  clear hp hl
  go_enter Tryz.func86, Tryz.ntmps86
  go_wp2_with fail
  go_loopw [5, 8] (fun i5 i8 wr => ∃ k : Nat, k ≤ n ∧ i8 = .int .i64 k ∧ Ext w wr ∧ ∀ (j : Nat) (y : Int), j < k → l[j]? = some y → p y = false) (fun _ i8 _ => n - (intOf i8).toNat)
  case atStart => exact ⟨0, Nat.zero_le _, rfl, Ext.refl _, fun j y h => by omega⟩
  case round =>
    obtain ⟨k, hk, rfl, hx, hall⟩ := hrel
    have Hall := Lib.hid hall
    clear hall
    by_cases hlt : k < n
    · obtain ⟨b, off, x, rfl, hxk, hb, c0⟩ := (Hl.out.ext hx).get k hlt
      have Hxk := Lib.hid hxk
      clear hxk
      have hc := Hp.out x (List.mem_of_getElem? Hxk.out) wr hx
      have Hc := Lib.hid hc
      clear hc
      cases hpx : p x with
      | true =>
        have Hpx := Lib.hid hpx
        rw [hpx] at Hc
        clear hpx
        go_wp2_with (go_at_call 54; refine Hc.out.mono ?_; rintro e w' ⟨rfl, hb⟩)
        go_ret
        exact ⟨ret_int (idxI_some Hxk.out Hpx.out Hall.out).symm, hx.trans (by assumption)⟩
      | false =>
        have Hpx := Lib.hid hpx
        rw [hpx] at Hc
        clear hpx
        go_wp2_with (go_at_call 54; refine Hc.out.mono ?_; rintro e w' ⟨rfl, hb⟩)
        go_roundw
        case rel => exact ⟨k + 1, by omega, by go_num, hx.trans (by assumption), fun j y hj hy => by
            rcases Nat.lt_or_ge j k with h | h
            · exact Hall.out j y h hy
            · have e : j = k := by omega
              subst e
              have := Hxk.out
              rw [hy] at this
              cases this
              exact Hpx.out⟩
        case measure => simp [intOf]; omega
    · go_wp2_with fail
      go_ret
      refine ⟨ret_int ?_, hx⟩
      refine (idxI_none (fun j y hy => Hall.out j y ?_ hy)).symm
      have h1 := Hl.out.1
      rcases Nat.lt_or_ge j l.length with h | h
      · omega
      · simp [List.getElem?_eq_none h] at hy

theorem contains_int54 (a : Option Addr) (n cap q0 q1 : Nat) (l : List Int) (p : Int → Bool) (w : World) (hl : IntsAt .i64 w a n l) (hn : n ≤ 1000000000)
    (hp : ∀ o, o ∈ l → ∀ W, Ext w W → Calls Tryz.prog 54 #[.int .i64 o, .pointer (some ⟨q0, 0, none⟩), .pointer (some ⟨q1, 0, none⟩)] W fun e W' => e = .returned (.bool (p o)) ∧ Ext W W') :
    Calls Tryz.prog 53 #[.slice a n cap, .func (.func 54) #[] #[.pointer (some ⟨q0, 0, none⟩), .pointer (some ⟨q1, 0, none⟩)]] w fun e w' =>
      e = .returned (.bool (l.any p)) ∧ Ext w w' := by
  have Hc := Lib.hid (indexFunc_int54 a n cap q0 q1 l p w hl hn hp)
  clear hp hl
  go_enter Tryz.func53, Tryz.ntmps53
  go_wp2_with (go_at_call 86; refine Hc.out.mono ?_; rintro e w' ⟨rfl, hb⟩)
  go_ret
  exact ⟨ret_bool (idxI_ge p l), by assumption⟩


theorem inFnL_any (x lo hi : Int) (c d : Nat) (w : World) (hc : w.cell? ⟨c, 0, none⟩ = some (.int .i64 lo)) (hd : w.cell? ⟨d, 0, none⟩ = some (.int .i64 hi)) :
    Calls Tryz.prog 54 #[.int .i64 x, .pointer (some ⟨c, 0, none⟩), .pointer (some ⟨d, 0, none⟩)] w fun e w' => e = .returned (.bool (!inB x lo hi)) ∧ Ext w w' := by
  rw [inB_not]
  by_cases h1 : x < lo
  · have b1 : decide (x < lo) = true := decide_eq_true h1
    go_enter Tryz.func54, Tryz.ntmps54
    go_wp2_with fail
    go_ret
    exact ⟨ret_bool (by rw [b1]; rfl), Ext.refl _⟩
  · have b1 : decide (x < lo) = false := decide_eq_false h1
    by_cases h2 : hi < x
    · have b2 : decide (hi < x) = true := decide_eq_true h2
      go_enter Tryz.func54, Tryz.ntmps54
      go_wp2_with fail
      go_ret
      exact ⟨rfl, Ext.refl _⟩
    · have b2 : decide (hi < x) = false := decide_eq_false h2
      go_enter Tryz.func54, Tryz.ntmps54
      go_wp2_with fail
      go_ret
      exact ⟨rfl, Ext.refl _⟩
theorem inL_any (lo hi : Int) (a : Option Addr) (n cap : Nat) (l : List Int) (w : World) (hl : IntsAt .i64 w a n l) (hn : n ≤ 1000) :
    Calls Tryz.prog 21 #[.int .i64 lo, .int .i64 hi, .slice a n cap] w fun e w' => e = .returned (.bool (l.all fun x => inB x lo hi)) ∧ Ext w w' := by
  have hx1 : Ext w ((w.alloc (.cells #[.int .i64 lo] 3)).alloc (.cells #[.int .i64 hi] 3)) := ((Ext.refl _).alloc _).alloc _
  have hb1 := heap_alloc_new w (.cells #[.int .i64 lo] 3)
  have hb2 := heap_alloc_new (w.alloc (.cells #[.int .i64 lo] 3)) (.cells #[.int .i64 hi] 3)
  rw [show (w.alloc (.cells #[.int .i64 lo] 3)).heap.size = w.heap.size + 1 by simp] at hb2
  have hb1' := ((Ext.refl (w.alloc (.cells #[.int .i64 lo] 3))).alloc (.cells #[.int .i64 hi] 3)).heap hb1
  have c1 := ((Ext.refl _).box hb1').1 0
  have c2 := ((Ext.refl _).box hb2).1 0
  have hc := contains_int54 a n cap w.heap.size (w.heap.size + 1) l (fun x => !inB x lo hi) _ (hl.ext hx1) (by omega) (fun o _ W hW => inFnL_any o lo hi _ _ W (hW.cell c1) (hW.cell c2))
  have Hc := Lib.hid hc
  have Hx1 := Lib.hid hx1
  clear hc hx1
  clear hl hb1 hb2 hb1' c1 c2
  go_enter Tryz.func21, Tryz.ntmps21
  go_wp2_with (go_at_call 53; refine Hc.out.mono ?_; rintro e w3 ⟨rfl, hx3⟩)
  go_ret
  exact ⟨ret_bool (any_not (fun x => inB x lo hi) l), Hx1.out.trans hx3⟩
theorem inL1 {lo hi x : Int} {r : Bool} {w : World} {b : Nat} (hb : w.heap[b]? = some (.cells #[.int .i64 x] 3 (0, 0))) (hr : inB x lo hi = r) : Calls Tryz.prog 21 #[.int .i64 lo, .int .i64 hi, .slice (some ⟨b, 0, none⟩) 1 1] w fun e w' => e = .returned (.bool r) ∧ Ext w w' := by
  have := inL_any lo hi (some ⟨b, 0, none⟩) 1 1 [x] w (ints_built (l := [x]) hb) (by omega)
  subst hr
  simpa using this
theorem inL2 {lo hi x y : Int} {r : Bool} {w : World} {b : Nat} (hb : w.heap[b]? = some (.cells #[.int .i64 x, .int .i64 y] 3 (0, 0))) (hr : (inB x lo hi && inB y lo hi) = r) : Calls Tryz.prog 21 #[.int .i64 lo, .int .i64 hi, .slice (some ⟨b, 0, none⟩) 2 2] w fun e w' => e = .returned (.bool r) ∧ Ext w w' := by
  have := inL_any lo hi (some ⟨b, 0, none⟩) 2 2 [x, y] w (ints_built (l := [x, y]) hb) (by omega)
  subst hr
  simpa using this
end Go.Proofs.YtcoelhpmkhimpaaGreatDoor

namespace Go.Proofs.YtcoelhpmkhimpaaGreatDoor
open Go.RowKit
set_option linter.unusedVariables false
structure Jolt where
  tie : Int
  hurt : Int
  deriving DecidableEq
def zjolt : Jolt := ⟨0, 0⟩
def Pack.cells (s : Pack) : List Value := [.int .u8 s.kind, .int .i64 s.mass.lo, .int .i64 s.mass.hi, .int .i64 s.hard.lo, .int .i64 s.hard.hi, .int .i64 s.crumbs.lo, .int .i64 s.crumbs.hi, .int .i64 s.leak.lo, .int .i64 s.leak.hi, .int .i64 s.hurt, .int .i64 s.days]
def Pack.val (s : Pack) : Value := .agg #[.int .u8 s.kind, .int .i64 s.mass.lo, .int .i64 s.mass.hi, .int .i64 s.hard.lo, .int .i64 s.hard.hi, .int .i64 s.crumbs.lo, .int .i64 s.crumbs.hi, .int .i64 s.leak.lo, .int .i64 s.leak.hi, .int .i64 s.hurt, .int .i64 s.days]
theorem Pack.val_eq (s : Pack) : s.val = .agg s.cells.toArray := rfl
def PacksAt (w : World) (a : Option Addr) (n : Nat) (l : List Pack) : Prop := l.length = n ∧ SlAt w 11 a n fun i => (l.getD i zpack).cells
theorem PacksAt.ext {w w' : World} {a : Option Addr} {n : Nat} {l : List Pack} (h : PacksAt w a n l) (e : Ext w w') : PacksAt w' a n l := ⟨h.1, h.2.ext e⟩
theorem PacksAt.same {w w' : World} {a : Option Addr} {n : Nat} {l : List Pack} (h : PacksAt w a n l) (hb : ∀ x, a = some x → w'.heap[x.block]? = w.heap[x.block]?) : PacksAt w' a n l := ⟨h.1, h.2.same hb⟩
theorem PacksAt.get {w : World} {a : Option Addr} {n : Nat} {l : List Pack} (h : PacksAt w a n l) (k : Nat) (hk : k < n) :
    ∃ b off x, a = some ⟨b, off, none⟩ ∧ l[k]? = some x ∧ b < w.heap.size ∧ w.cell? ⟨b, off + k * 11, none⟩ = some (.int .u8 x.kind) ∧ w.cell? ⟨b, off + k * 11 + 1, none⟩ = some (.int .i64 x.mass.lo) ∧ w.cell? ⟨b, off + k * 11 + 2, none⟩ = some (.int .i64 x.mass.hi) ∧ w.cell? ⟨b, off + k * 11 + 3, none⟩ = some (.int .i64 x.hard.lo) ∧ w.cell? ⟨b, off + k * 11 + 4, none⟩ = some (.int .i64 x.hard.hi) ∧ w.cell? ⟨b, off + k * 11 + 5, none⟩ = some (.int .i64 x.crumbs.lo) ∧ w.cell? ⟨b, off + k * 11 + 6, none⟩ = some (.int .i64 x.crumbs.hi) ∧ w.cell? ⟨b, off + k * 11 + 7, none⟩ = some (.int .i64 x.leak.lo) ∧ w.cell? ⟨b, off + k * 11 + 8, none⟩ = some (.int .i64 x.leak.hi) ∧ w.cell? ⟨b, off + k * 11 + 9, none⟩ = some (.int .i64 x.hurt) ∧ w.cell? ⟨b, off + k * 11 + 10, none⟩ = some (.int .i64 x.days) := by
  obtain ⟨hl, h⟩ := h
  obtain ⟨b, off, ha, hc⟩ := h (by omega)
  have h0 := hc k hk 0 _ rfl
  simp only [Nat.add_zero] at h0
  exact ⟨b, off, _, ha, by simp [List.getD, hl, hk], block_lt_of_cell h0, h0, hc k hk 1 _ rfl, hc k hk 2 _ rfl, hc k hk 3 _ rfl, hc k hk 4 _ rfl, hc k hk 5 _ rfl, hc k hk 6 _ rfl, hc k hk 7 _ rfl, hc k hk 8 _ rfl, hc k hk 9 _ rfl, hc k hk 10 _ rfl⟩
def Jolt.cells (s : Jolt) : List Value := [.int .i64 s.tie, .int .i64 s.hurt]
def Jolt.val (s : Jolt) : Value := .agg #[.int .i64 s.tie, .int .i64 s.hurt]
theorem Jolt.val_eq (s : Jolt) : s.val = .agg s.cells.toArray := rfl
def JoltsAt (w : World) (a : Option Addr) (n : Nat) (l : List Jolt) : Prop := l.length = n ∧ SlAt w 2 a n fun i => (l.getD i zjolt).cells
theorem JoltsAt.ext {w w' : World} {a : Option Addr} {n : Nat} {l : List Jolt} (h : JoltsAt w a n l) (e : Ext w w') : JoltsAt w' a n l := ⟨h.1, h.2.ext e⟩
theorem JoltsAt.same {w w' : World} {a : Option Addr} {n : Nat} {l : List Jolt} (h : JoltsAt w a n l) (hb : ∀ x, a = some x → w'.heap[x.block]? = w.heap[x.block]?) : JoltsAt w' a n l := ⟨h.1, h.2.same hb⟩
theorem JoltsAt.get {w : World} {a : Option Addr} {n : Nat} {l : List Jolt} (h : JoltsAt w a n l) (k : Nat) (hk : k < n) :
    ∃ b off x, a = some ⟨b, off, none⟩ ∧ l[k]? = some x ∧ b < w.heap.size ∧ w.cell? ⟨b, off + k * 2, none⟩ = some (.int .i64 x.tie) ∧ w.cell? ⟨b, off + k * 2 + 1, none⟩ = some (.int .i64 x.hurt) := by
  obtain ⟨hl, h⟩ := h
  obtain ⟨b, off, ha, hc⟩ := h (by omega)
  have h0 := hc k hk 0 _ rfl
  simp only [Nat.add_zero] at h0
  exact ⟨b, off, _, ha, by simp [List.getD, hl, hk], block_lt_of_cell h0, h0, hc k hk 1 _ rfl⟩
/-- the package's variable that is nothing for sure -/
structure NoneAt (w : World) : Prop where
  lo : w.cell? ⟨0, 0, none⟩ = some (.int .i64 0)
  hi : w.cell? ⟨0, 1, none⟩ = some (.int .i64 0)
theorem NoneAt.ext {w w' : World} (h : NoneAt w) (e : Ext w w') : NoneAt w' := ⟨e.cell h.lo, e.cell h.hi⟩
end Go.Proofs.YtcoelhpmkhimpaaGreatDoor

namespace Go.Proofs.YtcoelhpmkhimpaaGreatDoor
open Go.RowKit
set_option linter.unusedVariables false
set_option linter.unusedSimpArgs false
theorem proper_any (s : Span) (lo hi : Int) (w : World) : Calls Tryz.prog 60 #[s.val, .int .i64 lo, .int .i64 hi] w fun e w' => e = .returned (.bool (spanOk s lo hi)) ∧ Ext w w' := by
  obtain ⟨a, b⟩ := s
  have hs : spanOk ⟨a, b⟩ lo hi = (decide (a ≤ b) && (inB a lo hi && inB b lo hi)) := by
    unfold spanOk inB
    by_cases h1 : lo ≤ a <;> by_cases h2 : a ≤ b <;> by_cases h3 : b ≤ hi <;> by_cases h5 : a ≤ hi <;> by_cases h6 : lo ≤ b <;> simp [h1, h2, h3, h5, h6] <;> omega
  rw [hs]
  clear hs
  unfold Span.val
  simp only
  by_cases h1 : a ≤ b
  · obtain ⟨P, hP⟩ : ∃ P, (inB a lo hi && inB b lo hi) = P := ⟨_, rfl⟩
    rw [decide_eq_true h1, hP]
    have HP := Lib.hid hP
    have h2 : decide (a ≤ b) = true := decide_eq_true h1
    clear hP h1
    go_enter Tryz.func60, Tryz.ntmps60
    go_wp2_with (go_at_call 21; refine (inL2 (alloc_at _ _ _ (by simp)) HP.out).mono ?_; rintro e w3 ⟨rfl, hx3⟩)
    go_ret
    exact ⟨rfl, (((Ext.refl _).alloc _).alloc _).trans hx3⟩
  · have h2 : decide (a ≤ b) = false := decide_eq_false h1
    rw [h2]
    go_enter Tryz.func60, Tryz.ntmps60
    go_wp2_with fail
    go_ret
    exact ⟨rfl, (Ext.refl _).alloc _⟩
theorem part_any (m t : Int) (w : World) (hm : 0 ≤ m ∧ m ≤ 1000000) (ht : 0 ≤ t ∧ t ≤ 1000) : Calls Tryz.prog 122 #[.int .i64 m, .int .i64 t] w fun e w' => e = .returned (.tuple #[.int .i64 (m * t / 1000), .int .i64 ((m * t + 999) / 1000)]) ∧ w' = w := by
  have h1 := Int.mul_nonneg hm.1 ht.1
  have h2 : m * t ≤ 1000000 * 1000 := Int.mul_le_mul hm.2 ht.2 ht.1 (by omega)
  obtain ⟨C, hC⟩ : ∃ C, m * t = C := ⟨_, rfl⟩
  rw [hC] at h1 h2 ⊢
  have h3 : C + 1000 - 1 = C + 999 := by omega
  go_enter Tryz.func122, Tryz.ntmps122
  go_wp2_with fail
  refine bodyPost_ret (results_tmp2 rfl _ _ _) rfl ?_
  exact ⟨rfl, rfl⟩
def spanIsZ (s : Span) : Bool := decide (s = zspan)
theorem test3_any (p : Pack) (w : World) (hn : NoneAt w) : Calls Tryz.prog 93 #[p.val] w fun e w' => e = .returned (.bool (decide (p.hard = zspan) && decide (p.crumbs = zspan) && spanOk p.leak 0 1000000)) ∧ Ext w w' := by
  obtain ⟨k, ⟨m0, m1⟩, ⟨a0, a1⟩, ⟨b0, b1⟩, ⟨l0, l1⟩, u, d⟩ := p
  unfold Pack.val
  simp only
  obtain ⟨n0, n1⟩ := hn
  have hlt : 0 < w.heap.size := block_lt_of_cell n0
  have hpr := fun W => proper_any ⟨l0, l1⟩ 0 1000000 W
  obtain ⟨P, hP⟩ : ∃ P, spanOk ⟨l0, l1⟩ 0 1000000 = P := ⟨_, rfl⟩
  rw [hP] at hpr ⊢
  have Hpr := Lib.hid hpr
  clear hpr
  clear hP
  go_enter Tryz.func93, Tryz.ntmps93
  go_wp2_with (go_at_call 60; refine (Hpr.out _).mono ?_; rintro e w3 ⟨rfl, hx3⟩)
  all_goals go_ret
  all_goals refine ⟨ret_bool (by simp_all [zspan]), ?_⟩
  all_goals first | exact (((Ext.refl _).alloc _).trans (by assumption)) | exact (Ext.refl _).alloc _
theorem test2_any (p : Pack) (w : World) (hn : NoneAt w) : Calls Tryz.prog 91 #[p.val] w fun e w' => e = .returned (.bool (decide (p.hard = zspan) && decide (p.crumbs = zspan) && decide (p.leak = zspan))) ∧ Ext w w' := by
  obtain ⟨k, ⟨m0, m1⟩, ⟨a0, a1⟩, ⟨b0, b1⟩, ⟨l0, l1⟩, u, d⟩ := p
  unfold Pack.val
  simp only
  obtain ⟨n0, n1⟩ := hn
  have hlt : 0 < w.heap.size := block_lt_of_cell n0
  go_enter Tryz.func91, Tryz.ntmps91
  go_wp2_with fail
  all_goals go_ret
  all_goals refine ⟨ret_bool (by simp_all [zspan]), ?_⟩
  all_goals exact (Ext.refl _).alloc _
theorem test1_any (p : Pack) (w : World) (hn : NoneAt w) : Calls Tryz.prog 89 #[p.val] w fun e w' => e = .returned (.bool (spanOk p.hard 1 100000 && spanOk p.crumbs 0 1000 && decide (p.leak = zspan))) ∧ Ext w w' := by
  obtain ⟨k, ⟨m0, m1⟩, ⟨a0, a1⟩, ⟨b0, b1⟩, ⟨l0, l1⟩, u, d⟩ := p
  unfold Pack.val
  simp only
  have hp := heap_alloc_new w (.cells #[.int .u8 k, .int .i64 m0, .int .i64 m1, .int .i64 a0, .int .i64 a1, .int .i64 b0, .int .i64 b1, .int .i64 l0, .int .i64 l1, .int .i64 u, .int .i64 d] 50)
  have hA := fun W => proper_any ⟨a0, a1⟩ 1 100000 W
  have hB := fun W => proper_any ⟨b0, b1⟩ 0 1000 W
  obtain ⟨P, hP⟩ : ∃ P, spanOk ⟨a0, a1⟩ 1 100000 = P := ⟨_, rfl⟩
  obtain ⟨Q, hQ⟩ : ∃ Q, spanOk ⟨b0, b1⟩ 0 1000 = Q := ⟨_, rfl⟩
  rw [hP] at hA ⊢
  rw [hQ] at hB ⊢
  have hx0 := (Ext.refl w).alloc (.cells #[.int .u8 k, .int .i64 m0, .int .i64 m1, .int .i64 a0, .int .i64 a1, .int .i64 b0, .int .i64 b1, .int .i64 l0, .int .i64 l1, .int .i64 u, .int .i64 d] 50)
  obtain ⟨y0, _⟩ := (Ext.refl (w.alloc (.cells #[.int .u8 k, .int .i64 m0, .int .i64 m1, .int .i64 a0, .int .i64 a1, .int .i64 b0, .int .i64 b1, .int .i64 l0, .int .i64 l1, .int .i64 u, .int .i64 d] 50))).box hp
  have HA := Lib.hid hA
  have HB := Lib.hid hB
  have Hp := Lib.hid hp
  have Hn := Lib.hid hn
  have Hx0 := Lib.hid hx0
  clear hA hB hp hn hx0
  clear hP hQ
  go_enter Tryz.func89, Tryz.ntmps89
  go_wp2_with (go_at_call 60; first
    | (have q := hx1; clear q; refine (HB.out _).mono ?_; rintro e v2 ⟨rfl, hx2⟩; clear y0; obtain ⟨y0, _⟩ := (Ext.refl v2).box (hx2.heap (hx1.heap Hp.out)); obtain ⟨n0, n1⟩ := Hn.out.ext (Hx0.out.trans (hx1.trans hx2)))
    | (refine (HA.out _).mono ?_; rintro e v1 ⟨rfl, hx1⟩; clear y0; obtain ⟨y0, _⟩ := (Ext.refl v1).box (hx1.heap Hp.out)))
  all_goals go_ret
  all_goals refine ⟨ret_bool (by clear hx1 y0 Hp Hn Hx0 HA HB; simp_all [zspan]), ?_⟩
  all_goals first | exact Hx0.out.trans (hx1.trans hx2) | exact Hx0.out.trans hx1
/-- a pack's test, by its sort -/
def kindIn (p : Pack) : Bool := decide (p.kind = 1) || decide (p.kind = 2) || decide (p.kind = 3)
end Go.Proofs.YtcoelhpmkhimpaaGreatDoor

namespace Go.Proofs.YtcoelhpmkhimpaaGreatDoor
open Go.RowKit
set_option linter.unusedVariables false
set_option linter.unusedSimpArgs false
theorem rests_eq {a b a' b' c d k : Int} (h1 : a = a') (h2 : b = b') : Ending.returned (.tuple #[.agg #[.int .i64 a, .int .i64 b], .agg #[.int .i64 c, .int .i64 d], .int .u8 k]) = .returned (.tuple #[.agg #[.int .i64 a', .int .i64 b'], .agg #[.int .i64 c, .int .i64 d], .int .u8 k]) := by
  subst h1 h2
  rfl
theorem results_cell_cell_tmp {P : Program} {fn : Func} {p q t : Tmp} {ty ty' : TypeId} (h : fn.results = #[.cell p ty, .cell q ty', .tmp t]) (tmps : Array Value) (w : World) (g g' : Nat) (T T' : TypeId) (cs cs' : Array Value) (fr fr' : Nat × Nat) (d d' : TypeDesc)
    (hp : tmps.getD p undef = .pointer (some ⟨g, 0, none⟩)) (hg : w.heap[g]? = some (.cells cs T fr))
    (hu : P.underlying ty = some d) (hd : (match d with | .struct _ | .array _ _ => true | _ => false) = true) (hi : (P.info? ty).map (·.size) = some cs.size)
    (hp' : tmps.getD q undef = .pointer (some ⟨g', 0, none⟩)) (hg' : w.heap[g']? = some (.cells cs' T' fr'))
    (hu' : P.underlying ty' = some d') (hd' : (match d' with | .struct _ | .array _ _ => true | _ => false) = true) (hi' : (P.info? ty').map (·.size) = some cs'.size) :
    (results fn tmps).run P w = .ok (.tuple #[.agg cs, .agg cs', tmps.getD t undef]) w := by
  have h1 : tmps[p]?.getD undef = .pointer (some ⟨g, 0, none⟩) := by simpa using hp
  have h2 : tmps[q]?.getD undef = .pointer (some ⟨g', 0, none⟩) := by simpa using hp'
  simp [results, h, h1, h2, asAddr, run_loadVar_row w g T ty cs fr d hg hu hd hi, run_loadVar_row w g' T' ty' cs' fr' d' hg' hu' hd' hi']
theorem results_cell_cell_tmp2 {P : Program} {fn : Func} {p q t u : Tmp} {ty ty' : TypeId} (h : fn.results = #[.cell p ty, .cell q ty', .tmp t, .tmp u]) (tmps : Array Value) (w : World) (g g' : Nat) (T T' : TypeId) (cs cs' : Array Value) (fr fr' : Nat × Nat) (d d' : TypeDesc)
    (hp : tmps.getD p undef = .pointer (some ⟨g, 0, none⟩)) (hg : w.heap[g]? = some (.cells cs T fr))
    (hu : P.underlying ty = some d) (hd : (match d with | .struct _ | .array _ _ => true | _ => false) = true) (hi : (P.info? ty).map (·.size) = some cs.size)
    (hp' : tmps.getD q undef = .pointer (some ⟨g', 0, none⟩)) (hg' : w.heap[g']? = some (.cells cs' T' fr'))
    (hu' : P.underlying ty' = some d') (hd' : (match d' with | .struct _ | .array _ _ => true | _ => false) = true) (hi' : (P.info? ty').map (·.size) = some cs'.size) :
    (results fn tmps).run P w = .ok (.tuple #[.agg cs, .agg cs', tmps.getD t undef, tmps.getD u undef]) w := by
  have h1 : tmps[p]?.getD undef = .pointer (some ⟨g, 0, none⟩) := by simpa using hp
  have h2 : tmps[q]?.getD undef = .pointer (some ⟨g', 0, none⟩) := by simpa using hp'
  simp [results, h, h1, h2, asAddr, run_loadVar_row w g T ty cs fr d hg hu hd hi, run_loadVar_row w g' T' ty' cs' fr' d' hg' hu' hd' hi']
def restPost (p : Pack) (w : World) (e : Ending) (w' : World) : Prop := ∃ (a b : Int) (c : Int), e = .returned (.tuple #[(leftP p).val, .agg #[.int .i64 a, .int .i64 b], .int .u8 c]) ∧ Ext w w'
set_option maxHeartbeats 1000000 in
theorem bale_any (p : Pack) (hk : p.kind = 2) (w : World) (hn : NoneAt w) : Calls Tryz.prog 92 #[p.val] w (restPost p w) := by
  have hl : leftP p = p.mass := leftP2 hk
  unfold restPost
  rw [hl]
  obtain ⟨k, ⟨m0, m1⟩, ⟨a0, a1⟩, ⟨b0, b1⟩, ⟨l0, l1⟩, u, d⟩ := p
  unfold Pack.val Span.val
  simp only
  clear hl hk
  obtain ⟨n0, n1⟩ := hn
  have hlt : 0 < w.heap.size := block_lt_of_cell n0
  go_enter Tryz.func92, Tryz.ntmps92
  go_wp2_with fail
  go_region
  go_wp2_with fail
  refine bodyPost_ret (results_cell_cell_tmp (P := Tryz.prog) (fn := Tryz.f92) rfl _ _ (w.heap.size + 1) (w.heap.size + 1 + 1) 23 23 #[.int .i64 m0, .int .i64 m1] #[.int .i64 0, .int .i64 0] (0, 0) (0, 0) _ _ rfl (alloc_heap (alloc_at _ _ _ (by simp)) _) Tryz.underlying23 rfl (by kernel_rfl) rfl (alloc_at _ _ _ (by simp)) Tryz.underlying23 rfl (by kernel_rfl)) rfl ?_
  exact ⟨0, 0, 0, rfl, ((((Ext.refl _).alloc _).alloc _).alloc _).drew⟩
set_option maxHeartbeats 2000000 in
theorem skin_any (p : Pack) (hk : p.kind = 3) (hp : PackIs p) (w : World) : Calls Tryz.prog 94 #[p.val] w (restPost p w) := by
  have hl : leftP p = ⟨max 0 (p.mass.lo - p.leak.hi * p.days), max 0 (p.mass.hi - p.leak.lo * p.days)⟩ := leftP3 hk
  unfold restPost
  rw [hl]
  have hm := hp.mass
  have hd := hp.days
  have hlk : SpanIs p.leak 0 1000000 := by
    rcases hp.kind with h | h | h
    · omega
    · omega
    · exact h.2.2.2
  obtain ⟨k, ⟨m0, m1⟩, ⟨a0, a1⟩, ⟨b0, b1⟩, ⟨l0, l1⟩, u, d⟩ := p
  obtain ⟨h1, h2, h3⟩ := hm
  obtain ⟨h4, h5, h6⟩ := hlk
  unfold Pack.val Span.val
  simp only at h1 h2 h3 h4 h5 h6 hd ⊢
  clear hl hk hp
  have p0 := Int.mul_nonneg h4 hd.1
  have p1 : l1 * d ≤ 1000000 * 100000 := Int.mul_le_mul h6 hd.2 hd.1 (by omega)
  have p2 := Int.mul_le_mul_of_nonneg_right h5 hd.1
  obtain ⟨A, hA⟩ : ∃ A, l0 * d = A := ⟨_, rfl⟩
  obtain ⟨B, hB⟩ : ∃ B, l1 * d = B := ⟨_, rfl⟩
  rw [hA] at p0 p2 ⊢
  rw [hB] at p1 p2 ⊢
  go_enter Tryz.func94, Tryz.ntmps94
  go_wp2_with fail
  all_goals go_region
  all_goals go_wp2_with fail
  all_goals
    refine bodyPost_ret (results_cell_cell_tmp (P := Tryz.prog) (fn := Tryz.f94) rfl _ _ (w.heap.size + 1) (w.heap.size + 1 + 1) 23 23 _ _ (0, 0) (0, 0) _ _ rfl (alloc_heap (alloc_heap (alloc_at _ _ _ (by simp)) _) _) Tryz.underlying23 rfl (by kernel_rfl) rfl (alloc_heap (alloc_at _ _ _ (by simp)) _) Tryz.underlying23 rfl (by kernel_rfl)) rfl ?_
  all_goals exact ⟨_, _, _, rests_eq (by omega) (by omega), (((((Ext.refl _).alloc _).alloc _).alloc _).alloc _).drew⟩
end Go.Proofs.YtcoelhpmkhimpaaGreatDoor

namespace Go.Proofs.YtcoelhpmkhimpaaGreatDoor
open Go.RowKit
set_option linter.unusedVariables false
set_option linter.unusedSimpArgs false
set_option maxHeartbeats 4000000 in
theorem slab_any (p : Pack) (hk : p.kind = 1) (hp : PackIs p) (w : World) (hn : NoneAt w) : Calls Tryz.prog 90 #[p.val] w (restPost p w) := by
  have hl := leftP1 hk
  unfold restPost
  rw [hl]
  have hm := hp.mass
  have hc : SpanIs p.crumbs 0 1000 := by
    rcases hp.kind with h | h | h
    · exact h.2.2.1
    · omega
    · omega
  obtain ⟨k, ⟨m0, m1⟩, ⟨a0, a1⟩, ⟨b0, b1⟩, ⟨l0, l1⟩, u, d⟩ := p
  obtain ⟨h1, h2, h3⟩ := hm
  obtain ⟨h4, h5, h6⟩ := hc
  unfold Pack.val Span.val
  simp only at h1 h2 h3 h4 h5 h6 ⊢
  clear hl hk hp
  obtain ⟨n0, n1⟩ := hn
  have hlt : 0 < w.heap.size := block_lt_of_cell n0
  by_cases g1 : u < a0
  · rw [if_pos g1]
    go_enter Tryz.func90, Tryz.ntmps90
    go_wp2_with fail
    go_region
    go_wp2_with fail
    refine bodyPost_ret (results_cell_cell_tmp (P := Tryz.prog) (fn := Tryz.f90) rfl _ _ (w.heap.size + 1) (w.heap.size + 1 + 1) 23 23 _ _ (0, 0) (0, 0) _ _ rfl (alloc_heap (alloc_at _ _ _ (by simp)) _) Tryz.underlying23 rfl (by kernel_rfl) rfl (alloc_at _ _ _ (by simp)) Tryz.underlying23 rfl (by kernel_rfl)) rfl ?_
    exact ⟨_, _, _, rfl, ((((Ext.refl _).alloc _).alloc _).alloc _).drew⟩
  · rw [if_neg g1]
    by_cases g2 : u < a1
    · rw [if_pos g2]
      go_enter Tryz.func90, Tryz.ntmps90
      go_wp2_with (go_at_call 122; refine (part_any _ _ _ (by omega) (by omega)).mono ?_; rintro e v ⟨rfl, rfl⟩)
      go_region
      go_wp2_with fail
      refine bodyPost_ret (results_cell_cell_tmp (P := Tryz.prog) (fn := Tryz.f90) rfl _ _ (w.heap.size + 1) (w.heap.size + 1 + 1) 23 23 _ _ (0, 0) (0, 0) _ _ rfl (alloc_heap (alloc_at _ _ _ (by simp)) _) Tryz.underlying23 rfl (by kernel_rfl) rfl (alloc_at _ _ _ (by simp)) Tryz.underlying23 rfl (by kernel_rfl)) rfl ?_
      exact ⟨_, _, _, rfl, ((((Ext.refl _).alloc _).alloc _).alloc _).drew⟩
    · rw [if_neg g2]
      go_enter Tryz.func90, Tryz.ntmps90
      go_wp2_with (go_at_call 122; refine (part_any _ _ _ (by omega) (by omega)).mono ?_; rintro e v ⟨rfl, rfl⟩)
      go_region
      go_wp2_with fail
      refine bodyPost_ret (results_cell_cell_tmp (P := Tryz.prog) (fn := Tryz.f90) rfl _ _ (w.heap.size + 1) (w.heap.size + 1 + 1) 23 23 _ _ (0, 0) (0, 0) _ _ rfl (alloc_heap (alloc_at _ _ _ (by simp)) _) Tryz.underlying23 rfl (by kernel_rfl) rfl (alloc_at _ _ _ (by simp)) Tryz.underlying23 rfl (by kernel_rfl)) rfl ?_
      exact ⟨_, _, _, rfl, ((((Ext.refl _).alloc _).alloc _).alloc _).drew⟩
end Go.Proofs.YtcoelhpmkhimpaaGreatDoor

namespace Go.Proofs.YtcoelhpmkhimpaaGreatDoor
open Go.RowKit
set_option linter.unusedVariables false
def fateOf : List DayStep → Int
  | [] => 0
  | x :: l => max x.f (fateOf l)
theorem fateOf_nonneg : ∀ (l : List DayStep), 0 ≤ fateOf l
  | [] => Int.le_refl _
  | x :: l => by
    have := fateOf_nonneg l
    unfold fateOf
    omega
theorem fateOf_snoc : ∀ (l : List DayStep) (x : DayStep), 0 ≤ x.f → fateOf (l ++ [x]) = max (fateOf l) x.f
  | [], x, h => by simp only [List.nil_append, fateOf]; omega
  | y :: l, x, h => by
    have := fateOf_snoc l x h
    simp only [List.cons_append, fateOf, this]
    omega
theorem fateOf_le : ∀ (l : List DayStep), (∀ x ∈ l, x.f = 0 ∨ x.f = 1) → fateOf l ≤ 1
  | [], _ => by unfold fateOf; omega
  | x :: l, h => by
    have h1 := fateOf_le l (fun y hy => h y (List.mem_cons_of_mem _ hy))
    have h2 := h x (List.mem_cons_self ..)
    unfold fateOf
    omega
theorem days_seq {s : Breed} : ∀ {l : List March} {c : Camel} {r : List Camel × Int}, daysOf s c l = some r → (seqOf s c l).map (·.c) = r.1 ∧ fateOf (seqOf s c l) = r.2 ∧ ∀ x ∈ seqOf s c l, x.f = 0 ∨ x.f = 1
  | [], c, r, h => by
    cases h
    exact ⟨rfl, rfl, fun x hx => by cases hx⟩
  | m :: l, c, r, h => by
    unfold daysOf at h
    unfold seqOf
    cases hd : diesB s c m with
    | true => rw [hd, if_pos rfl] at h; cases h
    | false =>
      rw [hd, if_neg (by simp)] at h
      rw [if_neg (by simp)]
      cases hr : daysOf s (nextOf s c m) l with
      | none => rw [hr] at h; cases h
      | some r' =>
        rw [hr] at h
        cases h
        obtain ⟨h1, h2, h3⟩ := days_seq hr
        have hf := stepOf_f s c m hd
        have hc : (stepOf s c m).c = nextOf s c m := by unfold stepOf; rw [hd]; rfl
        refine ⟨by simp [h1, hc], by simp only [fateOf, h2, hf], fun x hx => ?_⟩
        rcases List.mem_cons.1 hx with rfl | hx
        · rw [hf]
          split
          · exact .inl rfl
          · exact .inr rfl
        · exact h3 x hx
theorem days_len {s : Breed} : ∀ {l : List March} {c : Camel} {r : List Camel × Int}, daysOf s c l = some r → r.1.length = l.length
  | [], c, r, h => by cases h; rfl
  | m :: l, c, r, h => by
    unfold daysOf at h
    split at h
    · cases h
    · cases hr : daysOf s (nextOf s c m) l with
      | none => rw [hr] at h; cases h
      | some r' =>
        rw [hr] at h
        cases h
        simp [days_len hr]
def fateL (l : List DayStep) : Int := l.foldl (fun a x => max a x.f) 0
theorem fateL_snoc (l : List DayStep) (x : DayStep) : fateL (l ++ [x]) = max (fateL l) x.f := by simp [fateL]
theorem foldl_max (l : List DayStep) : ∀ a, 0 ≤ a → l.foldl (fun a x => max a x.f) a = max a (fateOf l) := by
  induction l with
  | nil => intro a h; simp only [List.foldl_nil, fateOf]; omega
  | cons x l ih =>
    intro a h
    rw [List.foldl_cons, ih _ (by omega)]
    have := fateOf_nonneg l
    show max (max a x.f) (fateOf l) = max a (max x.f (fateOf l))
    omega
theorem fateL_eq (l : List DayStep) : fateL l = fateOf l := by
  unfold fateL
  rw [foldl_max l 0 (by omega)]
  have := fateOf_nonneg l
  omega
def camelRows (l : List Camel) : List (List Value) := l.map Camel.cells
theorem camelRows_row (l : List Camel) : ∀ r ∈ camelRows l, r.length = 7 ∧ ∀ u ∈ r, u.oneCell' = true := by
  intro r hr
  obtain ⟨s, _, rfl⟩ := List.mem_map.1 hr
  refine ⟨rfl, fun u hu => ?_⟩
  simp only [Camel.cells, List.mem_cons, List.not_mem_nil, or_false] at hu
  rcases hu with rfl | rfl | rfl | rfl | rfl | rfl | rfl <;> rfl
theorem camelRows_append (l m : List Camel) : camelRows (l ++ m) = camelRows l ++ camelRows m := by simp [camelRows]
theorem camels_of_owns {w : World} {B : Nat} {e : TypeId} {v : Value} {l : List Camel} (h : Owns w B e 7 v (camelRows l)) : ∃ a c, v = .slice a l.length c ∧ From B a ∧ l.length ≤ c ∧ c ≤ maxLen ∧ CamelsAt w a l.length l := by
  obtain ⟨a, c, hv, h0, h1, h2, h3⟩ := h.slAt
  have e : (camelRows l).length = l.length := by simp [camelRows]
  rw [e] at hv h1 h3
  refine ⟨a, c, hv, h0, h1, h2, rfl, h3.congr fun i hi => ?_⟩
  simp [camelRows, List.getD, List.getElem?_map, List.getElem?_eq_getElem hi]
theorem info27 : (Tryz.prog.info? 27).map (fun i => (i.zero, i.size, i.bytes)) = some (some (.agg #[.int .i64 0, .int .i64 0, .int .i64 0, .int .i64 0, .int .i64 0, .int .i64 0, .bool false]), 7, 56) := by kernel_rfl
theorem elem49 : Elem Tryz.prog 91 27 7 := by
  obtain ⟨i, h1, h2, h3, h4⟩ := info_parts info27
  exact ⟨Tryz.underlying91, ⟨i, _, _, h1, h2, h3, h4, rfl, by decide⟩, by decide⟩
def dayRows (l : List March) : List (List Value) := l.map March.cells
theorem dayRows_row (l : List March) : ∀ r ∈ dayRows l, r.length = 8 ∧ ∀ u ∈ r, u.oneCell' = true := by
  intro r hr
  obtain ⟨s, _, rfl⟩ := List.mem_map.1 hr
  refine ⟨rfl, fun u hu => ?_⟩
  simp only [March.cells, List.mem_cons, List.not_mem_nil, or_false] at hu
  rcases hu with rfl | rfl | rfl | rfl | rfl | rfl | rfl | rfl <;> rfl
theorem dayRows_append (l m : List March) : dayRows (l ++ m) = dayRows l ++ dayRows m := by simp [dayRows]
theorem days_of_owns {w : World} {B : Nat} {e : TypeId} {v : Value} {l : List March} (h : Owns w B e 8 v (dayRows l)) : ∃ a c, v = .slice a l.length c ∧ From B a ∧ l.length ≤ c ∧ c ≤ maxLen ∧ DaysAt w a l.length l := by
  obtain ⟨a, c, hv, h0, h1, h2, h3⟩ := h.slAt
  have e : (dayRows l).length = l.length := by simp [dayRows]
  rw [e] at hv h1 h3
  refine ⟨a, c, hv, h0, h1, h2, rfl, h3.congr fun i hi => ?_⟩
  simp [dayRows, List.getD, List.getElem?_map, List.getElem?_eq_getElem hi]
end Go.Proofs.YtcoelhpmkhimpaaGreatDoor

namespace Go.Proofs.YtcoelhpmkhimpaaGreatDoor
open Go.RowKit
set_option linter.unusedVariables false
variable {F : Fence} {n : Nat} {P : Program}
/-- the contract of an iterator whose consumer keeps to V -/
def SeqStopsK {α : Type} (F : Fence) (n : Nat) (P : Program) (g : Nat) (lb : Array Value) (encs : α → Array Value) (V : World → Prop) (Kp : World → World → Prop) (S Sp : List α → Prop) (N : Nat) (O : Nat → Prop) (w : World) : Prop :=
  ∀ (l : Nat) (J Jx : List α → World → Prop) (W : World), Ext w W → (∀ s A, J s A → V A) → (∀ s A B, J s A → But O A B → J s B) → (∀ s A B, Jx s A → But O A B → Jx s B) →
    (∀ pre x W1, J pre W1 → pre.length < N → YieldAt F (n - 1) P l (encs x) W1 fun e W' =>
      (e = .returned (.bool true) ∧ J (pre ++ [x]) W' ∧ Kp W1 W') ∨ (e = .returned (.bool false) ∧ Jx (pre ++ [x]) W')) →
    J [] W →
    CallsIn F n P g (#[.func (.yield l) #[] #[]] ++ lb) W fun e W' => (∃ v, e = .returned v) ∧ ((∃ xs, S xs ∧ J xs W') ∨ (∃ pre, Sp pre ∧ Jx pre W'))
theorem wpIn_rangeFunc_box {α : Type} {g : Operand} {ps : Array Tmp} {assign body : Code} {Q : Exit → Act → World → Prop} {a : Act} {w : World}
    (hro : F.round = none) (h1 : 1 ≤ n) {gf : Nat} {lb : Array Value} (hg : a.eval g = .func (.func gf) #[] lb) (hFg : F.fn gf) (eg : ∀ args w, (callFunc gf args).run P w = .ok (.enter gf args) w)
    {encs : α → Array Value} {V : World → Prop} {Kp : World → World → Prop} {S Sp : List α → Prop} {N : Nat} {O : Nat → Prop} {w0 : World} (hseq : SeqStopsK F (n - 1) P gf lb encs V Kp S Sp N O w0)
    (hKt : ∀ {A B C : World}, Kp A B → Kp B C → Kp A C) (hKb : ∀ (W : World) (l : Nat) (o o' : Obj), w.heap.size ≤ l → W.heap[l]? = some o → o.isCells = false → o.isWalk = false → Kp W (W.putObj l o')) (hb0 : Ext w0 w) (hO : ∀ b, O b → b < w.heap.size) (hps : ∀ x, (encs x).size = ps.size)
    (I : List α → World → Prop) (Ix : Code → List α → World → Prop) (hI : ∀ s A B, I s A → ButF O w.heap.size A B → I s B) (hIx : ∀ c s A B, Ix c s A → ButF O w.heap.size A B → Ix c s B) (h0 : I [] w) (hIV : ∀ s A, I s A → V A) (hKx : ∀ {A B : World}, w.heap.size ≤ A.heap.size → Ext A B → Kp A B) (A : α → Act → World → Prop) (hA : ∀ x a B C, A x a B → ButF (fun _ => False) w.heap.size B C → A x a C)
    (hassign : ∀ (l : Nat) (x : α) (W : World) (K : Act → World → Prop), w.heap.size ≤ W.heap.size → (∀ a' W', Ext W W' → A x a' W' → K a' W') →
      assign.wpIn (F.inRound l) (n - 1 - 1) P (Exit.then K (fun _ _ _ => False)) { tmps := (ps.zip (encs x)).foldl (fun t (p, v) => t.setIfInBounds p v) a.tmps, defers := [] } W)
    (hbody : ∀ (l : Nat) (pre : List α) (x : α) (a' : Act) (W : World), I pre W → A x a' W → pre.length < N → body.wpIn (F.inRound l) (n - 1 - 1) P (ownPostK Kp I Ix (pre ++ [x]) W) a' W)
    (hdone : ∀ (D : Nat) (xs : List α) (W : World), w.heap.size ≤ D → S xs → I xs W → W.heap[D]? = some (.deferred (some [])) → Q .normal { a with defers := { target := .collected D, args := #[] } :: a.defers } W)
    (hstop : ∀ (D : Nat) (c : Code) (pre : List α) (W : World), w.heap.size ≤ D → Sp pre → Ix c pre W → W.heap[D]? = some (.deferred (some [])) → c.wpIn F n P Q { a with defers := { target := .collected D, args := #[] } :: a.defers } W) :
    (Code.rangeFunc g ps assign body).wpIn F n P Q a w := by
  refine wpIn_rangeFunc ?_
  intro fn hfn
  rw [hro]
  obtain ⟨rec, hrec⟩ : ∃ rec : LoopState → Option Code → Loop, rec = fun st pe => { state := st, pending := pe, fn, tmps := a.tmps, params := ps, assign, body, defers := w.heap.size } := ⟨_, rfl⟩
  obtain ⟨W1, hW1⟩ : ∃ W1, (w.alloc (.deferred (some []))).alloc (.loop (rec .ready none)) = W1 := ⟨_, rfl⟩
  have hL1 : W1.heap[w.heap.size + 1]? = some (.loop (rec .ready none)) := by
    rw [← hW1]; have := World.alloc_heap_new (w.alloc (.deferred (some []))) (.loop (rec .ready none)); rwa [World.size_alloc] at this
  have hK1 : W1.heap[w.heap.size]? = some (.deferred (some [])) := by
    rw [← hW1]; exact (Below.heap_alloc _ _ _ (by simp)).trans (World.alloc_heap_new w _)
  have hx1 : Ext w W1 := by rw [← hW1]; exact ((Ext.refl w).alloc _).alloc _
  have hI1 : I [] W1 := hI _ _ _ h0 ((hx1.but O).f _)
  have hb1 : Ext w0 W1 := hb0.trans hx1
  have hO0 : ¬O w.heap.size := fun h => by have := hO _ h; omega
  have hO1 : ¬O (w.heap.size + 1) := fun h => by have := hO _ h; omega
  refine ⟨w.heap.size + 1, [{ target := .collected w.heap.size, args := #[] }], W1, { target := .fn (.func gf) lb, args := #[.func (.yield (w.heap.size + 1)) #[] #[]] }, W1, gf,
    #[.func (.yield (w.heap.size + 1)) #[] #[]] ++ lb, W1, ?_, ?_, ?_, ?_, fun _ => h1, ?_⟩
  · rw [← hW1, hrec]; exact run_enterLoop_outer _ _ _ _ _
  · simp only [resolve, hg]
    simp [go_sem]
  · intro f' hf'; simp [Target.leads] at hf'; subst hf'; exact hFg
  · simp [invoke, go_sem, eg]
  · refine (hseq (w.heap.size + 1)
      (fun pre W => I pre W ∧ W.heap[w.heap.size + 1]? = some (.loop (rec .ready none)) ∧ W.heap[w.heap.size]? = some (.deferred (some [])))
      (fun pre W => ∃ c, Ix c pre W ∧ W.heap[w.heap.size + 1]? = some (.loop (rec .done (some c))) ∧ W.heap[w.heap.size]? = some (.deferred (some [])))
      W1 hb1 (fun s A hs => hIV s A hs.1)
      (fun s A B hs hg' => ⟨hI s A B hs.1 (hg'.f _), hg'.block _ _ hs.2.1 hO1, hg'.block _ _ hs.2.2 hO0⟩)
      (fun s A B hs hg' => by
        obtain ⟨c, hc, hl, hk⟩ := hs
        exact ⟨c, hIx c s A B hc (hg'.f _), hg'.block _ _ hl hO1, hg'.block _ _ hk hO0⟩)
      ?_ ⟨hI1, hL1, hK1⟩).mono ?_
    · rintro pre x W ⟨hi, hl, hk⟩ hlen
      have hlt : w.heap.size + 1 < W.heap.size := (Array.getElem?_eq_some_iff.1 hl).1
      have hy := run_yield (P := P) (args := encs x) hl (by rw [hrec]; exact hps x)
      rw [hrec] at hy
      refine ⟨fn, _, assign, body, hy, roundIn_of_wpIn hfn (hassign _ x W _ (by omega) (fun a' W' hx' ha' => ?_))⟩
      have hwx : Kp W W' := hKx (by omega) hx'
      replace hi := hI _ _ _ hi ((hx'.but O).f _)
      replace hl := hx'.heap hl
      replace hk := hx'.heap hk
      replace hlt : w.heap.size + 1 < W'.heap.size := (Array.getElem?_eq_some_iff.1 hl).1
      refine ⟨_, run_beginRound hl (by rw [hrec]), ?_⟩
      have hl2 : (W'.putObj (w.heap.size + 1) (.loop { rec .ready none with state := .busy })).heap[w.heap.size + 1]? = some (.loop { rec .ready none with state := .busy }) := World.putObj_heap_same hlt
      have hk2 : (W'.putObj (w.heap.size + 1) (.loop { rec .ready none with state := .busy })).heap[w.heap.size]? = some (.deferred (some [])) := (World.putObj_heap_other (by omega)).trans hk
      have hw2 : Kp W (W'.putObj (w.heap.size + 1) (.loop { rec .ready none with state := .busy })) := hKt hwx (hKb _ _ _ _ (by omega) hl rfl rfl)
      refine wpIn_mono (hbody _ pre x _ _ (hI _ _ _ hi (ButF.put _ hl rfl (by omega))) (hA _ _ _ _ ha' (ButF.put _ hl rfl (by omega))) hlen) ?_
      have fin : ∀ (jump : Option Code) (W3 : World), KeepsOthers (W'.putObj (w.heap.size + 1) (.loop { rec .ready none with state := .busy })) W3 →
          (Instr.endRound (w.heap.size + 1) jump).run P W3 = .ok (.bool jump.isNone) (W3.putObj (w.heap.size + 1) (.loop (rec (if jump.isNone then .ready else .done) jump))) ∧
          W3.heap[w.heap.size + 1]? = some (.loop { rec .ready none with state := .busy }) ∧
          (W3.putObj (w.heap.size + 1) (.loop (rec (if jump.isNone then .ready else .done) jump))).heap[w.heap.size + 1]? = some (.loop (rec (if jump.isNone then .ready else .done) jump)) ∧
          (W3.putObj (w.heap.size + 1) (.loop (rec (if jump.isNone then .ready else .done) jump))).heap[w.heap.size]? = some (.deferred (some [])) := fun jump W3 hk3 => by
        have hl3 := hk3.same _ _ hl2 rfl
        have := run_endRound (P := P) jump hl3
        rw [hrec] at this ⊢
        exact ⟨this, by rw [hrec] at hl3; exact hl3, World.putObj_heap_same (Array.getElem?_eq_some_iff.1 hl3).1, (World.putObj_heap_other (by omega)).trans (hk3.same _ _ hk2 rfl)⟩
      rintro e a3 W3 hp
      cases e with
      | normal =>
        obtain ⟨hk3, hkp3, hi3⟩ := hp
        obtain ⟨hr, hl3, hl4, hk4⟩ := fin none W3 hk3
        exact ⟨_, _, hr, .inl ⟨rfl, ⟨hI _ _ _ hi3 (ButF.put _ hl3 rfl (by omega)), hl4, hk4⟩, hKt (hKt hw2 hkp3) (hKb _ _ _ _ (by omega) hl3 rfl rfl)⟩⟩
      | ret =>
        obtain ⟨hk3, hi3⟩ := hp
        obtain ⟨hr, hl3, hl4, hk4⟩ := fin (some .ret) W3 hk3
        exact ⟨_, _, hr, .inr ⟨rfl, .ret, hIx _ _ _ _ hi3 (ButF.put _ hl3 rfl (by omega)), hl4, hk4⟩⟩
      | exit id =>
        obtain ⟨hk3, hi3⟩ := hp
        obtain ⟨hr, hl3, hl4, hk4⟩ := fin (some (.exit id)) W3 hk3
        exact ⟨_, _, hr, .inr ⟨rfl, .exit id, hIx _ _ _ _ hi3 (ButF.put _ hl3 rfl (by omega)), hl4, hk4⟩⟩
      | goto t =>
        obtain ⟨hk3, hi3⟩ := hp
        obtain ⟨hr, hl3, hl4, hk4⟩ := fin (some (.goto t)) W3 hk3
        exact ⟨_, _, hr, .inr ⟨rfl, .goto t, hIx _ _ _ _ hi3 (ButF.put _ hl3 rfl (by omega)), hl4, hk4⟩⟩
      | panic ch => exact hp.elim
      | outgrown => exact hp.elim
    · rintro e W2 ⟨⟨v, rfl⟩, (⟨xs, hS, hi, hl, hk⟩ | ⟨pre, hSp, c, hi, hl, hk⟩)⟩
      · exact ⟨none, _, by have := run_endLoop (P := P) hl (by rw [hrec]; simp); rw [hrec] at this; exact this, hdone _ xs _ (Nat.le_refl _) hS (hI _ _ _ hi (ButF.put _ hl rfl (by omega))) ((World.putObj_heap_other (by omega)).trans hk)⟩
      · exact ⟨some c, _, by have := run_endLoop (P := P) hl (by rw [hrec]; simp); rw [hrec] at this; exact this, hstop _ c pre _ (Nat.le_refl _) hSp (hIx _ _ _ _ hi (ButF.put _ hl rfl (by omega))) ((World.putObj_heap_other (by omega)).trans hk)⟩
end Go.Proofs.YtcoelhpmkhimpaaGreatDoor

namespace Go.Proofs.YtcoelhpmkhimpaaGreatDoor
open Go.RowKit
set_option linter.unusedVariables false
set_option linter.unusedSimpArgs false
attribute [local go_sem] Oper.semAt_some
end Go.Proofs.YtcoelhpmkhimpaaGreatDoor

namespace Go.Proofs.YtcoelhpmkhimpaaGreatDoor
open Go.RowKit
set_option linter.unusedVariables false
set_option linter.unusedSimpArgs false
attribute [local go_sem] Oper.semAt_some
def lastsVal (s : Breed) (c : Camel) (m : March) : Span × Int := if askDays s c [m] ≠ 0 then (⟨0, 0⟩, askDays s c [m]) else (⟨(lastsOf s m c 60).1, (lastsOf s m c 60).2⟩, 0)
theorem ask_zero {s : Breed} {c : Camel} {l : List March} (h : askDays s c l = 0) : BreedOk s ∧ CamelOk s c ∧ l.length ≤ 60 ∧ ∀ m ∈ l, DayOk m := by
  unfold askDays at h
  by_cases h1 : camelErr s c = 0
  · rw [if_neg (by simp [h1])] at h
    by_cases h2 : 60 < l.length
    · rw [if_pos h2] at h; omega
    · rw [if_neg h2] at h
      unfold camelErr at h1
      unfold daysErr at h
      cases hb : breedOk s with
      | false => rw [hb] at h1; simp at h1
      | true =>
        cases hc : camelOk s c with
        | false => rw [hb, hc] at h1; simp at h1
        | true =>
          cases hd : l.all dayOk with
          | false => rw [hd] at h; simp at h
          | true => exact ⟨breedIs hb, camelIs.1 hc, by omega, fun m hm => dayIs (List.all_eq_true.1 hd m hm)⟩
  · rw [if_pos h1] at h
    exact absurd h h1
/-- the slice that holds a day sixty times -/
def IsRep (B : Nat) (m : March) : Rel := fun v W => ∃ g, v = .slice (some ⟨g, 0, none⟩) 60 60 ∧ B ≤ g ∧ DaysAt W (some ⟨g, 0, none⟩) 60 (List.replicate 60 m)
theorem isRep_ec (B : Nat) (m : March) (v : Value) : EC (IsRep B m v) := fun _ _ ⟨g, h1, h2, h3⟩ e => ⟨g, h1, h2, h3.ext e⟩
def LastsPost (s : Breed) (c : Camel) (m : March) (w : World) (e : Ending) (w' : World) : Prop := e = .returned (.tuple #[(lastsVal s c m).1.val, .int .i64 (lastsVal s c m).2]) ∧ Ext w w'
structure LastsI (w : World) (bn : Nat) (pre : List DayStep) (V : World) : Prop where
  ext : Ext w V
  r : V.heap[w.heap.size + 1 + 1 + 1]? = some (.cells #[.int .i64 0, .int .i64 0] 23 (0, 0))
  n : V.heap[bn]? = some (.cells #[.int .i64 (sureOf pre : Nat), .int .i64 (pre.length : Nat)] 23 (0, 0))
  s : V.heap[bn + 1]? = some (.cells #[.bool (allSure pre)] 4 (0, 0))
  ne : ∀ x ∈ pre, x.f ≠ 2
def LastsX (w : World) (bn : Nat) (c : Code) (pre : List DayStep) (V : World) : Prop := ∃ p x, pre = p ++ [x] ∧ x.f = 2 ∧ c = .exit 0 ∧ LastsI w bn p V
theorem LastsI.f {w : World} {bn pa lo : Nat} {pre : List DayStep} {A B : World} (h : LastsI w bn pre A) (h1 : w.heap.size ≤ pa) (h2 : w.heap.size ≤ lo) (h3 : w.heap.size + 1 + 1 + 1 ≠ pa) (h4 : bn ≠ pa) (h5 : bn + 1 ≠ pa) (k : ButF (fun b => b = pa) lo A B) : LastsI w bn pre B :=
  ⟨ButF.ext h.ext k (fun b hb => by subst hb; exact h1) h2, k.cells h.r h3, k.cells h.n h4, k.cells h.s h5, h.ne⟩
theorem LastsX.f {w : World} {bn pa lo : Nat} {c : Code} {pre : List DayStep} {A B : World} (h : LastsX w bn c pre A) (h1 : w.heap.size ≤ pa) (h2 : w.heap.size ≤ lo) (h3 : w.heap.size + 1 + 1 + 1 ≠ pa) (h4 : bn ≠ pa) (h5 : bn + 1 ≠ pa) (k : ButF (fun b => b = pa) lo A B) : LastsX w bn c pre B := by
  obtain ⟨p, x, e1, e2, e3, h⟩ := h
  exact ⟨p, x, e1, e2, e3, h.f h1 h2 h3 h4 h5 k⟩
theorem kpO_set {O : Nat → Prop} (W : World) {b i : Nat} (v : Value) (hO : O b) : KpO O W (W.setCell ⟨b, i, none⟩ v) :=
  ⟨by simp [World.setCell], fun k o hk _ hn => (Below.heap_setCell _ _ _ _ (fun e => hn (by simp only at e; rw [e]; exact hO))).trans hk⟩
theorem LastsI.two {w : World} {bn N M : Nat} {S T : Bool} {ps : List DayStep} {W : World} (hx : Ext w W) (hr : W.heap[w.heap.size + 1 + 1 + 1]? = some (.cells #[.int .i64 0, .int .i64 0] 23 (0, 0))) (hn : W.heap[bn]? = some (.cells #[.int .i64 (N : Nat), .int .i64 (M : Nat)] 23 (0, 0))) (hs : W.heap[bn + 1]? = some (.cells #[.bool S] 4 (0, 0)))
    (e1 : sureOf ps = N) (e2 : ps.length = M + 1) (e3 : allSure ps = T) (ne : ∀ x ∈ ps, x.f ≠ 2) (h1 : w.heap.size + 1 + 1 + 1 < bn) : LastsI w bn ps ((W.setCell ⟨bn, 1, none⟩ (.int .i64 ((M : Int) + 1))).setCell ⟨bn + 1, 0, none⟩ (.bool T)) := by
  refine ⟨(hx.setCell (p := ⟨bn, 1, none⟩) (by simp only; omega) _).setCell (p := ⟨bn + 1, 0, none⟩) (by simp only; omega) _, ?_, ?_, ?_, ne⟩
  · exact (Below.heap_setCell _ _ _ _ (by simp only; omega)).trans ((Below.heap_setCell _ _ _ _ (by simp only; omega)).trans hr)
  · refine (Below.heap_setCell _ _ _ _ (by simp only; omega)).trans ?_
    rw [heap_setCell_box, hn, e1, e2]
    rfl
  · rw [heap_setCell_box, (Below.heap_setCell _ _ _ _ (by simp only; omega)).trans hs, e3]
    rfl
theorem LastsI.three {w : World} {bn N M : Nat} {S T : Bool} {ps : List DayStep} {W : World} (hx : Ext w W) (hr : W.heap[w.heap.size + 1 + 1 + 1]? = some (.cells #[.int .i64 0, .int .i64 0] 23 (0, 0))) (hn : W.heap[bn]? = some (.cells #[.int .i64 (N : Nat), .int .i64 (M : Nat)] 23 (0, 0))) (hs : W.heap[bn + 1]? = some (.cells #[.bool S] 4 (0, 0)))
    (e1 : sureOf ps = N + 1) (e2 : ps.length = M + 1) (e3 : allSure ps = T) (ne : ∀ x ∈ ps, x.f ≠ 2) (h1 : w.heap.size + 1 + 1 + 1 < bn) : LastsI w bn ps (((W.setCell ⟨bn, 1, none⟩ (.int .i64 ((M : Int) + 1))).setCell ⟨bn + 1, 0, none⟩ (.bool T)).setCell ⟨bn, 0, none⟩ (.int .i64 ((N : Int) + 1))) := by
  refine ⟨((hx.setCell (p := ⟨bn, 1, none⟩) (by simp only; omega) _).setCell (p := ⟨bn + 1, 0, none⟩) (by simp only; omega) _).setCell (p := ⟨bn, 0, none⟩) (by simp only; omega) _, ?_, ?_, ?_, ne⟩
  · exact (Below.heap_setCell _ _ _ _ (by simp only; omega)).trans ((Below.heap_setCell _ _ _ _ (by simp only; omega)).trans ((Below.heap_setCell _ _ _ _ (by simp only; omega)).trans hr))
  · rw [heap_setCell_box, (Below.heap_setCell _ _ _ _ (by simp only; omega)), heap_setCell_box, hn, e1, e2]
    rfl
  · refine (Below.heap_setCell _ _ _ _ (by simp only; omega)).trans ?_
    rw [heap_setCell_box, (Below.heap_setCell _ _ _ _ (by simp only; omega)).trans hs, e3]
    rfl
end Go.Proofs.YtcoelhpmkhimpaaGreatDoor

namespace Go.Proofs.YtcoelhpmkhimpaaGreatDoor
open Go.RowKit
set_option linter.unusedVariables false
set_option linter.unusedSimpArgs false
def WalkPost (w : World) (r : List Stop × Int × Int) (e : Ending) (w' : World) : Prop := ∃ a c, e = .returned (.tuple #[.slice a r.1.length c, .int .i64 r.2.1, .int .i64 r.2.2]) ∧ From w.heap.size a ∧ r.1.length ≤ c ∧ c ≤ maxLen ∧ StopsAt w' a r.1.length r.1 ∧ Ext w w'
theorem But.cell {O : Nat → Prop} {A B : World} (h : But O A B) {x : Addr} {v : Value} (hc : A.cell? x = some v) (hn : ¬O x.block) : B.cell? x = some v := by
  obtain ⟨o, ho, _⟩ := cells_of_cell hc
  exact (World.cell?_of_block ((h.block _ o ho hn).trans ho.symm)).trans hc
theorem one_src (W : World) (x : Int) (T : TypeId) : SlAt (W.alloc (.cells #[.int .i64 x] T)) 1 (some ⟨W.heap.size, 0, none⟩) 1 (fun k => (intRows .i64 [x]).getD k []) :=
  slAt_one (cells_one (by rw [cell_of_row _ _ _ _ T (0, 0) (heap_alloc_new W _)]; rfl))
end Go.Proofs.YtcoelhpmkhimpaaGreatDoor

namespace Go.Proofs.YtcoelhpmkhimpaaGreatDoor
open Go.RowKit
set_option linter.unusedVariables false
set_option linter.unusedSimpArgs false
attribute [local go_sem] Oper.semAt_some
def DaysPost (r : List Camel × Int) (w : World) (e : Ending) (w' : World) : Prop := ∃ a cp, e = .returned (.tuple #[.slice a r.1.length cp, .int .u8 r.2, .int .i64 0, .int .i64 0]) ∧ From w.heap.size a ∧ r.1.length ≤ cp ∧ cp ≤ maxLen ∧ CamelsAt w' a r.1.length r.1 ∧ Ext w w'
/-- the block that the slice in box p leads to -/
def OwnIn (p : Nat) (A : World) (b : Nat) : Prop := ∃ v, A.heap[p]? = some (.cells #[v] 91 (0, 0)) ∧ v.ownBlock = some b
structure KpS (O : Nat → Prop) (p : Nat) (A B : World) : Prop where
  kp : KpO (fun b => O b ∨ OwnIn p A b) A B
  own : ∀ b, OwnIn p B b → OwnIn p A b ∨ A.heap.size ≤ b
theorem KpS.trans {O : Nat → Prop} {p : Nat} {A B C : World} (h : KpS O p A B) (k : KpS O p B C) : KpS O p A C := by
  refine ⟨⟨Nat.le_trans h.kp.size k.kp.size, fun b o hb hc hn => ?_⟩, fun b hb => ?_⟩
  · refine k.kp.block b o (h.kp.block b o hb hc hn) hc (fun q => ?_)
    rcases q with q | q
    · exact hn (.inl q)
    · rcases h.own b q with q | q
      · exact hn (.inr q)
      · have := heap_lt hb
        omega
  · rcases k.own b hb with q | q
    · exact h.own b q
    · exact .inr (Nat.le_trans h.kp.size q)
theorem kpS_put {O : Nat → Prop} {p n : Nat} (hp : p < n) (W : World) (l : Nat) (o o' : Obj) (h : n ≤ l) (hl : W.heap[l]? = some o) (ho : o.isCells = false) (hw : o.isWalk = false) : KpS O p W (W.putObj l o') := by
  refine ⟨kpO_b (n := n) W l o o' h hl ho hw, fun b ⟨v, hv, hb⟩ => .inl ⟨v, ?_, hb⟩⟩
  exact (World.putObj_heap_other (by omega)).symm.trans hv
theorem kpS_ext {O : Nat → Prop} {p n : Nat} (hp : p < n) {A B : World} (h : n ≤ A.heap.size) (hx : Ext A B) : KpS O p A B :=
  ⟨hx.kpO _, fun b ⟨v, hv, hb⟩ => .inl ⟨v, (Below.block hx p (by omega)).symm.trans hv, hb⟩⟩
/-- what is so in the loop -/
structure DaysI (w : World) (B0 : Nat) (pre : List DayStep) (V : World) : Prop where
  ext : Ext w V
  all : ∃ v, V.heap[w.heap.size + 1 + 1]? = some (.cells #[v] 91 (0, 0)) ∧ Owns V B0 27 7 v (camelRows (pre.map (·.c)))
  fate : V.heap[w.heap.size + 1 + 1 + 1]? = some (.cells #[.int .u8 (fateL pre)] 5 (0, 0))
  at' : V.heap[w.heap.size + 1 + 1 + 1 + 1]? = some (.cells #[.int .i64 0] 3 (0, 0))
  er : V.heap[w.heap.size + 1 + 1 + 1 + 1 + 1]? = some (.cells #[.int .i64 0] 35 (0, 0))
  low : B0 ≤ V.heap.size
def daysV (p B0 : Nat) (A : World) : Prop := p < A.heap.size ∧ ∀ b, OwnIn p A b → B0 ≤ b ∧ b < A.heap.size
theorem DaysI.v {w : World} {B0 : Nat} {pre : List DayStep} {A : World} (h : DaysI w B0 pre A) : daysV (w.heap.size + 1 + 1) B0 A := by
  obtain ⟨v, hv, ho⟩ := h.all
  refine ⟨heap_lt hv, fun b ⟨v', hv', hb⟩ => ?_⟩
  rw [hv] at hv'
  cases hv'
  exact ho.lt b hb
theorem Owns.butF {O : Nat → Prop} {lo B : Nat} {e : TypeId} {sz : Nat} {v : Value} {rows : List (List Value)} {A C : World} (h : Owns A B e sz v rows) (k : ButF O lo A C) (hn : ∀ b, v.ownBlock = some b → ¬O b) : Owns C B e sz v rows := by
  refine ⟨⟨h.1.1, ?_⟩, h.2⟩
  rcases h.1.2 with q | ⟨g, cap, cur, e1, e2, e3, e4⟩
  · exact .inl q
  · exact .inr ⟨g, cap, cur, e1, e2, k.cells e3 (hn g (by rw [e1]; rfl)), e4⟩
theorem Owns.cellsAt {B : Nat} {e : TypeId} {sz : Nat} {v : Value} {rows : List (List Value)} {A : World} (h : Owns A B e sz v rows) {b : Nat} (hb : v.ownBlock = some b) : ∃ cs, A.heap[b]? = some (.cells cs e (0, 0)) := by
  rcases h.1.2 with ⟨rfl, _⟩ | ⟨g, cap, cur, rfl, e2, e3, e4⟩
  · cases hb
  · cases hb
    exact ⟨cur, e3⟩
theorem DaysI.f {w : World} {B0 pa lo : Nat} {pre : List DayStep} {A B : World} (h : DaysI w B0 pre A) (h1 : w.heap.size ≤ pa) (h2 : w.heap.size ≤ lo) (h3 : w.heap.size + 1 + 1 + 1 + 1 + 1 < pa) (h4 : pa < B0) (k : ButF (fun b => b = pa) lo A B) : DaysI w B0 pre B := by
  obtain ⟨v, hv, ho⟩ := h.all
  refine ⟨ButF.ext h.ext k (fun b hb => by subst hb; exact h1) h2, ⟨v, k.cells hv (by omega), ho.butF k (fun b hb => by have := (ho.lt b hb).1; omega)⟩, k.cells h.fate (by omega), k.cells h.at' (by omega), k.cells h.er (by omega), Nat.le_trans h.low k.size⟩
theorem KpO.mono {O O' : Nat → Prop} {A B : World} (h : KpO O A B) (hO : ∀ b, O b → O' b) : KpO O' A B := ⟨h.size, fun b o hb hc hn => h.block b o hb hc (fun q => hn (hO b q))⟩
theorem But.kpO {O : Nat → Prop} {A B : World} (h : But O A B) : KpO O A B := ⟨h.size, fun b o hb _ hn => h.block b o hb hn⟩
theorem But.mono {O O' : Nat → Prop} {A B : World} (h : But O A B) (hO : ∀ b, O b → O' b) : But O' A B := ⟨h.os, h.tape, h.output, h.size, fun b o hb hn => h.block b o hb (fun q => hn (hO b q))⟩
theorem kpS_days {O : Nat → Prop} {p B0 : Nat} {wr A B : World} (hV : daysV p B0 wr) (hx : Ext wr A) (k : KpS O p A B) : KpO (fun b => O b ∨ (B0 ≤ b ∧ b < wr.heap.size)) A B :=
  k.kp.mono fun b hb => hb.imp id fun ⟨v, hv, ho⟩ => hV.2 b ⟨v, (Below.block hx p hV.1).symm.trans hv, ho⟩
theorem days_step {w W Wa : World} {B0 k : Nat} {pre : List DayStep} {x : DayStep} {v v' : Value} {M : Int} (hI : DaysI w B0 pre W) (hv : W.heap[w.heap.size + 1 + 1]? = some (.cells #[v] 91 (0, 0))) (ho : Owns W B0 27 7 v (camelRows (pre.map (·.c))))
    (hb : But (fun b => v.ownBlock = some b) W Wa) (ho' : Owns Wa B0 27 7 v' (camelRows (pre.map (·.c)) ++ camelRows [x.c])) (hown : v'.ownBlock = v.ownBlock ∨ v'.ownBlock = some k) (hk : W.heap.size ≤ k) (hks : KeepsOthers W Wa) (hB : w.heap.size + 1 + 1 + 1 + 1 + 1 < B0) (hM : M = fateL (pre ++ [x])) :
    KeepsOthers W ((Wa.setCell ⟨w.heap.size + 1 + 1, 0, none⟩ v').setCell ⟨w.heap.size + 1 + 1 + 1, 0, none⟩ (.int .u8 M)) ∧ KpS (fun b => b = w.heap.size + 1 + 1 ∨ b = w.heap.size + 1 + 1 + 1) (w.heap.size + 1 + 1) W ((Wa.setCell ⟨w.heap.size + 1 + 1, 0, none⟩ v').setCell ⟨w.heap.size + 1 + 1 + 1, 0, none⟩ (.int .u8 M)) ∧
    DaysI w B0 (pre ++ [x]) ((Wa.setCell ⟨w.heap.size + 1 + 1, 0, none⟩ v').setCell ⟨w.heap.size + 1 + 1 + 1, 0, none⟩ (.int .u8 M)) := by
  have hlt := ho.lt
  have hn : ∀ b, b < B0 → ¬v.ownBlock = some b := fun b hb h => by have := (hlt b h).1; omega
  have hva := hb.block _ _ hv (hn _ (by omega))
  have hfa := hb.block _ _ hI.fate (hn _ (by omega))
  have hset : But (fun b => b = w.heap.size + 1 + 1 ∨ b = w.heap.size + 1 + 1 + 1) Wa ((Wa.setCell ⟨w.heap.size + 1 + 1, 0, none⟩ v').setCell ⟨w.heap.size + 1 + 1 + 1, 0, none⟩ (.int .u8 M)) := (But.setCell (O := fun b => b = w.heap.size + 1 + 1 ∨ b = w.heap.size + 1 + 1 + 1) Wa v' (.inl rfl)).trans (But.setCell (O := fun b => b = w.heap.size + 1 + 1 ∨ b = w.heap.size + 1 + 1 + 1) _ _ (.inr rfl))
  have hva' : ((Wa.setCell ⟨w.heap.size + 1 + 1, 0, none⟩ v').setCell ⟨w.heap.size + 1 + 1 + 1, 0, none⟩ (.int .u8 M)).heap[w.heap.size + 1 + 1]? = some (.cells #[v'] 91 (0, 0)) := by
    refine (Below.heap_setCell _ _ _ _ (by simp only; omega)).trans ?_
    rw [heap_setCell_box, hva]
    rfl
  refine ⟨(hks.trans (KeepsOthers.setCell _ _ _)).trans (KeepsOthers.setCell _ _ _), ⟨?_, ?_⟩, ?_⟩
  · exact (hb.kpO.mono fun b h => .inr ⟨v, hv, h⟩).trans (hset.kpO.mono fun b h => .inl h)
  · rintro b ⟨u, hu, hub⟩
    rw [hva'] at hu
    cases hu
    rcases hown with q | q
    · exact .inl ⟨v, hv, by rw [← q]; exact hub⟩
    · rw [q] at hub
      cases hub
      exact .inr hk
  · refine ⟨?_, ⟨v', hva', ?_⟩, ?_, ?_, ?_, Nat.le_trans hI.low (Nat.le_trans hb.size hset.size)⟩
    · have h1 := But.ext hI.ext hb (fun b h => by have := (hlt b h).1; omega)
      exact But.ext h1 hset (fun b h => by omega)
    · rw [List.map_append, List.map_cons, List.map_nil, camelRows_append]
      exact ho'.butF (hset.f 0) (fun b h => by have := (ho'.lt b h).1; omega)
    · rw [heap_setCell_box, (Below.heap_setCell _ _ _ _ (by simp only; omega)).trans hfa, hM]
      rfl
    · exact hset.block _ _ (hb.block _ _ hI.at' (hn _ (by omega))) (by omega)
    · exact hset.block _ _ (hb.block _ _ hI.er (hn _ (by omega))) (by omega)
def daysTm (b c s : Value) (q : Nat) (g pr p11 f bv fv : Value) : Array Value :=
  #[b, c, s, .pointer (some ⟨q, 0, none⟩), .pointer (some ⟨q + 1, 0, none⟩), undef, .pointer (some ⟨q + 1 + 1, 0, none⟩), .pointer (some ⟨q + 1 + 1 + 1, 0, none⟩), .pointer (some ⟨q + 1 + 1 + 1 + 1, 0, none⟩), .pointer (some ⟨q + 1 + 1 + 1 + 1 + 1, 0, none⟩), .int .i64 0, p11, f, b, c, s, .int .i64 0, .int .i64 0, .bool false, undef, b, c, g, s, pr, bv, fv,
    undef, undef, undef, undef, undef, undef, undef, undef, undef, undef, undef, undef, undef, undef, undef]
/-- the theorem of Unl, in a round -/
theorem wpIn_region_E {P : Program} {E : Nat → World → World → Prop} {Q : Exit → Act → World → Prop} {l id : Nat} {l0 : List Oper} {a : Act} {w : World} (hm : P.follows .mixedOrders = true) (hd : l0.toArray.all noDefer = true) (h : Closed l0.toArray (Array.replicate l0.toArray.size false) → wpAnyE P l0.toArray (normalOnly Q) E l0.toArray.size (Array.replicate l0.toArray.size false) a w.drew) : (Code.region id l0.toArray true).wpIn (Fence.wide.inRound l) 0 P Q a w := by
  have key := wpAny_of_E _ _ _ _ (h (closed_none _ _))
  have key2 := wpAnyIn_of_wpAny (l := l) hd (fun ⟨_, _, e⟩ => e) _ _ _ _ key
  exact wpIn_mono (wpIn_region_any (Q := normalOnly Q) hm key2) fun e a w hq => by cases e <;> first | exact hq | exact hq.elim
/-- what the operations of region 9 keep -/
def E9 (ob : Option Nat) (p6 k : Nat) (w w' : World) : Prop := k ≠ 9 → But (fun b => ob = some b ∨ (b = p6 ∧ k = 8)) w w'
theorem E9.read (ob : Option Nat) (p6 k : Nat) (w : World) : E9 ob p6 k w w := fun _ => But.refl _ _
theorem E9.keepA {ob : Option Nat} {p6 k : Nat} {w0 w w' : World} (hk : ([0, 1, 2, 3, 4, 5, 6, 7, 8] : List Nat).contains k = true ∨ 10 ≤ k) (hS : But (fun b => ob = some b ∨ b = p6) w0 w) (h : E9 ob p6 k w w') : But (fun b => ob = some b ∨ b = p6) w0 w' :=
  hS.trans ((h (by rintro rfl; rcases hk with h | h <;> simp at h)).mono fun b hb => hb.imp id And.left)
theorem E9.keepB {ob : Option Nat} {p6 k : Nat} {w0 w w' : World} (hk : ([0, 1, 2, 3, 5, 6, 7] : List Nat).contains k = true ∨ 10 ≤ k) (hS : But (fun b => ob = some b) w0 w) (h : E9 ob p6 k w w') : But (fun b => ob = some b) w0 w' :=
  hS.trans ((h (by rintro rfl; rcases hk with h | h <;> simp at h)).mono fun b hb => hb.elim id fun q => by obtain ⟨_, rfl⟩ := q; rcases hk with h | h <;> simp at h)
def E10 (p6 k : Nat) (w w' : World) : Prop := (k = 3 ∨ k = 4 ∨ k = 5) ∨ But (fun b => b = p6 ∧ k = 2) w w'
theorem E10.read (p6 k : Nat) (w : World) : E10 p6 k w w := .inr (But.refl _ _)
theorem E10.keepA {p6 k : Nat} {w0 w w' : World} (hk : ([0, 1] : List Nat).contains k = true ∨ 6 ≤ k) (hS : But (fun _ => False) w0 w) (h : E10 p6 k w w') : But (fun _ => False) w0 w' := by
  have hk' : k = 0 ∨ k = 1 ∨ 6 ≤ k := by
    rcases hk with h | h
    · simp at h; omega
    · omega
  rcases h with h | h
  · omega
  · exact hS.trans (h.mono fun b hb => by omega)
theorem E10.keepB {p6 k : Nat} {w0 w w' : World} (hk : ([0, 1, 2] : List Nat).contains k = true ∨ 6 ≤ k) (hS : But (fun b => b = p6) w0 w) (h : E10 p6 k w w') : But (fun b => b = p6) w0 w' := by
  have hk' : k = 0 ∨ k = 1 ∨ k = 2 ∨ 6 ≤ k := by
    rcases hk with h | h
    · simp at h; omega
    · omega
  rcases h with h | h
  · omega
  · exact hS.trans (h.mono fun b hb => hb.1)
theorem camel_src (W : World) (c : Camel) : SlAt (W.alloc (.cells c.cells.toArray 27)) 7 (some ⟨W.heap.size, 0, none⟩) 1 (fun k => (camelRows [c]).getD k []) :=
  slAt_one (fun j v hv => by
    rw [cell_of_row _ _ _ _ 27 (0, 0) (heap_alloc_new W _), Nat.zero_add, List.getElem?_toArray]
    exact hv)
theorem Owns.lower {B B' : Nat} {e : TypeId} {sz : Nat} {v : Value} {rows : List (List Value)} {A : World} (h : Owns A B e sz v rows) (hB : B' ≤ B) : Owns A B' e sz v rows := by
  refine ⟨⟨h.1.1, ?_⟩, h.2⟩
  rcases h.1.2 with q | ⟨g, cap, cur, e1, e2, e3⟩
  · exact .inl q
  · exact .inr ⟨g, cap, cur, e1, Nat.le_trans hB e2, e3⟩
/-- the four results' boxes at the end -/
structure DEnd (w : World) (D B0 : Nat) (v : Value) (rows : List (List Value)) (x6 x7 x8 x9 : Value) (V : World) : Prop where
  v6 : V.heap[w.heap.size + 1 + 1]? = some (.cells #[x6] 91 (0, 0))
  v7 : V.heap[w.heap.size + 1 + 1 + 1]? = some (.cells #[x7] 5 (0, 0))
  v8 : V.heap[w.heap.size + 1 + 1 + 1 + 1]? = some (.cells #[x8] 3 (0, 0))
  v9 : V.heap[w.heap.size + 1 + 1 + 1 + 1 + 1]? = some (.cells #[x9] 35 (0, 0))
  own : Owns V B0 27 7 v rows
  ext : Ext w V
  kd : V.heap[D]? = some (.deferred (some []))
  low : w.heap.size + 1 + 1 + 1 + 1 + 1 < B0
theorem DEnd.set6 {w : World} {D B0 : Nat} {v : Value} {rows : List (List Value)} {x6 x7 x8 x9 : Value} {V : World} (h : DEnd w D B0 v rows x6 x7 x8 x9 V) (y : Value) : DEnd w D B0 v rows y x7 x8 x9 (V.setCell ⟨w.heap.size + 1 + 1, 0, none⟩ y) := by
  have hb := But.setCell (O := fun b => b = w.heap.size + 1 + 1) V (i := 0) y rfl
  have hl := h.low
  exact ⟨by rw [heap_setCell_box, h.v6]; rfl, hb.block _ _ h.v7 (by omega), hb.block _ _ h.v8 (by omega), hb.block _ _ h.v9 (by omega), h.own.butF (hb.f 0) (fun b q => by have := (h.own.lt b q).1; omega), But.ext h.ext hb (fun b q => by omega), (KeepsOthers.setCell V _ _).same D _ h.kd rfl, hl⟩
theorem DEnd.set7 {w : World} {D B0 : Nat} {v : Value} {rows : List (List Value)} {x6 x7 x8 x9 : Value} {V : World} (h : DEnd w D B0 v rows x6 x7 x8 x9 V) (y : Value) : DEnd w D B0 v rows x6 y x8 x9 (V.setCell ⟨w.heap.size + 1 + 1 + 1, 0, none⟩ y) := by
  have hb := But.setCell (O := fun b => b = w.heap.size + 1 + 1 + 1) V (i := 0) y rfl
  have hl := h.low
  exact ⟨hb.block _ _ h.v6 (by omega), by rw [heap_setCell_box, h.v7]; rfl, hb.block _ _ h.v8 (by omega), hb.block _ _ h.v9 (by omega), h.own.butF (hb.f 0) (fun b q => by have := (h.own.lt b q).1; omega), But.ext h.ext hb (fun b q => by omega), (KeepsOthers.setCell V _ _).same D _ h.kd rfl, hl⟩
theorem DEnd.set8 {w : World} {D B0 : Nat} {v : Value} {rows : List (List Value)} {x6 x7 x8 x9 : Value} {V : World} (h : DEnd w D B0 v rows x6 x7 x8 x9 V) (y : Value) : DEnd w D B0 v rows x6 x7 y x9 (V.setCell ⟨w.heap.size + 1 + 1 + 1 + 1, 0, none⟩ y) := by
  have hb := But.setCell (O := fun b => b = w.heap.size + 1 + 1 + 1 + 1) V (i := 0) y rfl
  have hl := h.low
  exact ⟨hb.block _ _ h.v6 (by omega), hb.block _ _ h.v7 (by omega), by rw [heap_setCell_box, h.v8]; rfl, hb.block _ _ h.v9 (by omega), h.own.butF (hb.f 0) (fun b q => by have := (h.own.lt b q).1; omega), But.ext h.ext hb (fun b q => by omega), (KeepsOthers.setCell V _ _).same D _ h.kd rfl, hl⟩
theorem DEnd.set9 {w : World} {D B0 : Nat} {v : Value} {rows : List (List Value)} {x6 x7 x8 x9 : Value} {V : World} (h : DEnd w D B0 v rows x6 x7 x8 x9 V) (y : Value) : DEnd w D B0 v rows x6 x7 x8 y (V.setCell ⟨w.heap.size + 1 + 1 + 1 + 1 + 1, 0, none⟩ y) := by
  have hb := But.setCell (O := fun b => b = w.heap.size + 1 + 1 + 1 + 1 + 1) V (i := 0) y rfl
  have hl := h.low
  exact ⟨hb.block _ _ h.v6 (by omega), hb.block _ _ h.v7 (by omega), hb.block _ _ h.v8 (by omega), by rw [heap_setCell_box, h.v9]; rfl, h.own.butF (hb.f 0) (fun b q => by have := (h.own.lt b q).1; omega), But.ext h.ext hb (fun b q => by omega), (KeepsOthers.setCell V _ _).same D _ h.kd rfl, hl⟩
end Go.Proofs.YtcoelhpmkhimpaaGreatDoor

namespace Go.Proofs.YtcoelhpmkhimpaaGreatDoor
open Go.RowKit
set_option linter.unusedVariables false
set_option linter.unusedSimpArgs false
set_option maxHeartbeats 8000000 in
set_option maxRecDepth 100000 in
theorem rcamel_any (s : Breed) (c : Camel) (w : World) : Calls Tryz.prog 50 #[s.val, c.val] w fun e w' => e = .returned (.bool (camelOk s c)) ∧ Ext w w' := by
  obtain ⟨fu, fe, ⟨r0, r1⟩, ⟨h0, h1⟩, ⟨t0, t1⟩, ⟨b0, b1⟩, ⟨u0, u1⟩, ⟨m0, m1⟩, hl, ⟨s0, s1⟩⟩ := s
  obtain ⟨⟨w0, w1⟩, ⟨k0, k1⟩, ⟨o0, o1⟩, mk⟩ := c
  obtain ⟨P1, e1⟩ : ∃ P, spanOk ⟨w0, w1⟩ 0 fu = P := ⟨_, rfl⟩
  obtain ⟨P2, e2⟩ : ∃ P, spanOk ⟨k0, k1⟩ 0 fe = P := ⟨_, rfl⟩
  obtain ⟨P3, e3⟩ : ∃ P, spanOk ⟨o0, o1⟩ 0 1000 = P := ⟨_, rfl⟩
  have hv : camelOk ⟨fu, fe, ⟨r0, r1⟩, ⟨h0, h1⟩, ⟨t0, t1⟩, ⟨b0, b1⟩, ⟨u0, u1⟩, ⟨m0, m1⟩, hl, ⟨s0, s1⟩⟩ ⟨⟨w0, w1⟩, ⟨k0, k1⟩, ⟨o0, o1⟩, mk⟩ = (P1 && P2 && P3) := by
    unfold camelOk
    simp only
    rw [e1, e2, e3]
  rw [hv]
  clear hv
  unfold Breed.val Camel.val
  simp only
  obtain ⟨W0, hW0⟩ : ∃ W0, (w.alloc (.cells #[.int .i64 fu, .int .i64 fe, .int .i64 r0, .int .i64 r1, .int .i64 h0, .int .i64 h1, .int .i64 t0, .int .i64 t1, .int .i64 b0, .int .i64 b1, .int .i64 u0, .int .i64 u1, .int .i64 m0, .int .i64 m1, .int .i64 hl, .int .i64 s0, .int .i64 s1] 25)).alloc (.cells #[.int .i64 w0, .int .i64 w1, .int .i64 k0, .int .i64 k1, .int .i64 o0, .int .i64 o1, .bool mk] 27) = W0 := ⟨_, rfl⟩
  have hxa : Ext w W0 := by rw [← hW0]; exact ((Ext.refl w).alloc _).alloc _
  have hbx : W0.heap[w.heap.size]? = some (.cells #[.int .i64 fu, .int .i64 fe, .int .i64 r0, .int .i64 r1, .int .i64 h0, .int .i64 h1, .int .i64 t0, .int .i64 t1, .int .i64 b0, .int .i64 b1, .int .i64 u0, .int .i64 u1, .int .i64 m0, .int .i64 m1, .int .i64 hl, .int .i64 s0, .int .i64 s1] 25 (0, 0)) := by rw [← hW0]; exact alloc_heap (heap_alloc_new w _) _
  have hcx : W0.heap[w.heap.size + 1]? = some (.cells #[.int .i64 w0, .int .i64 w1, .int .i64 k0, .int .i64 k1, .int .i64 o0, .int .i64 o1, .bool mk] 27 (0, 0)) := by rw [← hW0]; exact alloc_at _ _ _ (by simp)
  obtain ⟨f0, _⟩ := (Ext.refl _).box hbx
  obtain ⟨g0, _⟩ := (Ext.refl _).box hcx
  have E1 := Lib.hid e1
  have E2 := Lib.hid e2
  have E3 := Lib.hid e3
  clear e1 e2 e3
  cases P1
  rotate_left
  cases P2
  rotate_left
  cases P3
  all_goals
    go_enter Tryz.func50, Tryz.ntmps50
    go_wp2_with (go_at_call 83; refine (spanned_any _ _ _ _ _ (by first | exact E1.out | exact E2.out | exact E3.out) _).mono ?_; rintro e w1 ⟨rfl, hx1⟩; replace hbx := hx1.heap hbx; replace hcx := hx1.heap hcx; replace hxa := hxa.trans hx1; clear hx1 f0 g0; obtain ⟨f0, _⟩ := (Ext.refl _).box hbx; obtain ⟨g0, _⟩ := (Ext.refl _).box hcx)
    go_ret
    exact ⟨rfl, hxa⟩
set_option maxHeartbeats 8000000 in
set_option maxRecDepth 100000 in
theorem rcheckCamel_any (s : Breed) (c : Camel) (w : World) : Calls Tryz.prog 16 #[s.val, c.val] w fun e w' => e = .returned (.int .i64 (camelErr s c)) ∧ Ext w w' := by
  have hb := fun W => rbreed_any s W
  have hc := fun W => rcamel_any s c W
  have hv : camelErr s c = if breedOk s then (if camelOk s c then 0 else 11) else 10 := rfl
  obtain ⟨B, hB⟩ : ∃ B, breedOk s = B := ⟨_, rfl⟩
  obtain ⟨C, hC⟩ : ∃ C, camelOk s c = C := ⟨_, rfl⟩
  rw [hB] at hb hv
  rw [hC] at hc hv
  rw [hv]
  clear hv hB hC
  obtain ⟨fu, fe, ⟨r0, r1⟩, ⟨h0, h1⟩, ⟨t0, t1⟩, ⟨b0, b1⟩, ⟨u0, u1⟩, ⟨m0, m1⟩, hl, ⟨s0, s1⟩⟩ := s
  obtain ⟨⟨w0, w1⟩, ⟨k0, k1⟩, ⟨o0, o1⟩, mk⟩ := c
  unfold Breed.val Camel.val at *
  simp only at *
  obtain ⟨W0, hW0⟩ : ∃ W0, (w.alloc (.cells #[.int .i64 fu, .int .i64 fe, .int .i64 r0, .int .i64 r1, .int .i64 h0, .int .i64 h1, .int .i64 t0, .int .i64 t1, .int .i64 b0, .int .i64 b1, .int .i64 u0, .int .i64 u1, .int .i64 m0, .int .i64 m1, .int .i64 hl, .int .i64 s0, .int .i64 s1] 25)).alloc (.cells #[.int .i64 w0, .int .i64 w1, .int .i64 k0, .int .i64 k1, .int .i64 o0, .int .i64 o1, .bool mk] 27) = W0 := ⟨_, rfl⟩
  have hxa : Ext w W0 := by rw [← hW0]; exact ((Ext.refl w).alloc _).alloc _
  have hbx : W0.heap[w.heap.size]? = some (.cells #[.int .i64 fu, .int .i64 fe, .int .i64 r0, .int .i64 r1, .int .i64 h0, .int .i64 h1, .int .i64 t0, .int .i64 t1, .int .i64 b0, .int .i64 b1, .int .i64 u0, .int .i64 u1, .int .i64 m0, .int .i64 m1, .int .i64 hl, .int .i64 s0, .int .i64 s1] 25 (0, 0)) := by rw [← hW0]; exact alloc_heap (heap_alloc_new w _) _
  have hcx : W0.heap[w.heap.size + 1]? = some (.cells #[.int .i64 w0, .int .i64 w1, .int .i64 k0, .int .i64 k1, .int .i64 o0, .int .i64 o1, .bool mk] 27 (0, 0)) := by rw [← hW0]; exact alloc_at _ _ _ (by simp)
  have Hb := Lib.hid hb
  have Hc := Lib.hid hc
  have Hxa := Lib.hid hxa
  have Hbx := Lib.hid hbx
  have Hcx := Lib.hid hcx
  clear hb hc hxa hbx hcx
  cases B
  rotate_left
  cases C
  all_goals
    go_enter Tryz.func16, Tryz.ntmps16
    go_wp2_with (first | (refine wpList_load_row rfl 25 (.tmp 2) rfl w.heap.size rfl 25 _ (0, 0) _ (by first | exact Hbx.out | exact hbx1) Tryz.underlying25 rfl (by kernel_rfl) ?_) | (refine wpList_load_row rfl 27 (.tmp 3) rfl (w.heap.size + 1) rfl 27 _ (0, 0) _ (by first | exact Hcx.out | exact hcx1) Tryz.underlying27 rfl (by kernel_rfl) ?_) | (go_at_call 49; refine (Hb.out _).mono ?_; rintro e w1 ⟨rfl, hx1⟩; have hbx1 := hx1.heap Hbx.out; have hcx1 := hx1.heap Hcx.out; have hxa1 := Hxa.out.trans hx1) | (go_at_call 50; refine (Hc.out _).mono ?_; rintro e w2 ⟨rfl, hx2⟩; replace hxa1 := hxa1.trans hx2))
    go_ret
    exact ⟨rfl, hxa1⟩
def greatB (l : Land) : Bool := decide (20 < l.wells.length) || decide (40 < l.legs.length) || l.legs.any fun x => decide (20 < x.gates.length)
theorem great_small {l : Land} (h : greatB l = false) : l.wells.length ≤ 20 ∧ l.legs.length ≤ 40 := by
  simp only [greatB, Bool.or_eq_false_iff, decide_eq_false_iff_not] at h
  omega
end Go.Proofs.YtcoelhpmkhimpaaGreatDoor

namespace Go.Proofs.YtcoelhpmkhimpaaGreatDoor
open Go.RowKit
set_option linter.unusedVariables false
set_option linter.unusedSimpArgs false
theorem flat_get {sz : Nat} : ∀ (rows : List (List Value)), (∀ r ∈ rows, r.length = sz) → ∀ (k j : Nat), j < sz → rows.flatten[k * sz + j]? = (rows[k]?.bind fun r => r[j]?)
  | [], _, k, j, _ => by simp
  | r :: rows, h, 0, j, hj => by
    have hr := h r (List.mem_cons_self ..)
    simp only [List.flatten_cons, Nat.zero_mul, Nat.zero_add, List.getElem?_cons_zero, Option.bind_some]
    rw [List.getElem?_append_left (by omega)]
  | r :: rows, h, k + 1, j, hj => by
    have hr := h r (List.mem_cons_self ..)
    have ih := flat_get rows (fun r hr => h r (List.mem_cons_of_mem _ hr)) k j hj
    simp only [List.flatten_cons, List.getElem?_cons_succ]
    rw [List.getElem?_append_right (by rw [hr, Nat.succ_mul]; omega), hr, show (k + 1) * sz + j - sz = k * sz + j by rw [Nat.succ_mul]; omega]
    exact ih
theorem slAt_block {w : World} {b : Nat} {t : TypeId} {sz : Nat} {rows : List (List Value)} (hb : w.heap[b]? = some (.cells rows.flatten.toArray t (0, 0))) (hr : ∀ r ∈ rows, r.length = sz) : SlAt w sz (some ⟨b, 0, none⟩) rows.length (fun i => rows.getD i []) := by
  intro _
  refine ⟨b, 0, rfl, fun k hk j v hv => ?_⟩
  have hrow : (rows.getD k []).length = sz := by
    simp only [List.getD, List.getElem?_eq_getElem hk, Option.getD_some]
    exact hr _ (List.getElem_mem hk)
  have hj : j < sz := by
    rw [← hrow]
    exact (List.getElem?_eq_some_iff.1 hv).1
  rw [((Ext.refl w).box hb).1, Nat.zero_add, List.getElem?_toArray, flat_get rows hr k j hj]
  simp only [List.getD, List.getElem?_eq_getElem hk, Option.getD_some, Option.bind_some] at hv ⊢
  exact hv
theorem results_cell_cell {P : Program} {fn : Func} {p q : Tmp} {ty ty' : TypeId} (h : fn.results = #[.cell p ty, .cell q ty']) (tmps : Array Value) (w : World) (g g' : Nat) (T T' : TypeId) (cs cs' : Array Value) (fr fr' : Nat × Nat) (d d' : TypeDesc)
    (hp : tmps.getD p undef = .pointer (some ⟨g, 0, none⟩)) (hg : w.heap[g]? = some (.cells cs T fr))
    (hu : P.underlying ty = some d) (hd : (match d with | .struct _ | .array _ _ => true | _ => false) = true) (hi : (P.info? ty).map (·.size) = some cs.size)
    (hp' : tmps.getD q undef = .pointer (some ⟨g', 0, none⟩)) (hg' : w.heap[g']? = some (.cells cs' T' fr'))
    (hu' : P.underlying ty' = some d') (hd' : (match d' with | .struct _ | .array _ _ => true | _ => false) = true) (hi' : (P.info? ty').map (·.size) = some cs'.size) :
    (results fn tmps).run P w = .ok (.tuple #[.agg cs, .agg cs']) w := by
  have h1 : tmps[p]?.getD undef = .pointer (some ⟨g, 0, none⟩) := by simpa using hp
  have h2 : tmps[q]?.getD undef = .pointer (some ⟨g', 0, none⟩) := by simpa using hp'
  simp [results, h, h1, h2, asAddr, run_loadVar_row w g T ty cs fr d hg hu hd hi, run_loadVar_row w g' T' ty' cs' fr' d' hg' hu' hd' hi']
def exBreed : Breed := ⟨100, 10, ⟨10, 10⟩, ⟨0, 0⟩, ⟨0, 0⟩, ⟨0, 0⟩, ⟨0, 0⟩, ⟨0, 0⟩, 0, ⟨50, 50⟩⟩
def exCamel : Camel := ⟨⟨100, 100⟩, ⟨10, 10⟩, ⟨0, 0⟩, false⟩
def exHour : March := ⟨1, 0, ⟨0, 0⟩, ⟨0, 0⟩, ⟨0, 0⟩⟩
def exLand : Land := ⟨[zw, ⟨30, 0, 0, ⟨5, 5⟩, 100, ⟨0, 0⟩, 0⟩], [⟨0, 1, ⟨20, 30⟩, [⟨⟨0, 0⟩, ⟨99, 99⟩⟩]⟩]⟩
theorem exA_days : wdaysErr exLand 0 ⟨10, 10⟩ = 0 ∧ wdaysVal exLand 0 ⟨10, 10⟩ = ⟨2, 3⟩ := by decide +kernel
theorem exA_lasts : lastsVal exBreed exCamel exHour = (⟨10, 10⟩, 0) := by decide +kernel
theorem exA_ask : askDays exBreed exCamel (List.replicate 3 zday) = 0 := by decide +kernel
def exAfter (k : Int) : Camel := ⟨⟨100 - 10 * k, 100 - 10 * k⟩, ⟨10, 10⟩, ⟨0, 0⟩, false⟩
theorem exA_lives : daysOf exBreed exCamel (List.replicate 3 zday) = some ([exAfter 1, exAfter 2, exAfter 3], 0) := by decide +kernel
def wellRows (l : List Well) : List (List Value) := l.map Well.cells
theorem wells_block {W : World} {b : Nat} {t : TypeId} {n : Nat} (l : List Well) (hn : l.length = n) (hb : W.heap[b]? = some (.cells (wellRows l).flatten.toArray t (0, 0))) : WellsAt W (some ⟨b, 0, none⟩) n l := by
  subst hn
  have h := slAt_block (rows := wellRows l) (sz := 9) hb (fun r hr => by obtain ⟨s, _, rfl⟩ := List.mem_map.1 hr; rfl)
  rw [show (wellRows l).length = l.length by simp [wellRows]] at h
  exact ⟨rfl, h.congr fun i hi => by simp [wellRows, List.getD, List.getElem?_map, List.getElem?_eq_getElem hi]⟩
def gateRows (l : List Gate) : List (List Value) := l.map Gate.cells
theorem gates_block {W : World} {b : Nat} {t : TypeId} {n : Nat} (l : List Gate) (hn : l.length = n) (hb : W.heap[b]? = some (.cells (gateRows l).flatten.toArray t (0, 0))) : GatesAt W (some ⟨b, 0, none⟩) n l := by
  subst hn
  have h := slAt_block (rows := gateRows l) (sz := 4) hb (fun r hr => by obtain ⟨s, _, rfl⟩ := List.mem_map.1 hr; rfl)
  rw [show (gateRows l).length = l.length by simp [gateRows]] at h
  exact ⟨rfl, h.congr fun i hi => by simp [gateRows, List.getD, List.getElem?_map, List.getElem?_eq_getElem hi]⟩
theorem legs_one {W : World} {b gb : Nat} {t : TypeId} {f : Leg} {n : Nat} (hb : W.heap[b]? = some (.cells #[.int .i64 f.frm, .int .i64 f.to, .int .i64 f.long.lo, .int .i64 f.long.hi, .slice (some ⟨gb, 0, none⟩) n n] t (0, 0))) (hg : GatesAt W (some ⟨gb, 0, none⟩) n f.gates) (hn : n ≤ maxLen) : LegsAt W (some ⟨b, 0, none⟩) 1 [f] := by
  refine ⟨rfl, fun _ => ⟨b, 0, rfl, fun k x hx => ?_⟩⟩
  obtain rfl : k = 0 := by have := (List.getElem?_eq_some_iff.1 hx).1; simp at this; omega
  obtain rfl : f = x := by simpa using hx
  refine ⟨some ⟨gb, 0, none⟩, n, n, fun j v hv => ?_, Nat.le_refl _, hn, hg⟩
  rw [((Ext.refl W).box hb).1]
  simpa using hv
def PathPost (w : World) (e : Ending) (w' : World) : Prop := ∃ wb lb, e = .returned (.agg #[.slice (some ⟨wb, 0, none⟩) 2 2, .slice (some ⟨lb, 0, none⟩) 1 1]) ∧ LandAt w' (some ⟨wb, 0, none⟩) 2 2 (some ⟨lb, 0, none⟩) 1 1 exLand ∧ lb < w'.heap.size ∧ Ext w w'
def oDays3 : Obj := .cells (dayRows (List.replicate 3 zday)).flatten.toArray 54
theorem mk48c : ∀ w, (Instr.makeSlice 55 (.int .i64 3) (.int .i64 3)).run Tryz.prog w = .ok (.slice (some ⟨w.heap.size, 0, none⟩) 3 3) (w.alloc oDays3) := fun _ => by kernel_rfl
theorem days_block {W : World} {b : Nat} {t : TypeId} {n : Nat} (l : List March) (hn : l.length = n) (hb : W.heap[b]? = some (.cells (dayRows l).flatten.toArray t (0, 0))) : DaysAt W (some ⟨b, 0, none⟩) n l := by
  subst hn
  have h := slAt_block (rows := dayRows l) (sz := 8) hb (fun r hr => by obtain ⟨s, _, rfl⟩ := List.mem_map.1 hr; rfl)
  rw [show (dayRows l).length = l.length by simp [dayRows]] at h
  exact ⟨rfl, h.congr fun i hi => by simp [dayRows, List.getD, List.getElem?_map, List.getElem?_eq_getElem hi]⟩
theorem zDays3_at (w : World) : DaysAt (w.alloc oDays3) (some ⟨w.heap.size, 0, none⟩) 3 (List.replicate 3 zday) := days_block _ (by simp) (heap_alloc_new w oDays3)
end Go.Proofs.YtcoelhpmkhimpaaGreatDoor

namespace Go.Proofs.YtcoelhpmkhimpaaGreatDoor
open Go.RowKit
set_option linter.unusedVariables false
set_option linter.unusedSimpArgs false
set_option maxRecDepth 100000 in
set_option maxHeartbeats 8000000 in
theorem after_any (s : Breed) (c : Camel) (m : March) (w : World) (hb : breedOk s = true) (hc : camelOk s c = true) (hm : dayOk m = true) (hd : diesB s c m = false) :
    Calls Tryz.prog 45 #[s.val, c.val, m.val] w fun e w' => e = .returned (.tuple #[(nextOf s c m).val, .int .u8 (if safeB s c m then 0 else 1), .int .i64 0]) ∧ Ext w w' := by
  have hcc := fun W => checkCamel_any s c W
  have hce : camelErr s c = 0 := by unfold camelErr; rw [hb, hc]; rfl
  simp only [hce] at hcc
  have hcd := fun (W : World) (b : Nat) (h : W.heap[b]? = some (.cells m.cells.toArray 54 (0, 0))) => checkDays_any (some ⟨b, 0, none⟩) 1 1 [m] W (days_built (m := m) (n := 1) (by simpa [repCells] using h)) (by omega)
  have hde : daysErr [m] = 0 := by unfold daysErr; simp [hm]
  simp only [hde] at hcd
  have hdy := fun W => day_any s c m W (breedIs hb) (camelIs.1 hc) (dayIs hm)
  have hst := dayVal_step s c m
  have hse : stepOf s c m = ⟨s, nextOf s c m, if safeB s c m then 0 else 1⟩ := by unfold stepOf; rw [hd]; rfl
  rw [hse] at hst
  simp only at hst
  simp only [hst.1, hst.2] at hdy
  obtain ⟨F, hF, hF2⟩ : ∃ F : Int, (if safeB s c m then 0 else 1) = F ∧ (F == 2) = false := ⟨_, rfl, by split <;> rfl⟩
  rw [hF] at hdy ⊢
  obtain ⟨X, hX⟩ : ∃ X, nextOf s c m = X := ⟨_, rfl⟩
  rw [hX] at hdy ⊢
  clear hX hF hst hse hde hce hd hb hc hm
  simp only [beastVal_eq] at hdy
  unfold bCells at hdy
  obtain ⟨⟨n0, n1⟩, ⟨n2, n3⟩, ⟨n4, n5⟩, n6⟩ := X
  obtain ⟨fu, fe, ⟨r0, r1⟩, ⟨h0, h1⟩, ⟨t0, t1⟩, ⟨b0, b1⟩, ⟨u0, u1⟩, ⟨m0, m1⟩, hz, ⟨s0, s1⟩⟩ := s
  obtain ⟨⟨w0, w1⟩, ⟨k0, k1⟩, ⟨o0, o1⟩, mk⟩ := c
  obtain ⟨hh, ld, ⟨e0, e1⟩, ⟨g0, g1⟩, ⟨d0, d1⟩⟩ := m
  unfold Breed.val Camel.val at hcc
  unfold Breed.val Camel.val March.val
  unfold March.val at hdy
  unfold March.cells at hcd
  simp only at hcc hdy hcd ⊢
  obtain ⟨W0, hW0⟩ : ∃ W0, (((w.alloc (.cells #[.int .i64 fu, .int .i64 fe, .int .i64 r0, .int .i64 r1, .int .i64 h0, .int .i64 h1, .int .i64 t0, .int .i64 t1, .int .i64 b0, .int .i64 b1, .int .i64 u0, .int .i64 u1, .int .i64 m0, .int .i64 m1, .int .i64 hz, .int .i64 s0, .int .i64 s1] 25)).alloc (.cells #[.int .i64 w0, .int .i64 w1, .int .i64 k0, .int .i64 k1, .int .i64 o0, .int .i64 o1, .bool mk] 27)).alloc (.cells #[.int .i64 hh, .int .i64 ld, .int .i64 e0, .int .i64 e1, .int .i64 g0, .int .i64 g1, .int .i64 d0, .int .i64 d1] 54)).alloc (.cells #[.int .i64 0, .int .i64 0, .int .i64 0, .int .i64 0, .int .i64 0, .int .i64 0, .bool false] 27) = W0 := ⟨_, rfl⟩
  have hx0 : Ext w W0 := by rw [← hW0]; exact ((((Ext.refl w).alloc _).alloc _).alloc _).alloc _
  have hb0 : W0.heap[w.heap.size]? = some (.cells #[.int .i64 fu, .int .i64 fe, .int .i64 r0, .int .i64 r1, .int .i64 h0, .int .i64 h1, .int .i64 t0, .int .i64 t1, .int .i64 b0, .int .i64 b1, .int .i64 u0, .int .i64 u1, .int .i64 m0, .int .i64 m1, .int .i64 hz, .int .i64 s0, .int .i64 s1] 25 (0, 0)) := by rw [← hW0]; exact alloc_heap (alloc_heap (alloc_heap (heap_alloc_new w _) _) _) _
  have hc0 : W0.heap[w.heap.size + 1]? = some (.cells #[.int .i64 w0, .int .i64 w1, .int .i64 k0, .int .i64 k1, .int .i64 o0, .int .i64 o1, .bool mk] 27 (0, 0)) := by rw [← hW0]; exact alloc_heap (alloc_heap (alloc_at _ _ _ (by simp)) _) _
  have hm0 : W0.heap[w.heap.size + 1 + 1]? = some (.cells #[.int .i64 hh, .int .i64 ld, .int .i64 e0, .int .i64 e1, .int .i64 g0, .int .i64 g1, .int .i64 d0, .int .i64 d1] 54 (0, 0)) := by rw [← hW0]; exact alloc_heap (alloc_at _ _ _ (by simp)) _
  have hr0 : W0.heap[w.heap.size + 1 + 1 + 1]? = some (.cells #[.int .i64 0, .int .i64 0, .int .i64 0, .int .i64 0, .int .i64 0, .int .i64 0, .bool false] 27 (0, 0)) := by rw [← hW0]; exact alloc_at _ _ _ (by simp)
  have Hcc := Lib.hid hcc
  have Hdy := Lib.hid hdy
  have Hcd := Lib.hid hcd
  have Hx0 := Lib.hid hx0
  have Hb0 := Lib.hid hb0
  have Hc0 := Lib.hid hc0
  have Hm0 := Lib.hid hm0
  have Hr0 := Lib.hid hr0
  clear hcc hdy hcd hx0 hb0 hc0 hm0 hr0
  go_enter Tryz.func45, Tryz.ntmps45
  go_upto_region 7 with (first
    | (refine wpList_load_row rfl 25 (.tmp 3) rfl w.heap.size rfl 25 _ (0, 0) _ Hb0.out Tryz.underlying25 rfl (by kernel_rfl) ?_)
    | (refine wpList_load_row rfl 27 (.tmp 4) rfl (w.heap.size + 1) rfl 27 _ (0, 0) _ Hc0.out Tryz.underlying27 rfl (by kernel_rfl) ?_)
    | (go_at_call 37; refine (Hcc.out _).mono ?_; rintro e v1 ⟨rfl, hx1⟩; have hm1 := hx1.heap Hm0.out; have Hm1 := Lib.hid hm1; clear hm1)
    | (refine wpList_load_row rfl 54 (.tmp 5) rfl (w.heap.size + 1 + 1) rfl 54 _ (0, 0) _ Hm1.out Tryz.underlying54 rfl (by kernel_rfl) ?_)
    | (go_at_call 71; refine (Hcd.out _ _ (heap_alloc_new v1 _)).mono ?_; rintro e v2 ⟨rfl, hx2⟩))
  have hx02 : Ext W0 v2 := (hx1.alloc _).trans hx2
  have hb2 := hx02.heap Hb0.out
  have hc2 := hx02.heap Hc0.out
  have hm2 := hx02.heap Hm0.out
  have hr2 := hx02.heap Hr0.out
  have hx3 := Hx0.out.trans hx02
  have Hb2 := Lib.hid hb2
  have Hc2 := Lib.hid hc2
  have Hm2 := Lib.hid hm2
  have Hr2 := Lib.hid hr2
  have Hx3 := Lib.hid hx3
  clear hb2 hc2 hm2 hr2 hx3
  clear hx1 hx2 hx02 Hb0 Hc0 Hm0 Hr0 Hx0 Hm1 hW0 Hcc Hcd
  go_wp2_with (first
    | (refine wpList_load_row rfl 25 (.tmp 3) rfl w.heap.size rfl 25 _ (0, 0) _ Hb2.out Tryz.underlying25 rfl (by kernel_rfl) ?_)
    | (refine wpList_load_row rfl 27 (.tmp 4) rfl (w.heap.size + 1) rfl 27 _ (0, 0) _ Hc2.out Tryz.underlying27 rfl (by kernel_rfl) ?_)
    | (refine wpList_load_row rfl 54 (.tmp 5) rfl (w.heap.size + 1 + 1) rfl 54 _ (0, 0) _ Hm2.out Tryz.underlying54 rfl (by kernel_rfl) ?_)
    | (go_at_call 42; refine (Hdy.out _).mono ?_; rintro e v5 ⟨rfl, hx5⟩; have hr5 := hx5.heap Hr2.out; have hx6 := Hx3.out.trans hx5; have hrl5 := heap_lt hr5)
    | (refine wpList_store_row rfl 83 (.tmp 11) (.tmp 32) rfl v5.heap.size #[.int .i64 fu, .int .i64 fe, .int .i64 r0, .int .i64 r1, .int .i64 h0, .int .i64 h1, .int .i64 t0, .int .i64 t1, .int .i64 b0, .int .i64 b1, .int .i64 u0, .int .i64 u1, .int .i64 m0, .int .i64 m1, .int .i64 hz, .int .i64 s0, .int .i64 s1, .int .i64 n0, .int .i64 n1, .int .i64 n2, .int .i64 n3, .int .i64 n4, .int .i64 n5, .bool n6] rfl rfl 83 _ (heap_alloc_new v5 _) (by kernel_rfl) (by kernel_rfl) (by kernel_rfl) ?_; have hr7 := (setRow_other (v5.alloc (.cells #[.int .i64 0, .int .i64 0, .int .i64 0, .int .i64 0, .int .i64 0, .int .i64 0, .int .i64 0, .int .i64 0, .int .i64 0, .int .i64 0, .int .i64 0, .int .i64 0, .int .i64 0, .int .i64 0, .int .i64 0, .int .i64 0, .int .i64 0, .int .i64 0, .int .i64 0, .int .i64 0, .int .i64 0, .int .i64 0, .int .i64 0, .bool false] 83)) v5.heap.size (w.heap.size + 1 + 1 + 1) #[.int .i64 fu, .int .i64 fe, .int .i64 r0, .int .i64 r1, .int .i64 h0, .int .i64 h1, .int .i64 t0, .int .i64 t1, .int .i64 b0, .int .i64 b1, .int .i64 u0, .int .i64 u1, .int .i64 m0, .int .i64 m1, .int .i64 hz, .int .i64 s0, .int .i64 s1, .int .i64 n0, .int .i64 n1, .int .i64 n2, .int .i64 n3, .int .i64 n4, .int .i64 n5, .bool n6] (by omega)).trans (alloc_heap hr5 _); have hp7 := setRow_heap (v5.alloc (.cells #[.int .i64 0, .int .i64 0, .int .i64 0, .int .i64 0, .int .i64 0, .int .i64 0, .int .i64 0, .int .i64 0, .int .i64 0, .int .i64 0, .int .i64 0, .int .i64 0, .int .i64 0, .int .i64 0, .int .i64 0, .int .i64 0, .int .i64 0, .int .i64 0, .int .i64 0, .int .i64 0, .int .i64 0, .int .i64 0, .int .i64 0, .bool false] 83)) v5.heap.size _ #[.int .i64 fu, .int .i64 fe, .int .i64 r0, .int .i64 r1, .int .i64 h0, .int .i64 h1, .int .i64 t0, .int .i64 t1, .int .i64 b0, .int .i64 b1, .int .i64 u0, .int .i64 u1, .int .i64 m0, .int .i64 m1, .int .i64 hz, .int .i64 s0, .int .i64 s1, .int .i64 n0, .int .i64 n1, .int .i64 n2, .int .i64 n3, .int .i64 n4, .int .i64 n5, .bool n6] 83 (0, 0) (heap_alloc_new v5 _); have hx7 := below_setRow (hx6.alloc (.cells #[.int .i64 0, .int .i64 0, .int .i64 0, .int .i64 0, .int .i64 0, .int .i64 0, .int .i64 0, .int .i64 0, .int .i64 0, .int .i64 0, .int .i64 0, .int .i64 0, .int .i64 0, .int .i64 0, .int .i64 0, .int .i64 0, .int .i64 0, .int .i64 0, .int .i64 0, .int .i64 0, .int .i64 0, .int .i64 0, .int .i64 0, .bool false] 83)) hx6.size #[.int .i64 fu, .int .i64 fe, .int .i64 r0, .int .i64 r1, .int .i64 h0, .int .i64 h1, .int .i64 t0, .int .i64 t1, .int .i64 b0, .int .i64 b1, .int .i64 u0, .int .i64 u1, .int .i64 m0, .int .i64 m1, .int .i64 hz, .int .i64 s0, .int .i64 s1, .int .i64 n0, .int .i64 n1, .int .i64 n2, .int .i64 n3, .int .i64 n4, .int .i64 n5, .bool n6])
    | (refine wpList_load_part rfl 27 (.tmp 37) rfl v5.heap.size 17 rfl 83 _ (0, 0) _ hp7 [.int .i64 n0, .int .i64 n1, .int .i64 n2, .int .i64 n3, .int .i64 n4, .int .i64 n5, .bool n6] rfl Tryz.underlying27 rfl (by kernel_rfl) ?_)
    | (refine wpList_store_row rfl 27 (.tmp 6) (.tmp 38) rfl (w.heap.size + 1 + 1 + 1) #[.int .i64 n0, .int .i64 n1, .int .i64 n2, .int .i64 n3, .int .i64 n4, .int .i64 n5, .bool n6] rfl rfl 27 _ hr7 (by kernel_rfl) (by kernel_rfl) (by kernel_rfl) ?_))
  have hr8 := setRow_heap _ (w.heap.size + 1 + 1 + 1) _ #[.int .i64 n0, .int .i64 n1, .int .i64 n2, .int .i64 n3, .int .i64 n4, .int .i64 n5, .bool n6] 27 (0, 0) hr7
  have hx8 := below_setRow hx7 (show w.heap.size ≤ w.heap.size + 1 + 1 + 1 by omega) #[.int .i64 n0, .int .i64 n1, .int .i64 n2, .int .i64 n3, .int .i64 n4, .int .i64 n5, .bool n6]
  refine bodyPost_ret (results_cell_tmp2 (P := Tryz.prog) (fn := Tryz.f45) rfl _ _ (w.heap.size + 1 + 1 + 1) 27 #[.int .i64 n0, .int .i64 n1, .int .i64 n2, .int .i64 n3, .int .i64 n4, .int .i64 n5, .bool n6] (0, 0) _ rfl hr8 Tryz.underlying27 rfl (by kernel_rfl)) rfl ?_
  exact ⟨rfl, hx8⟩
end Go.Proofs.YtcoelhpmkhimpaaGreatDoor

namespace Go.Proofs.YtcoelhpmkhimpaaGreatDoor
open Go.RowKit
set_option linter.unusedVariables false
set_option linter.unusedSimpArgs false
def thirstAdd (s : Breed) (a : Span) (c : Camel) : Span := ⟨a.lo + (s.full - c.water.hi), a.hi + (s.full - c.water.lo)⟩
def thirstOf (s : Breed) : Span → List Camel → Option Span
  | a, [] => some a
  | a, c :: l => if camelOk s c then thirstOf s (thirstAdd s a c) l else none
def thirstVal (s : Breed) (l : List Camel) : Span × Int := if breedErr s ≠ 0 then (⟨0, 0⟩, breedErr s) else if 30 < l.length then (⟨0, 0⟩, 4) else match thirstOf s ⟨0, 0⟩ l with
  | none => (⟨0, 0⟩, 11)
  | some a => (a, 0)
theorem thirst_step {s : Breed} {a : Span} {l : List Camel} {k : Nat} {c : Camel} (h : l[k]? = some c) : thirstOf s a (l.drop k) = if camelOk s c then thirstOf s (thirstAdd s a c) (l.drop (k + 1)) else none := by
  rw [drop_at h]
  rfl
/-- what is known of the sum -/
theorem thirst_is {s : Breed} (hb : BreedOk s) : ∀ {l : List Camel} {a b : Span}, thirstOf s a l = some b → 0 ≤ a.lo → a.lo ≤ a.hi → 0 ≤ b.lo ∧ b.lo ≤ b.hi ∧ b.hi ≤ a.hi + l.length * 1000000
  | [], a, b, h, h0, h1 => by
    cases h
    simp
    omega
  | c :: l, a, b, h, h0, h1 => by
    unfold thirstOf at h
    cases hc : camelOk s c with
    | false => rw [hc] at h; simp at h
    | true =>
      rw [hc, if_pos rfl] at h
      have hw := (camelIs.1 hc).water
      have h2 := hw.low
      have h3 := hw.ord
      have h4 := hw.top
      have h5 := hb.full
      have := thirst_is hb h (by unfold thirstAdd; simp only; omega) (by unfold thirstAdd; simp only; omega)
      unfold thirstAdd at this
      simp only at this
      simp only [List.length_cons]
      omega
def thirstRes (r : Span × Int) : Value := .tuple #[.agg #[.int .i64 r.1.lo, .int .i64 r.1.hi], .int .i64 r.2]
structure ThIn (w : World) (s : Breed) (p7 : Nat) (a : Span) (V : World) : Prop where
  ext : Ext w V
  br : V.heap[w.heap.size]? = some (.cells s.cells.toArray 25 (0, 0))
  rs : V.heap[w.heap.size + 1]? = some (.cells #[.int .i64 0, .int .i64 0] 23 (0, 0))
  su : V.heap[p7]? = some (.cells #[.int .i64 a.lo, .int .i64 a.hi] 23 (0, 0))
  m7 : w.heap.size + 1 < p7
theorem ThIn.next {w : World} {s : Breed} {p7 : Nat} {a : Span} {V V' : World} (k : ThIn w s p7 a V) (hx : Ext V V') : ThIn w s p7 a V' := ⟨k.ext.trans hx, hx.heap k.br, hx.heap k.rs, hx.heap k.su, k.m7⟩
theorem ThIn.put {w : World} {s : Breed} {p7 : Nat} {a : Span} {V : World} (k : ThIn w s p7 a V) (x y : Int) : ThIn w s p7 ⟨x, y⟩ ((V.setCell ⟨p7, 0, none⟩ (.int .i64 x)).setCell ⟨p7, 1, none⟩ (.int .i64 y)) := by
  have h1 := k.m7
  exact ⟨set2_ext k.ext (by omega) _ _, set2_other k.br (by omega) _ _, set2_other k.rs (by omega) _ _, set2_box k.su _ _, h1⟩
set_option maxRecDepth 100000 in
set_option maxHeartbeats 8000000 in
theorem thirst_any (s : Breed) (a : Option Addr) (n cap : Nat) (l : List Camel) (w : World) (hl : CamelsAt w a n l) (hn : n ≤ cap) (hm : cap ≤ maxLen) :
    Calls Tryz.prog 44 #[s.val, .slice a n cap] w fun e w' => e = .returned (thirstRes (thirstVal s l)) ∧ Ext w w' := by
  have hcb := fun W => checkBreed_any s W
  have hcc := fun c W => checkCamel_any s c W
  have hll := hl.1
  unfold maxLen at hm
  have hdef : thirstVal s l = if breedErr s ≠ 0 then (⟨0, 0⟩, breedErr s) else if 30 < l.length then (⟨0, 0⟩, 4) else match thirstOf s ⟨0, 0⟩ l with
    | none => (⟨0, 0⟩, 11)
    | some a => (a, 0) := rfl
  obtain ⟨Q, hQ⟩ : ∃ Q : Ending → World → Prop, (fun e w' => e = .returned (thirstRes (thirstVal s l)) ∧ Ext w w') = Q := ⟨_, rfl⟩
  have hfin : ∀ lo hi K, thirstVal s l = (⟨lo, hi⟩, K) → ∀ w', Ext w w' → Q (.returned (.tuple #[.agg #[.int .i64 lo, .int .i64 hi], .int .i64 K])) w' := fun lo hi K h w' hx => by
    rw [← hQ]
    simp only [h]
    exact ⟨rfl, hx⟩
  rw [hQ]
  clear hQ
  have hbz : breedErr s = 0 → BreedOk s := fun h => breedIs (by unfold breedErr at h; split at h; assumption; omega)
  obtain ⟨K, hK⟩ : ∃ K, breedErr s = K := ⟨_, rfl⟩
  have hz10 : (if breedOk s then (0 : Int) else 10) = K := hK
  rw [hK] at hcb hdef hbz
  rw [hll] at hdef
  obtain ⟨W0, hW0⟩ : ∃ W0, (w.alloc (.cells s.cells.toArray 25)).alloc (.cells #[.int .i64 0, .int .i64 0] 23) = W0 := ⟨_, rfl⟩
  have hx0 : Ext w W0 := by rw [← hW0]; exact ((Ext.refl w).alloc _).alloc _
  have hb0 : W0.heap[w.heap.size]? = some (.cells s.cells.toArray 25 (0, 0)) := by rw [← hW0]; exact alloc_heap (heap_alloc_new w _) _
  have hr0 : W0.heap[w.heap.size + 1]? = some (.cells #[.int .i64 0, .int .i64 0] 23 (0, 0)) := by rw [← hW0]; exact alloc_at _ _ _ (by simp)
  generalize thirstVal s l = TV at *
  obtain ⟨S, hS⟩ : ∃ S, S = s := ⟨_, rfl⟩

  rw [← hS] at hb0 hbz hcc hdef hz10
  simp only [Breed.val_eq, Camel.val_eq] at hcc
  obtain ⟨fu, fe, ⟨r0, r1⟩, ⟨h0, h1⟩, ⟨t0, t1⟩, ⟨b0, b1⟩, ⟨u0, u1⟩, ⟨m0, m1⟩, hz, ⟨s0, s1⟩⟩ := s
  unfold Breed.val at hcb ⊢
  simp only at hcb hW0 ⊢
  unfold Breed.cells at hW0
  simp only at hW0
  have hb1 : W0.heap[w.heap.size]? = some (.cells #[.int .i64 fu, .int .i64 fe, .int .i64 r0, .int .i64 r1, .int .i64 h0, .int .i64 h1, .int .i64 t0, .int .i64 t1, .int .i64 b0, .int .i64 b1, .int .i64 u0, .int .i64 u1, .int .i64 m0, .int .i64 m1, .int .i64 hz, .int .i64 s0, .int .i64 s1] 25 (0, 0)) := by rw [hS] at hb0; exact hb0
  have Hz10 := Lib.hid hz10
  have Hcb := Lib.hid hcb
  have Hcc := Lib.hid hcc
  have Hx0 := Lib.hid hx0
  have Hb0 := Lib.hid hb0
  have Hb1 := Lib.hid hb1
  have Hr0 := Lib.hid hr0
  have Hfin := Lib.hid hfin
  have Hdef := Lib.hid hdef
  have Hl := Lib.hid hl
  have Hbz := Lib.hid hbz
  have HS := Lib.hid hS
  clear hz10 hcb hcc hx0 hb0 hb1 hr0 hfin hdef hl hbz hS
  by_cases hk : K ≠ 0
  · have hkB : (K != 0) = true := by simpa using hk
    have hf := Hfin.out 0 0 K (by rw [Hdef.out, if_pos hk])
    have Hf := Lib.hid hf
    clear hf
    clear hk
    go_enter Tryz.func44, Tryz.ntmps44
    go_wp2_with (first | (refine wpList_load_row rfl 25 (.tmp 2) rfl w.heap.size rfl 25 _ (0, 0) _ Hb1.out Tryz.underlying25 rfl (by kernel_rfl) ?_) | (go_at_call 67; refine (Hcb.out _).mono ?_; rintro e v1 ⟨rfl, hx1⟩; have hr1 := hx1.heap Hr0.out; obtain ⟨z0, z1⟩ := (Ext.refl v1).box hr1; have hrl := heap_lt hr1))
    refine bodyPost_ret (results_cell_tmp (P := Tryz.prog) (fn := Tryz.f44) rfl _ _ (w.heap.size + 1) 23 #[.int .i64 0, .int .i64 0] (0, 0) _ rfl (set2_box hr1 _ _) Tryz.underlying23 rfl (by kernel_rfl)) rfl ?_
    exact Hf.out _ (set2_ext (Hx0.out.trans hx1) (by omega) _ _)
  obtain rfl : K = 0 := by omega
  have hdf := Hdef.out
  rw [if_neg (by simp)] at hdf
  have hkB : ((0 : Int) != 0) = false := by decide
  have hbo := Hbz.out rfl
  clear Hbz
  by_cases h30 : 30 < n
  · rw [if_pos h30] at hdf
    have hnB : decide (30 < (n : Int)) = true := by simp; omega
    have hf := Hfin.out 0 0 4 hdf
    have Hf := Lib.hid hf
    have Hbo := Lib.hid hbo
    clear hf hbo
    clear h30 hdf
    go_enter Tryz.func44, Tryz.ntmps44
    go_wp2_with (first | (refine wpList_load_row rfl 25 (.tmp 2) rfl w.heap.size rfl 25 _ (0, 0) _ Hb1.out Tryz.underlying25 rfl (by kernel_rfl) ?_) | (go_at_call 67; refine (Hcb.out _).mono ?_; rintro e v1 ⟨rfl, hx1⟩; have hr1 := hx1.heap Hr0.out; obtain ⟨z0, z1⟩ := (Ext.refl v1).box hr1; have hrl := heap_lt hr1))
    refine bodyPost_ret (results_cell_tmp (P := Tryz.prog) (fn := Tryz.f44) rfl _ _ (w.heap.size + 1) 23 #[.int .i64 0, .int .i64 0] (0, 0) _ rfl (set2_box hr1 _ _) Tryz.underlying23 rfl (by kernel_rfl)) rfl ?_
    exact Hf.out _ (set2_ext (Hx0.out.trans hx1) (by omega) _ _)
  rw [if_neg h30] at hdf
  have hnB : decide (30 < (n : Int)) = false := by simp; omega
  have hn30 : n ≤ 30 := by omega
  have Hdf := Lib.hid hdf
  have Hbo := Lib.hid hbo
  clear hdf hbo
  clear h30
  go_enter Tryz.func44, Tryz.ntmps44
  go_upto_region 7 with (first | (refine wpList_load_row rfl 25 (.tmp 2) rfl w.heap.size rfl 25 _ (0, 0) _ Hb1.out Tryz.underlying25 rfl (by kernel_rfl) ?_) | (go_at_call 67; refine (Hcb.out _).mono ?_; rintro e v1 ⟨rfl, hx1⟩))
  have hD0 : ThIn w S v1.heap.size ⟨0, 0⟩ (v1.alloc (.cells #[.int .i64 0, .int .i64 0] 23)) := ⟨(Hx0.out.trans hx1).alloc _, alloc_heap (hx1.heap Hb0.out) _, alloc_heap (hx1.heap Hr0.out) _, heap_alloc_new v1 _, heap_lt (hx1.heap Hr0.out)⟩
  generalize v1.alloc (.cells #[.int .i64 0, .int .i64 0] 23) = W1 at *
  generalize v1.heap.size = p7 at *
  have HD0 := Lib.hid hD0
  clear hD0
  clear hx1 Hb0 Hb1 Hr0 Hx0 hW0 Hcb
  go_wp2_with fail
  go_loopw [23] (fun i wr => ∃ (k : Nat) (A : Span), i = .int .i64 k ∧ k ≤ n ∧ ThIn w S p7 A wr ∧ 0 ≤ A.lo ∧ A.lo ≤ A.hi ∧ A.hi ≤ k * 1000000 ∧ thirstOf S A (l.drop k) = thirstOf S ⟨0, 0⟩ l) (fun i _ => n - (intOf i).toNat)
  case atStart => exact ⟨0, ⟨0, 0⟩, rfl, by omega, HD0.out, by simp, by simp, by simp, rfl⟩
  case round =>
    clear HD0
    obtain ⟨k, A, rfl, hk, hD, hA0, hA1, hA2, hth⟩ := hrel
    by_cases hlt : k < n
    · have hltB : decide ((k : Int) < (n : Int)) = true := by simp; omega
      obtain ⟨b, off, x, rfl, hxk, hb, c0, c1, c2, c3, c4, c5, c6⟩ := (Hl.out.ext hD.ext).get k hlt
      rw [thirst_step hxk] at hth
      have hcx := fun W => Hcc.out x W
      have hce : camelErr S x = if breedOk S then (if camelOk S x then 0 else 11) else 10 := rfl
      rw [if_pos (show breedOk S = true from by
        cases hq : breedOk S
        · have hbz2 := Hz10.out
          rw [hq] at hbz2
          cases hbz2
        · rfl)] at hce
      obtain ⟨C, hC⟩ : ∃ C, camelOk S x = C := ⟨_, rfl⟩
      have hcw := fun (h : C = true) => (camelIs.1 (hC.trans h)).water
      rw [hC] at hth hce
      rw [hce] at hcx
      obtain ⟨⟨w0, w1⟩, ⟨k0, k1⟩, ⟨o0, o1⟩, mk⟩ := x
      unfold Camel.cells at hcx
      simp only at hcx c0 c1 c2 c3 c4 c5 c6 hcw
      have hx5 := (Ext.refl wr).alloc (.cells #[.int .i64 w0, .int .i64 w1, .int .i64 k0, .int .i64 k1, .int .i64 o0, .int .i64 o1, .bool mk] 27)
      have hD5 := hD.next hx5
      have hbx := heap_alloc_new wr (.cells #[.int .i64 w0, .int .i64 w1, .int .i64 k0, .int .i64 k1, .int .i64 o0, .int .i64 o1, .bool mk] 27)
      have hbr := hD5.br
      have hm7 := hD5.m7
      have h7l := heap_lt hD.su
      have Hcx := Lib.hid hcx
      have HD5 := Lib.hid hD5
      have Hbx := Lib.hid hbx
      have Hbr := Lib.hid hbr
      have Hcw := Lib.hid hcw
      have Hx5 := Lib.hid hx5
      clear hcx hD5 hbx hbr hcw hx5
      clear hC hD hxk hce
      cases C
      · rw [if_neg (by decide)] at hth
        have hdf := Hdf.out
        rw [← hth] at hdf
        have hf := Hfin.out 0 0 11 hdf
        have Hf := Lib.hid hf
        clear hf
        clear hth hdf Hcw Hdf Hdef
        go_wp2_with (first | (refine wpList_load_row rfl 25 (.tmp 2) rfl w.heap.size rfl 25 _ (0, 0) _ Hbr.out Tryz.underlying25 rfl (by kernel_rfl) ?_) | (refine wpList_load_row rfl 27 (.tmp 9) rfl wr.heap.size rfl 27 _ (0, 0) _ Hbx.out Tryz.underlying27 rfl (by kernel_rfl) ?_) | (go_at_call 37; refine (Hcx.out _).mono ?_; rintro e v6 ⟨rfl, hx6⟩; have hD6 := HD5.out.next hx6; have hr6 := hD6.rs; have he6 := hD6.ext; obtain ⟨y0, y1⟩ := (Ext.refl v6).box hr6; have hrl := heap_lt hr6; clear hD6))
        refine bodyPost_ret (results_cell_tmp (P := Tryz.prog) (fn := Tryz.f44) rfl _ _ (w.heap.size + 1) 23 #[.int .i64 0, .int .i64 0] (0, 0) _ rfl (set2_box hr6 _ _) Tryz.underlying23 rfl (by kernel_rfl)) rfl ?_
        exact Hf.out _ (set2_ext he6 (by omega) _ _)
      · rw [if_pos rfl] at hth
        have hw := Hcw.out rfl
        have hw0 := hw.low
        have hw1 := hw.ord
        have hw2 := hw.top
        have hfb := Hbo.out.full
        simp only at hw0 hw1 hw2
        have Hth := Lib.hid hth
        clear hth
        clear hw Hcw Hdf Hdef
        go_upto_region 13 with (first | (refine wpList_load_row rfl 25 (.tmp 2) rfl w.heap.size rfl 25 _ (0, 0) _ Hbr.out Tryz.underlying25 rfl (by kernel_rfl) ?_) | (refine wpList_load_row rfl 27 (.tmp 9) rfl wr.heap.size rfl 27 _ (0, 0) _ Hbx.out Tryz.underlying27 rfl (by kernel_rfl) ?_) | (go_at_call 37; refine (Hcx.out _).mono ?_; rintro e v6 ⟨rfl, hx6⟩; have hD6 := HD5.out.next hx6; have hbx6 := hx6.heap Hbx.out))
        have hsu6 := hD6.su
        have hfc6 : v6.cell? ⟨w.heap.size, 0, none⟩ = some (.int .i64 S.full) := ((Ext.refl v6).box hD6.br).1 0
        generalize wr.heap.size = px at *
        have hth' : thirstOf S ⟨A.lo + (S.full - w1), A.hi + (S.full - w0)⟩ (List.drop (k + 1) l) = thirstOf S ⟨0, 0⟩ l := Hth.out
        obtain ⟨A0, A1⟩ := A
        simp only at hA0 hA1 hA2 hsu6 hth'
        have hre := fun W => rest_any S.full ⟨w0, w1⟩ W (by omega) (by simp only; omega) (by simp only; omega)
        unfold Span.val at hre
        simp only at hre
        obtain ⟨R0, hR0⟩ : ∃ R, S.full - w1 = R := ⟨_, rfl⟩
        obtain ⟨R1, hR1⟩ : ∃ R, S.full - w0 = R := ⟨_, rfl⟩
        have hR2 : 0 ≤ R0 ∧ R0 ≤ R1 ∧ R1 ≤ 1000000 := by omega
        rw [hR0, hR1] at hre hth'
        have hpl := fun W b h => @plus2 A0 A1 R0 R1 W b h (by omega) (by omega) (by omega) (by omega)
        have HD6 := Lib.hid hD6
        have Hbx6 := Lib.hid hbx6
        have Hsu6 := Lib.hid hsu6
        have Hfc6 := Lib.hid hfc6
        have Hre := Lib.hid hre
        have Hpl := Lib.hid hpl
        have Hth' := Lib.hid hth'
        clear hD6 hbx6 hsu6 hfc6 hre hpl hth'
        clear hx6 HD5 Hbx Hbr Hcx Hx5 Hth hR0 hR1 c0 c1 c2 c3 c4 c5 c6
        refine wp_region_flow (.take [0, 1, 2, 3, 4] (.flow [5, 6, 7] [39, 40, 41] [[], [0], [1]] (.one 8 .done))) [8] (Ext v6) _ (by kernel_rfl) (by kernel_rfl) rfl (EC.ext v6) ((Ext.refl _).drew) ?_
        simp only [flowOf, treeOf, oneOp, twoOp, opsOf, consOp, callOF, List.getElem?_toArray, List.getElem?_cons_succ, List.getElem?_cons_zero]
        intro ι _ f hf
        have f0 := fun q => ((hf q).box Hsu6.out).1
        have f1 := fun q => (hf q).cell Hfc6.out
        have f2 := fun q => ((hf q).box Hbx6.out).1
        clear hf
        repeat (go_big_quiet_step (fail))
        refine wpQuiet_nil ?_
        clear f0 f1 f2
        refine wpOF_flow [IsV (.agg #[.int .i64 R0, .int .i64 R1]), IsSl 23 2 #[.int .i64 A0, .int .i64 A1, .int .i64 R0, .int .i64 R1], IsV (.agg #[.int .i64 (A0 + R0), .int .i64 (A1 + R1)])] rfl ⟨isV_ec (.agg #[.int .i64 R0, .int .i64 R1]), isSl_ec 23 2 #[.int .i64 A0, .int .i64 A1, .int .i64 R0, .int .i64 R1], isV_ec (.agg #[.int .i64 (A0 + R0), .int .i64 (A1 + R1)]), trivial⟩ (flowSteps_cons ?_ (flowSteps_cons ?_ (flowSteps_cons ?_ flowSteps_nil))) ?_
        · intro xs W hlen hS hn
          obtain ⟨x0, x1, x2, rfl⟩ := len3 hlen
          simp only [puts, Act.put, List.setIfInBounds_toArray, List.set_cons_succ, List.set_cons_zero]
          go_wp2_with (go_at_call 75; refine (Hre.out _).mono ?_; rintro e W5 ⟨rfl, hx5⟩)
          exact FlowPost.mk (.agg #[.int .i64 R0, .int .i64 R1]) rfl hx5 rfl
        · intro xs W hlen hS hn
          obtain ⟨x0, x1, x2, rfl⟩ := len3 hlen
          simp only [puts, Act.put, List.setIfInBounds_toArray, List.set_cons_succ, List.set_cons_zero]
          obtain rfl : x0 = .agg #[.int .i64 R0, .int .i64 R1] := hn.1
          go_wp2_with fail
          exact FlowPost.mk (.slice (some ⟨W.heap.size, 0, none⟩) 2 2) rfl ((Ext.refl _).alloc _) IsSl.new
        · intro xs W hlen hS hn
          obtain ⟨x0, x1, x2, rfl⟩ := len3 hlen
          simp only [puts, Act.put, List.setIfInBounds_toArray, List.set_cons_succ, List.set_cons_zero]
          obtain ⟨b, rfl, hbs⟩ : IsSl 23 2 #[.int .i64 A0, .int .i64 A1, .int .i64 R0, .int .i64 R1] x1 W := hn.1
          go_wp2_with (go_at_call 73; refine (Hpl.out W b hbs).mono ?_; rintro e W5 ⟨rfl, hx5⟩)
          exact FlowPost.mk (.agg #[.int .i64 (A0 + R0), .int .i64 (A1 + R1)]) rfl hx5 rfl
        intro xs W hlen hS hn
        obtain ⟨x0, x1, x2, rfl⟩ := len3 hlen
        simp only [puts, Act.put, List.setIfInBounds_toArray, List.set_cons_succ, List.set_cons_zero]
        obtain ⟨-, -, rfl, -⟩ := hn
        have hD8 := HD6.out.next hS
        have h7 := hD8.su
        simp only at h7
        obtain ⟨y0, y1⟩ := (Ext.refl W).box h7
        have h7l := heap_lt h7
        have hD9 := hD8.put (A0 + R0) (A1 + R1)
        have HD9 := Lib.hid hD9
        clear hD9
        clear hD8 h7 hS
        refine wpOT_one ?_
        go_wp2_with fail
        refine wpOT_done ?_
        clear y0 y1
        go_wp2_with fail
        go_roundw
        case rel => exact ⟨k + 1, ⟨A0 + R0, A1 + R1⟩, by go_num, by omega, HD9.out, by simp only; omega, by simp only; omega, by simp only; omega, Hth'.out⟩
        case measure => simp [intOf]; omega
    · have hltB : decide ((k : Int) < (n : Int)) = false := by simp; omega
      obtain rfl : k = n := by omega
      rw [List.drop_of_length_le (by omega)] at hth
      have hdf := Hdf.out
      rw [← hth] at hdf
      obtain ⟨A0, A1⟩ := A
      have hf := Hfin.out A0 A1 0 hdf
      have hrs := hD.rs
      have hsu := hD.su
      have hex := hD.ext
      have hm7 := hD.m7
      have hrl := heap_lt hrs
      simp only at hsu
      obtain ⟨y0, y1⟩ := (Ext.refl wr).box hrs
      obtain ⟨y2, _⟩ := (Ext.refl wr).box hsu
      have Hf := Lib.hid hf
      have Hrs := Lib.hid hrs
      have Hex := Lib.hid hex
      have Hsu := Lib.hid hsu
      clear hf hrs hex hsu
      clear hth hdf hD hlt hA0 hA1 hA2
      go_wp2_with fail
      refine bodyPost_ret (results_cell_tmp (P := Tryz.prog) (fn := Tryz.f44) rfl _ _ (w.heap.size + 1) 23 #[.int .i64 A0, .int .i64 A1] (0, 0) _ rfl (set2_box Hrs.out _ _) Tryz.underlying23 rfl (by kernel_rfl)) rfl ?_
      exact Hf.out _ (set2_ext Hex.out (by omega) _ _)
end Go.Proofs.YtcoelhpmkhimpaaGreatDoor

namespace Go.Proofs.YtcoelhpmkhimpaaGreatDoor
open Go.RowKit
set_option linter.unusedVariables false
set_option linter.unusedSimpArgs false
theorem assert35_yes (W : World) (v : Value) : (Instr.typeAssert (.iface 35 v) 20 35 true).run Tryz.prog W = .ok (.tuple #[v, .bool true]) W := by kernel_rfl
theorem catch_panicking (p : Addr) (x k : Int) (older : List PanicEntry) (w : World) (hc : w.cell? p = some (.int .i64 x)) (hz : w.frozen? p = false) :
    CallsD Tryz.prog 51 #[.pointer (some p)] (.panicking ({ v := .iface 35 (.int .i64 k), recovered := false } :: older)) w fun e u' w' =>
      e = .returned (.tuple #[]) ∧ u' = .panicking ({ v := .iface 35 (.int .i64 k), recovered := true } :: older) ∧ w' = w.setCell p (.int .i64 k) := by
  refine callsD_of_wpS Tryz.func51 rfl fun c₀ cs hu => ?_
  apply wpS_seq
  apply wpS_region
  simp [wpOpsS, go_sem, recoverD, hu, Tryz.ntmps51, Exit.thenS]
  apply wpS_seq
  apply wpS_region
  simp [wpOpsS, go_sem, Exit.thenS]
  refine wpS_cond (t := true) (by simp [Act.eval, Array.replicate]) ?_
  simp only [if_true]
  apply wpS_seq
  apply wpS_region
  simp [wpOpsS, go_sem, Exit.thenS, assert35_yes]
  apply wpS_seq
  apply wpS_seq
  apply wpS_region
  simp [wpOpsS, go_sem, Exit.thenS]
  refine wpS_cond (t := false) (by simp [Act.eval, Array.replicate]) ?_
  simp only [Bool.false_eq_true, if_false]
  refine wpS_of_wp (wp_skip ?_)
  simp only [Exit.thenS]
  apply wpS_region
  simp [wpOpsS, go_sem, hc, hz, bodyPostS, results, Tryz.results51]
theorem catch_idle (p : Addr) (w : World) :
    CallsD Tryz.prog 51 #[.pointer (some p)] .returning w fun e u' w' => e = .returned (.tuple #[]) ∧ u' = .returning ∧ w' = w := by
  refine callsD_of_wpS Tryz.func51 rfl fun c₀ cs hu => ?_
  apply wpS_seq
  apply wpS_region
  simp [wpOpsS, go_sem, recoverD, hu, Tryz.ntmps51, Exit.thenS]
  apply wpS_seq
  apply wpS_region
  simp [wpOpsS, go_sem, Exit.thenS]
  refine wpS_cond (t := false) (by simp [Act.eval, Array.replicate]) ?_
  simp only [Bool.false_eq_true, if_false]
  refine wpS_of_wp (wp_skip ?_)
  cases c₀
  simp_all [bodyPostS, results, Tryz.results51]
set_option maxRecDepth 20000 in
theorem trying_any (f : Nat) (cap : Array Value) (hcf : ∀ w, (callFunc f cap).run Tryz.prog w = .ok (.enter f cap) w) (W : World) (G : Int → World → Prop)
    (hdo : Calls Tryz.prog f cap (W.alloc (.cells #[.int .i64 0] 35)) fun e V => V.cell? ⟨W.heap.size, 0, none⟩ = some (.int .i64 0) ∧ V.frozen? ⟨W.heap.size, 0, none⟩ = false ∧
      ∃ k : Int, ((e = .returned (.tuple #[]) ∧ k = 0) ∨ e = .panicked [{ v := .iface 35 (.int .i64 k), recovered := false }]) ∧ G k (V.setCell ⟨W.heap.size, 0, none⟩ (.int .i64 k))) :
    Calls Tryz.prog 17 #[.func (.func f) #[] cap] W fun e V => ∃ k : Int, e = .returned (.int .i64 k) ∧ G k V := by
  have hmf : ∀ (fn : Fn) (first cap : Array Value) (w : World), (Instr.makeFunc fn first cap).run Tryz.prog w = .ok (.func fn first cap) w := fun _ _ _ _ => rfl
  have Hdo := Lib.hid hdo
  clear hdo
  go_enter_defers Tryz.func17, Tryz.ntmps17
  go_wp2_with fail
  refine Hdo.out.mono ?_
  rintro e V ⟨hc, hz, k, he, hg⟩
  rcases he with ⟨rfl, rfl⟩ | rfl
  · have Hg := Lib.hid hg
    clear hg
    go_wp2_with fail
    refine leaves_cons (f := 51) (args := #[.pointer (some ⟨W.heap.size, 0, none⟩)]) (by simp) (by simp [go_sem]) ?_
    refine (catch_idle ⟨W.heap.size, 0, none⟩ _).mono ?_
    rintro e u' w'' ⟨rfl, rfl, rfl⟩
    have e1 : (V.setCell ⟨W.heap.size, 0, none⟩ (.int .i64 0)).cell? ⟨W.heap.size, 0, none⟩ = some (.int .i64 0) := by
      simp [go_sem, hc]
    simp [Leaves, settle, results, Tryz.results17, go_sem, e1]
    exact Hg.out
  · have Hg := Lib.hid hg
    clear hg
    go_wp2_with fail
    refine leaves_cons (f := 51) (args := #[.pointer (some ⟨W.heap.size, 0, none⟩)]) (by simp) (by simp [go_sem]) ?_
    refine (catch_panicking ⟨W.heap.size, 0, none⟩ 0 k [] V hc hz).mono ?_
    rintro e u' w'' ⟨rfl, rfl, rfl⟩
    have e1 : (V.setCell ⟨W.heap.size, 0, none⟩ (.int .i64 k)).cell? ⟨W.heap.size, 0, none⟩ = some (.int .i64 k) := by
      simp [go_sem, hc]
    simp [Leaves, settle, results, Tryz.results17, go_sem, e1]
    exact Hg.out
end Go.Proofs.YtcoelhpmkhimpaaGreatDoor
