/- Layer 1, in plain words: what a day costs, an animal after a day, how many days it lasts. No function of the program is named here. -/
import Derived.Test.YtcoelhpmkhimpaaGreatDoorGeo
namespace Go.Proofs.YtcoelhpmkhimpaaGreatDoor
set_option linter.unusedVariables false

structure Breed where
  full : Int
  fed : Int
  rest : Span
  heat : Span
  toil : Span
  burn : Span
  rub : Span
  milk : Span
  heal : Int
  strong : Span
  deriving DecidableEq
structure Camel where
  water : Span
  fat : Span
  sore : Span
  milks : Bool
  deriving DecidableEq
structure March where
  hours : Int
  load : Int
  heat : Span
  grass : Span
  drinks : Span
  deriving DecidableEq
def upq (a b : Int) : Int := (a + b - 1) / b
def rateOk (s : Span) : Bool := spanOk s 0 100000
def breedOk (b : Breed) : Bool := inB b.full 1 1000000 && inB b.fed 1 1000000 && inB b.heal 0 1000 && spanOk b.strong 0 1000000 && (rateOk b.rest && rateOk b.heat && rateOk b.toil && rateOk b.burn && rateOk b.rub && rateOk b.milk)
def camelOk (b : Breed) (c : Camel) : Bool := spanOk c.water 0 b.full && spanOk c.fat 0 b.fed && spanOk c.sore 0 1000
def dayOk (m : March) : Bool := inB m.hours 0 24 && inB m.load 0 1000000 && spanOk m.heat 0 60 && spanOk m.grass 0 1000000 && spanOk m.drinks 0 1000000
def workOf (m : March) : Int := m.hours * (100000 + m.load)
def milkOf (milks : Bool) (s : Span) : Span := if milks then s else ⟨0, 0⟩
def waterOf (b : Breed) (milks : Bool) (m : March) : Span :=
  ⟨b.rest.lo + b.heat.lo * max 0 (m.heat.lo - 20) + b.toil.lo * workOf m / 100000 + (milkOf milks b.milk).lo,
   b.rest.hi + b.heat.hi * max 0 (m.heat.hi - 20) + upq (b.toil.hi * workOf m) 100000 + (milkOf milks b.milk).hi⟩
def fatOf (b : Breed) (m : March) : Span := ⟨b.burn.lo * workOf m / 100000, upq (b.burn.hi * workOf m) 100000⟩
def diesB (b : Breed) (c : Camel) (m : March) : Bool := decide (c.water.hi < (waterOf b c.milks m).lo) || decide (c.fat.hi < (fatOf b m).lo)
def safeB (b : Breed) (c : Camel) (m : March) : Bool := decide ((waterOf b c.milks m).hi ≤ c.water.lo) && decide ((fatOf b m).hi ≤ c.fat.lo)
def leftOf (most : Int) (s c g : Span) : Span := ⟨min most (max 0 (s.lo - c.hi) + g.lo), min most (s.hi - c.lo + g.hi)⟩
def soreOf (b : Breed) (s : Span) (m : March) : Span :=
  if m.hours = 0 then ⟨max 0 (s.lo - b.heal), max 0 (s.hi - b.heal)⟩
  else ⟨min 1000 (s.lo + b.rub.lo * m.hours * m.load / 1000000), min 1000 (s.hi + upq (b.rub.hi * m.hours * m.load) 1000000)⟩
def nextOf (b : Breed) (c : Camel) (m : March) : Camel :=
  ⟨leftOf b.full c.water (waterOf b c.milks m) m.drinks, leftOf b.fed c.fat (fatOf b m) m.grass, soreOf b c.sore m, c.milks⟩

structure SpanIs (s : Span) (lo hi : Int) : Prop where
  low : lo ≤ s.lo
  ord : s.lo ≤ s.hi
  top : s.hi ≤ hi
theorem spanIs {s : Span} {lo hi : Int} (h : spanOk s lo hi = true) : SpanIs s lo hi := by
  simp only [spanOk, Bool.and_eq_true, decide_eq_true_eq] at h
  exact ⟨h.1.1, h.1.2, h.2⟩
theorem SpanIs.ok {s : Span} {lo hi : Int} (h : SpanIs s lo hi) : spanOk s lo hi = true := by
  simp only [spanOk, Bool.and_eq_true, decide_eq_true_eq]
  exact ⟨⟨h.low, h.ord⟩, h.top⟩
theorem inB_is {n lo hi : Int} (h : inB n lo hi = true) : lo ≤ n ∧ n ≤ hi := by
  simpa only [inB, Bool.and_eq_true, decide_eq_true_eq] using h
structure BreedOk (b : Breed) : Prop where
  full : 1 ≤ b.full ∧ b.full ≤ 1000000
  fed : 1 ≤ b.fed ∧ b.fed ≤ 1000000
  heal : 0 ≤ b.heal ∧ b.heal ≤ 1000
  strong : SpanIs b.strong 0 1000000
  rest : SpanIs b.rest 0 100000
  heat : SpanIs b.heat 0 100000
  toil : SpanIs b.toil 0 100000
  burn : SpanIs b.burn 0 100000
  rub : SpanIs b.rub 0 100000
  milk : SpanIs b.milk 0 100000
theorem breedIs {b : Breed} (h : breedOk b = true) : BreedOk b := by
  simp only [breedOk, rateOk, Bool.and_eq_true] at h
  obtain ⟨⟨⟨⟨h1, h2⟩, h3⟩, h4⟩, ⟨⟨⟨⟨h5, h6⟩, h7⟩, h8⟩, h9⟩, h10⟩ := h
  exact ⟨inB_is h1, inB_is h2, inB_is h3, spanIs h4, spanIs h5, spanIs h6, spanIs h7, spanIs h8, spanIs h9, spanIs h10⟩
structure CamelOk (b : Breed) (c : Camel) : Prop where
  water : SpanIs c.water 0 b.full
  fat : SpanIs c.fat 0 b.fed
  sore : SpanIs c.sore 0 1000
theorem camelIs {b : Breed} {c : Camel} : camelOk b c = true ↔ CamelOk b c := by
  simp only [camelOk, Bool.and_eq_true]
  exact ⟨fun h => ⟨spanIs h.1.1, spanIs h.1.2, spanIs h.2⟩, fun h => ⟨⟨h.1.ok, h.2.ok⟩, h.3.ok⟩⟩
structure DayOk (m : March) : Prop where
  hours : 0 ≤ m.hours ∧ m.hours ≤ 24
  load : 0 ≤ m.load ∧ m.load ≤ 1000000
  heat : SpanIs m.heat 0 60
  grass : SpanIs m.grass 0 1000000
  drinks : SpanIs m.drinks 0 1000000
theorem dayIs {m : March} (h : dayOk m = true) : DayOk m := by
  simp only [dayOk, Bool.and_eq_true] at h
  obtain ⟨⟨⟨⟨h1, h2⟩, h3⟩, h4⟩, h5⟩ := h
  exact ⟨inB_is h1, inB_is h2, spanIs h3, spanIs h4, spanIs h5⟩

/-! ### products and quotients -/
theorem mul_le2 {a b x y A B : Int} (ha : 0 ≤ a) (hab : a ≤ b) (hx : 0 ≤ x) (hxy : x ≤ y) (hb : b ≤ A) (hy : y ≤ B) : 0 ≤ a * x ∧ a * x ≤ b * y ∧ b * y ≤ A * B :=
  ⟨Int.mul_nonneg ha hx, Int.mul_le_mul hab hxy hx (by omega), Int.mul_le_mul hb hy (by omega) (by omega)⟩
theorem ediv_le_upq {a b d : Int} (hd : 0 < d) (h : a ≤ b) : a / d ≤ upq b d := by
  unfold upq
  exact Int.ediv_le_ediv hd (by omega)
theorem upq_mono {a b d : Int} (hd : 0 < d) (h : a ≤ b) : upq a d ≤ upq b d := by
  unfold upq
  exact Int.ediv_le_ediv hd (by omega)
theorem upq_nonneg {a d : Int} (hd : 0 < d) (h : 0 ≤ a) : 0 ≤ upq a d := by
  unfold upq
  exact Int.ediv_nonneg (by omega) (by omega)
/-- so far up, and no farther -/
theorem upq_mul {a d : Int} (hd : 0 < d) : a ≤ upq a d * d ∧ upq a d * d < a + d := by
  unfold upq
  have h1 := Int.lt_ediv_add_one_mul_self (a + d - 1) hd
  have h2 := Int.ediv_mul_le (a + d - 1) (show d ≠ 0 by omega)
  rw [Int.add_mul] at h1
  omega
theorem work_is {m : March} (h : DayOk m) : 0 ≤ workOf m ∧ workOf m ≤ 26400000 := by
  have := mul_le2 h.hours.1 (Int.le_refl _) (show 0 ≤ 100000 + m.load by have := h.load; omega) (Int.le_refl _) h.hours.2 (show 100000 + m.load ≤ 1100000 by have := h.load; omega)
  unfold workOf
  omega
theorem scale_is {s : Span} {w M W : Int} (d : Int) (hd : 0 < d) (hs : SpanIs s 0 M) (hw : 0 ≤ w) (hW : w ≤ W) : 0 ≤ s.lo * w / d ∧ s.lo * w / d ≤ upq (s.hi * w) d ∧ upq (s.hi * w) d ≤ upq (M * W) d := by
  obtain ⟨a, b, c⟩ := mul_le2 hs.low hs.ord hw (Int.le_refl _) hs.top hW
  exact ⟨Int.ediv_nonneg a (by omega), ediv_le_upq hd b, upq_mono hd c⟩
theorem water_is {b : Breed} {m : March} (hb : BreedOk b) (hm : DayOk m) (k : Bool) : 0 ≤ (waterOf b k m).lo ∧ (waterOf b k m).lo ≤ (waterOf b k m).hi ∧ (waterOf b k m).hi ≤ 30600000 := by
  have h1 := work_is hm
  have h2 := scale_is 100000 (by omega) hb.toil h1.1 h1.2
  rw [show upq (100000 * 26400000) 100000 = 26400000 from rfl] at h2
  have h3 := mul_le2 hb.heat.low hb.heat.ord (show 0 ≤ max 0 (m.heat.lo - 20) by omega) (show max 0 (m.heat.lo - 20) ≤ max 0 (m.heat.hi - 20) by have := hm.heat.ord; omega) hb.heat.top (show max 0 (m.heat.hi - 20) ≤ 40 by have := hm.heat.top; omega)
  have h4 := hb.rest
  have h5 : 0 ≤ (milkOf k b.milk).lo ∧ (milkOf k b.milk).lo ≤ (milkOf k b.milk).hi ∧ (milkOf k b.milk).hi ≤ 100000 := by
    have := hb.milk
    cases k
    · exact ⟨Int.le_refl 0, Int.le_refl 0, (by decide : (0 : Int) ≤ 100000)⟩
    · exact ⟨this.low, this.ord, this.top⟩
  have := h4.low
  have := h4.ord
  have := h4.top
  unfold waterOf
  simp only
  omega
theorem fat_is {b : Breed} {m : March} (hb : BreedOk b) (hm : DayOk m) : 0 ≤ (fatOf b m).lo ∧ (fatOf b m).lo ≤ (fatOf b m).hi ∧ (fatOf b m).hi ≤ 26400000 := by
  have h1 := work_is hm
  have h2 := scale_is 100000 (by omega) hb.burn h1.1 h1.2
  rw [show upq (100000 * 26400000) 100000 = 26400000 from rfl] at h2
  exact h2
theorem left_is {M : Int} {s c g : Span} (hs : SpanIs s 0 M) (h0 : 0 ≤ c.lo) (h1 : c.lo ≤ c.hi) (hg : 0 ≤ g.lo) (hg1 : g.lo ≤ g.hi) (h : ¬s.hi < c.lo) : SpanIs (leftOf M s c g) 0 M := by
  have := hs.low
  have := hs.ord
  have := hs.top
  unfold leftOf
  exact ⟨by simp only; omega, by simp only; omega, by simp only; omega⟩
theorem sore_is {b : Breed} {s : Span} {m : March} (hb : BreedOk b) (hm : DayOk m) (hs : SpanIs s 0 1000) : SpanIs (soreOf b s m) 0 1000 := by
  have := hs.low
  have := hs.ord
  have := hs.top
  have := hb.heal
  unfold soreOf
  split
  · exact ⟨by simp only; omega, by simp only; omega, by simp only; omega⟩
  · have h1 := mul_le2 hb.rub.low hb.rub.ord hm.hours.1 (Int.le_refl _) hb.rub.top hm.hours.2
    have h2 := mul_le2 h1.1 h1.2.1 hm.load.1 (Int.le_refl _) h1.2.2 hm.load.2
    have h3 : 0 ≤ b.rub.lo * m.hours * m.load / 1000000 := Int.ediv_nonneg h2.1 (by omega)
    have h4 := ediv_le_upq (d := 1000000) (by omega) h2.2.1
    exact ⟨by simp only; omega, by simp only; omega, by simp only; omega⟩
/-- an animal after a day is one -/
theorem next_is {b : Breed} {c : Camel} {m : March} (hb : BreedOk b) (hc : CamelOk b c) (hm : DayOk m) (h : diesB b c m = false) : CamelOk b (nextOf b c m) := by
  simp only [diesB, Bool.or_eq_false_iff, decide_eq_false_iff_not] at h
  have hw := water_is hb hm c.milks
  have hf := fat_is hb hm
  exact ⟨left_is hc.water hw.1 hw.2.1 hm.drinks.low hm.drinks.ord h.1, left_is hc.fat hf.1 hf.2.1 hm.grass.low hm.grass.ord h.2, sore_is hb hm hc.sore⟩

/-! ### days -/
def daysOf (b : Breed) : Camel → List March → Option (List Camel × Int)
  | c, [] => some ([], 0)
  | c, m :: l => if diesB b c m then none else match daysOf b (nextOf b c m) l with
    | none => none
    | some r => some (nextOf b c m :: r.1, max (if safeB b c m then 0 else 1) r.2)
/-- for sure, and at the most, so many days of k -/
def lastsOf (b : Breed) (m : March) : Camel → Nat → Nat × Nat
  | c, 0 => (0, 0)
  | c, k + 1 => if diesB b c m then (0, 0) else (if safeB b c m then (lastsOf b m (nextOf b c m) k).1 + 1 else 0, (lastsOf b m (nextOf b c m) k).2 + 1)
theorem lasts_le (b : Breed) (m : March) : ∀ (k : Nat) (c : Camel), (lastsOf b m c k).1 ≤ (lastsOf b m c k).2 ∧ (lastsOf b m c k).2 ≤ k
  | 0, c => ⟨Nat.le_refl _, Nat.le_refl _⟩
  | k + 1, c => by
    have := lasts_le b m k (nextOf b c m)
    unfold lastsOf
    split
    · exact ⟨Nat.le_refl _, Nat.zero_le _⟩
    · simp only
      split <;> omega
/-- as many days as it lasts for sure, it lives on each one -/
theorem lasts_days {b : Breed} {m : March} (hb : BreedOk b) (hm : DayOk m) : ∀ (d k : Nat) (c : Camel), CamelOk b c → d ≤ (lastsOf b m c k).1 → ∃ l, daysOf b c (List.replicate d m) = some (l, 0) ∧ l.length = d ∧ ∀ x ∈ l, CamelOk b x
  | 0, k, c, hc, hd => ⟨[], rfl, rfl, by simp⟩
  | d + 1, 0, c, hc, hd => by simp [lastsOf] at hd
  | d + 1, k + 1, c, hc, hd => by
    unfold lastsOf at hd
    cases h : diesB b c m with
    | true => rw [h] at hd; simp at hd
    | false =>
      rw [h] at hd
      cases hs : safeB b c m with
      | false => rw [hs] at hd; simp at hd
      | true =>
        rw [hs] at hd
        simp at hd
        have hn := next_is hb hc hm h
        obtain ⟨l, e, hl, ha⟩ := lasts_days hb hm d k (nextOf b c m) hn hd
        refine ⟨nextOf b c m :: l, ?_, by simp [hl], ?_⟩
        · rw [List.replicate_succ]
          unfold daysOf
          rw [h, e, hs]
          rfl
        · intro x hx
          rcases List.mem_cons.1 hx with rfl | hx
          · exact hn
          · exact ha x hx
end Go.Proofs.YtcoelhpmkhimpaaGreatDoor
