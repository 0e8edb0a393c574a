/- TopThirsty, plain: who carries less lasts no fewer days. -/
import Derived.Test.YtcoelhpmkhimpaaVGa
import Derived.Test.YtcoelhpmkhimpaaVWalkC
import Derived.Test.YtcoelhpmkhimpaaVDaysC
import Derived.Test.YtcoelhpmkhimpaaVGk
namespace Go.Proofs.Ytcoelhpmkhimpaa
set_option linter.unusedVariables false
/-- an animal that has no less -/
structure Better (c d : Camel) : Prop where
  wl : d.water.lo ≤ c.water.lo
  wh : d.water.hi ≤ c.water.hi
  fl : d.fat.lo ≤ c.fat.lo
  fh : d.fat.hi ≤ c.fat.hi
  mi : c.milks = d.milks
theorem Better.refl (c : Camel) : Better c c := ⟨Int.le_refl _, Int.le_refl _, Int.le_refl _, Int.le_refl _, rfl⟩
/-- a day that costs no more, and brings as much -/
structure Lighter (m' m : March) : Prop where
  hours : m'.hours = m.hours
  load : m'.load ≤ m.load
  zero : 0 ≤ m'.load
  heat : m'.heat = m.heat
  grass : m'.grass = m.grass
  drinks : m'.drinks = m.drinks
theorem work_mono {m' m : March} (h : Lighter m' m) (h0 : 0 ≤ m.hours) : 0 ≤ workOf m' ∧ workOf m' ≤ workOf m := by
  unfold workOf
  rw [h.hours]
  exact ⟨Int.mul_nonneg h0 (by have := h.zero; omega), Int.mul_le_mul_of_nonneg_left (by have := h.load; omega) h0⟩
theorem scale_mono {a x y : Int} (d : Int) (hd : 0 < d) (ha : 0 ≤ a) (hxy : x ≤ y) : a * x / d ≤ a * y / d ∧ upq (a * x) d ≤ upq (a * y) d :=
  ⟨Int.ediv_le_ediv hd (Int.mul_le_mul_of_nonneg_left hxy ha), upq_mono hd (Int.mul_le_mul_of_nonneg_left hxy ha)⟩
theorem water_mono {b : Breed} {m' m : March} (hb : BreedOk b) (h : Lighter m' m) (h0 : 0 ≤ m.hours) (k : Bool) : (waterOf b k m').lo ≤ (waterOf b k m).lo ∧ (waterOf b k m').hi ≤ (waterOf b k m).hi := by
  have hw := work_mono h h0
  have h1 := (scale_mono 100000 (by omega) hb.toil.low hw.2).1
  have h2 := (scale_mono 100000 (by omega) (show 0 ≤ b.toil.hi by have := hb.toil.low; have := hb.toil.ord; omega) hw.2).2
  unfold waterOf
  rw [h.heat]
  simp only
  omega
theorem fat_mono {b : Breed} {m' m : March} (hb : BreedOk b) (h : Lighter m' m) (h0 : 0 ≤ m.hours) : (fatOf b m').lo ≤ (fatOf b m).lo ∧ (fatOf b m').hi ≤ (fatOf b m).hi := by
  have hw := work_mono h h0
  exact ⟨(scale_mono 100000 (by omega) hb.burn.low hw.2).1, (scale_mono 100000 (by omega) (show 0 ≤ b.burn.hi by have := hb.burn.low; have := hb.burn.ord; omega) hw.2).2⟩
theorem next_mono {b : Breed} {m' m : March} {c d : Camel} (hb : BreedOk b) (h : Lighter m' m) (h0 : 0 ≤ m.hours) (hc : Better c d) : Better (nextOf b c m') (nextOf b d m) := by
  have hw := water_mono hb h h0 d.milks
  have hf := fat_mono hb h h0
  obtain ⟨h1, h2, h3, h4, h5⟩ := hc
  unfold nextOf leftOf
  rw [h5, h.drinks, h.grass]
  exact ⟨by simp only; omega, by simp only; omega, by simp only; omega, by simp only; omega, rfl⟩
/-- **who carries less lasts no fewer days** -/
theorem lasts_mono {b : Breed} {m' m : March} (hb : BreedOk b) (h : Lighter m' m) (h0 : 0 ≤ m.hours) : ∀ (k : Nat) (c d : Camel), Better c d → (lastsOf b m d k).1 ≤ (lastsOf b m' c k).1 ∧ (lastsOf b m d k).2 ≤ (lastsOf b m' c k).2
  | 0, c, d, hc => ⟨Nat.le_refl _, Nat.le_refl _⟩
  | k + 1, c, d, hc => by
    have ih := lasts_mono hb h h0 k _ _ (next_mono hb h h0 hc)
    have hw := water_mono hb h h0 d.milks
    have hf := fat_mono hb h h0
    have hmk := hc.mi
    unfold lastsOf
    cases hd : diesB b d m with
    | true => exact ⟨Nat.zero_le _, Nat.zero_le _⟩
    | false =>
      have hd' : diesB b c m' = false := by
        unfold diesB at hd ⊢
        rw [hmk]
        simp only [Bool.or_eq_false_iff, decide_eq_false_iff_not] at hd ⊢
        have := hc.wh
        have := hc.fh
        omega
      rw [hd']
      simp only [Bool.false_eq_true, if_false]
      refine ⟨?_, by omega⟩
      cases hs : safeB b d m with
      | false => simp
      | true =>
        have hs' : safeB b c m' = true := by
          unfold safeB at hs ⊢
          rw [hmk]
          simp only [Bool.and_eq_true, decide_eq_true_eq] at hs ⊢
          have := hc.wl
          have := hc.fl
          omega
        rw [hs']
        simp only [if_true]
        omega
theorem find_inv {l : List Half} {ts : List Trek} {x y far : Int} : ∀ (n : Nat) (a : Int × Int), findTo l ts x y far n = some a → a.1 ≤ n ∧ a.2 ≤ n ∧ (0 ≤ a.2 → 0 ≤ a.1 ∧ a.1 ≤ a.2)
  | 0, a, h => by
    unfold findTo at h
    cases h
    simp only [noteMay, noteSure]
    generalize knownOf l x y far = k
    refine ⟨?_, ?_, ?_⟩
    · split <;> simp
    · split <;> simp
    · split <;> split <;> omega
  | n + 1, a, h => by
    unfold findTo at h
    cases hb : findTo l ts x y far n with
    | none => rw [hb] at h; cases h
    | some b =>
      rw [hb] at h
      have ih := find_inv n b hb
      simp only at h
      split at h
      · cases h
        simp only [noteMay, noteSure]
        generalize knownOf (wayTo l ts (n + 1)) x y far = k
        obtain ⟨v, u⟩ := b
        simp only at ih ⊢
        refine ⟨?_, ?_, ?_⟩
        · split <;> omega
        · split <;> omega
        · split <;> split <;> omega
      · cases h
/-- what is known of when a well is found -/
theorem finds_is (l : List Half) (ts : List Trek) (x y far : Int) : ((findsOf l ts x y far).2.2 ≠ 0 ∧ (findsOf l ts x y far).1 = 0 ∧ (findsOf l ts x y far).2.1 = 0) ∨
    ((findsOf l ts x y far).2.2 = 0 ∧ (findsOf l ts x y far).1 ≤ ts.length ∧ (findsOf l ts x y far).2.1 ≤ ts.length ∧ (0 ≤ (findsOf l ts x y far).2.1 → 0 ≤ (findsOf l ts x y far).1 ∧ (findsOf l ts x y far).1 ≤ (findsOf l ts x y far).2.1)) := by
  unfold findsOf
  by_cases h1 : askedOf l x y far ≠ 0
  · rw [if_pos h1]
    exact .inl ⟨h1, rfl, rfl⟩
  rw [if_neg h1]
  by_cases h2 : 60 < ts.length
  · rw [if_pos h2]
    exact .inl ⟨by decide, rfl, rfl⟩
  rw [if_neg h2]
  by_cases h3 : ts.all trekOk = false
  · rw [if_pos h3]
    exact .inl ⟨by decide, rfl, rfl⟩
  rw [if_neg h3]
  cases h4 : findTo l ts x y far ts.length with
  | none => exact .inl ⟨show (9 : Int) ≠ 0 by decide, rfl, rfl⟩
  | some a =>
    have := find_inv ts.length a h4
    exact .inr ⟨rfl, this⟩
end Go.Proofs.Ytcoelhpmkhimpaa

/- TopStage, plain: what a way's stops are, and how an animal lives on its legs. -/
namespace Go.Proofs.Ytcoelhpmkhimpaa
open Go.RowKit
set_option linter.unusedVariables false
set_option linter.unusedSimpArgs false
theorem walk_cases (l : Land) (p : Span) (frw day : Int) (gs : List Int) : ((walkOf l p frw day gs).2.2 ≠ 0 ∧ (walkOf l p frw day gs).1 = []) ∨
    ((walkOf l p frw day gs).2.2 = 0 ∧ openErr l p = 0 ∧ (walkOf l p frw day gs).1.length = gs.length ∧ ∀ x ∈ (walkOf l p frw day gs).1, StopOk l p x) := by
  unfold walkOf
  by_cases h1 : openErr l p ≠ 0
  · rw [if_pos h1]
    exact .inl ⟨h1, rfl⟩
  rw [if_neg h1]
  by_cases h2 : (inB frw 0 (l.wells.length - 1) && inB day 0 100000) = false
  · rw [if_pos h2]
    exact .inl ⟨by decide, rfl⟩
  rw [if_neg h2]
  by_cases h3 : 24 < gs.length
  · rw [if_pos h3]
    exact .inl ⟨by decide, rfl⟩
  rw [if_neg h3]
  have h2' : inB frw 0 (l.wells.length - 1) = true ∧ inB day 0 100000 = true := by simpa using h2
  have hd := inB_is h2'.2
  obtain ⟨ho1, ho2⟩ := open_ok (show openErr l p = 0 by omega)
  cases he : endsOf l frw gs with
  | error k => exact .inl ⟨show (8 : Int) ≠ 0 by decide, rfl⟩
  | ok es =>
    simp only
    cases hs : stopsOf l p ⟨day, day⟩ gs es with
    | error k => exact .inl ⟨show (34 : Int) ≠ 0 by decide, rfl⟩
    | ok ss =>
      obtain ⟨a, b⟩ := stops_are ho1 ho2 gs frw ⟨day, day⟩ es ss ⟨hd.1, Int.le_refl _, hd.2⟩ he hs
      exact .inr ⟨rfl, by omega, a, b⟩
theorem camelErr_zero {s : Breed} {c : Camel} (h : camelErr s c = 0) : breedOk s = true ∧ camelOk s c = true := by
  unfold camelErr at h
  split at h
  · rename_i h1
    split at h
    · rename_i h2
      exact ⟨h1, h2⟩
    · omega
  · omega
theorem ask_ok {s : Breed} {c : Camel} {l : List March} (hb : breedOk s = true) (hc : camelOk s c = true) (hl : l.length ≤ 60) (hd : ∀ m ∈ l, dayOk m = true) : askDays s c l = 0 := by
  unfold askDays camelErr daysErr
  rw [hb, hc, if_pos rfl, if_pos rfl, if_neg (by simp), if_neg (by omega), if_pos (List.all_eq_true.2 hd)]
theorem lasts_val {s : Breed} {c : Camel} {m : March} (hb : breedOk s = true) (hc : camelOk s c = true) (hd : dayOk m = true) : lastsVal s c m = (⟨(lastsOf s m c 60).1, (lastsOf s m c 60).2⟩, 0) := by
  unfold lastsVal
  rw [if_neg (by rw [ask_ok hb hc (by simp) (by simpa using hd)]; simp)]
theorem wdays_ok {l : Land} {p : Span} {x : Stop} (ho : openErr l p = 0) (hx : StopOk l p x) : wdaysErr l x.leg p = 0 ∧ wdaysVal l x.leg p = legDays (legAt l x.leg) p := by
  have h1 := hx.leg
  have e : wdaysErr l x.leg p = 0 := by
    unfold wdaysErr
    rw [if_pos ho, if_pos (by unfold inB; simp; omega)]
  exact ⟨e, by unfold wdaysVal; rw [if_pos e]⟩
theorem leg_is {l : Land} {p : Span} {x : Stop} (ho : openErr l p = 0) (hx : StopOk l p x) : 1 ≤ (legDays (legAt l x.leg) p).lo ∧ (legDays (legAt l x.leg) p).lo ≤ (legDays (legAt l x.leg) p).hi ∧ (legDays (legAt l x.leg) p).hi ≤ 1000000 := by
  obtain ⟨ho1, ho2⟩ := open_ok ho
  have h1 := hx.leg
  refine days_is (n := l.wells.length) (legIs (List.all_eq_true.1 ho1 _ ?_)) ho2
  unfold legAt
  rw [List.getD_eq_getElem?_getD, List.getElem?_eq_getElem (show x.leg.toNat < l.legs.length by omega)]
  exact List.getElem_mem _
/-- the loop: the animal lies in block p9 -/
structure StIn (W2 : World) (p9 : Nat) (c : Camel) (V : World) : Prop where
  but : But (fun b => b = p9) W2 V
  at' : V.heap[p9]? = some (.cells c.cells.toArray 27 (0, 0))
theorem StIn.next {W2 : World} {p9 : Nat} {c : Camel} {V V' : World} (h : StIn W2 p9 c V) (hx : Ext V V') : StIn W2 p9 c V' := ⟨h.but.trans (hx.but _), hx.heap h.at'⟩
theorem StIn.row {W2 : World} {p9 : Nat} {c : Camel} {V : World} (h : StIn W2 p9 c V) (c' : Camel) : StIn W2 p9 c' (V.setRow p9 c'.cells.toArray) := ⟨h.but.trans (but_setRow V p9 _ rfl), setRow_heap V p9 _ c'.cells.toArray 27 (0, 0) h.at'⟩
theorem StIn.full {W2 : World} {p9 : Nat} {c : Camel} {V : World} (h : StIn W2 p9 c V) (n : Int) : StIn W2 p9 ⟨⟨n, n⟩, c.fat, c.sore, c.milks⟩ ((V.setCell ⟨p9, 0, none⟩ (.int .i64 n)).setCell ⟨p9, 1, none⟩ (.int .i64 n)) := by
  refine ⟨h.but.trans ((But.setCell (O := fun b => b = p9) V _ rfl).trans (But.setCell (O := fun b => b = p9) _ _ rfl)), ?_⟩
  rw [heap_setCell_box, heap_setCell_box, h.at']
  rfl
theorem full_ok {s : Breed} {c : Camel} (hb : BreedOk s) (hc : CamelOk s c) : CamelOk s ⟨⟨s.full, s.full⟩, c.fat, c.sore, c.milks⟩ := ⟨⟨by have := hb.full; simp only; omega, Int.le_refl _, Int.le_refl _⟩, hc.fat, hc.sore⟩
theorem info29s : (Try.prog.info? 29).map (fun i => (i.zero, i.size, i.bytes)) = some (some (.agg #[.int .i64 0, .int .i64 0, .int .i64 0, .int .i64 0, .int .i64 0, .int .i64 0, .int .i64 0, .int .i64 0]), 8, 64) := by kernel_rfl
theorem elem48s : Elem Try.prog 48 29 8 := by
  obtain ⟨i, h1, h2, h3, h4⟩ := info_parts info29s
  exact ⟨Try.underlying48, ⟨i, _, _, h1, h2, h3, h4, rfl, by decide⟩, by decide⟩
theorem day_src (W : World) (c : March) : SlAt (W.alloc (.cells c.cells.toArray 29)) 8 (some ⟨W.heap.size, 0, none⟩) 1 (fun k => (dayRows [c]).getD k []) :=
  slAt_one (fun j v hv => by
    rw [cell_of_row _ _ _ _ 29 (0, 0) (heap_alloc_new W _), Nat.zero_add, List.getElem?_toArray]
    exact hv)
end Go.Proofs.Ytcoelhpmkhimpaa
