/- TopStage, plain: what a way's stops are, and how an animal lives on its legs. -/
import Derived.Test.YtcoelhpmkhimpaaGreatVWalkC
import Derived.Test.YtcoelhpmkhimpaaGreatVDaysC
import Derived.Test.YtcoelhpmkhimpaaGreatVGk
namespace Go.Proofs.YtcoelhpmkhimpaaGreat
open Go.RowKit
set_option linter.unusedVariables false
set_option linter.unusedSimpArgs false
theorem walk_cases (l : Land) (p : Span) (frw day : Int) (gs : List Int) : ((walkOf l p frw day gs).2.2 ≠ 0 ∧ (walkOf l p frw day gs).1 = []) ∨
    ((walkOf l p frw day gs).2.2 = 0 ∧ openErr l p = 0 ∧ (walkOf l p frw day gs).1.length = gs.length ∧ ∀ x ∈ (walkOf l p frw day gs).1, StopOk l p x) := by
  unfold walkOf
  by_cases h1 : openErr l p ≠ 0
  · rw [if_pos h1]
    exact .inl ⟨h1, rfl⟩
  rw [if_neg h1]
  by_cases h2 : (inB frw 0 (l.wells.length - 1) && inB day 0 100000) = false
  · rw [if_pos h2]
    exact .inl ⟨by decide, rfl⟩
  rw [if_neg h2]
  by_cases h3 : 24 < gs.length
  · rw [if_pos h3]
    exact .inl ⟨by decide, rfl⟩
  rw [if_neg h3]
  have h2' : inB frw 0 (l.wells.length - 1) = true ∧ inB day 0 100000 = true := by simpa using h2
  have hd := inB_is h2'.2
  obtain ⟨ho1, ho2⟩ := open_ok (show openErr l p = 0 by omega)
  cases he : endsOf l frw gs with
  | error k => exact .inl ⟨show (8 : Int) ≠ 0 by decide, rfl⟩
  | ok es =>
    simp only
    cases hs : stopsOf l p ⟨day, day⟩ gs es with
    | error k => exact .inl ⟨show (34 : Int) ≠ 0 by decide, rfl⟩
    | ok ss =>
      obtain ⟨a, b⟩ := stops_are ho1 ho2 gs frw ⟨day, day⟩ es ss ⟨hd.1, Int.le_refl _, hd.2⟩ he hs
      exact .inr ⟨rfl, by omega, a, b⟩
theorem camelErr_zero {s : Breed} {c : Camel} (h : camelErr s c = 0) : breedOk s = true ∧ camelOk s c = true := by
  unfold camelErr at h
  split at h
  · rename_i h1
    split at h
    · rename_i h2
      exact ⟨h1, h2⟩
    · omega
  · omega
theorem ask_ok {s : Breed} {c : Camel} {l : List March} (hb : breedOk s = true) (hc : camelOk s c = true) (hl : l.length ≤ 60) (hd : ∀ m ∈ l, dayOk m = true) : askDays s c l = 0 := by
  unfold askDays camelErr daysErr
  rw [hb, hc, if_pos rfl, if_pos rfl, if_neg (by simp), if_neg (by omega), if_pos (List.all_eq_true.2 hd)]
theorem lasts_val {s : Breed} {c : Camel} {m : March} (hb : breedOk s = true) (hc : camelOk s c = true) (hd : dayOk m = true) : lastsVal s c m = (⟨(lastsOf s m c 60).1, (lastsOf s m c 60).2⟩, 0) := by
  unfold lastsVal
  rw [if_neg (by rw [ask_ok hb hc (by simp) (by simpa using hd)]; simp)]
theorem wdays_ok {l : Land} {p : Span} {x : Stop} (ho : openErr l p = 0) (hx : StopOk l p x) : wdaysErr l x.leg p = 0 ∧ wdaysVal l x.leg p = legDays (legAt l x.leg) p := by
  have h1 := hx.leg
  have e : wdaysErr l x.leg p = 0 := by
    unfold wdaysErr
    rw [if_pos ho, if_pos (by unfold inB; simp; omega)]
  exact ⟨e, by unfold wdaysVal; rw [if_pos e]⟩
theorem leg_is {l : Land} {p : Span} {x : Stop} (ho : openErr l p = 0) (hx : StopOk l p x) : 1 ≤ (legDays (legAt l x.leg) p).lo ∧ (legDays (legAt l x.leg) p).lo ≤ (legDays (legAt l x.leg) p).hi ∧ (legDays (legAt l x.leg) p).hi ≤ 1000000 := by
  obtain ⟨ho1, ho2⟩ := open_ok ho
  have h1 := hx.leg
  refine days_is (n := l.wells.length) (legIs (List.all_eq_true.1 ho1 _ ?_)) ho2
  unfold legAt
  rw [List.getD_eq_getElem?_getD, List.getElem?_eq_getElem (show x.leg.toNat < l.legs.length by omega)]
  exact List.getElem_mem _
/-- the loop: the animal lies in block p9 -/
structure StIn (W2 : World) (p9 : Nat) (c : Camel) (V : World) : Prop where
  but : But (fun b => b = p9) W2 V
  at' : V.heap[p9]? = some (.cells c.cells.toArray 31 (0, 0))
theorem StIn.next {W2 : World} {p9 : Nat} {c : Camel} {V V' : World} (h : StIn W2 p9 c V) (hx : Ext V V') : StIn W2 p9 c V' := ⟨h.but.trans (hx.but _), hx.heap h.at'⟩
theorem StIn.row {W2 : World} {p9 : Nat} {c : Camel} {V : World} (h : StIn W2 p9 c V) (c' : Camel) : StIn W2 p9 c' (V.setRow p9 c'.cells.toArray) := ⟨h.but.trans (but_setRow V p9 _ rfl), setRow_heap V p9 _ c'.cells.toArray 31 (0, 0) h.at'⟩
theorem StIn.full {W2 : World} {p9 : Nat} {c : Camel} {V : World} (h : StIn W2 p9 c V) (n : Int) : StIn W2 p9 ⟨⟨n, n⟩, c.fat, c.sore, c.milks⟩ ((V.setCell ⟨p9, 0, none⟩ (.int .i64 n)).setCell ⟨p9, 1, none⟩ (.int .i64 n)) := by
  refine ⟨h.but.trans ((But.setCell (O := fun b => b = p9) V _ rfl).trans (But.setCell (O := fun b => b = p9) _ _ rfl)), ?_⟩
  rw [heap_setCell_box, heap_setCell_box, h.at']
  rfl
theorem full_ok {s : Breed} {c : Camel} (hb : BreedOk s) (hc : CamelOk s c) : CamelOk s ⟨⟨s.full, s.full⟩, c.fat, c.sore, c.milks⟩ := ⟨⟨by have := hb.full; simp only; omega, Int.le_refl _, Int.le_refl _⟩, hc.fat, hc.sore⟩
theorem info29s : (Tryz.prog.info? 33).map (fun i => (i.zero, i.size, i.bytes)) = some (some (.agg #[.int .i64 0, .int .i64 0, .int .i64 0, .int .i64 0, .int .i64 0, .int .i64 0, .int .i64 0, .int .i64 0]), 8, 64) := by kernel_rfl
theorem elem48s : Elem Tryz.prog 92 33 8 := by
  obtain ⟨i, h1, h2, h3, h4⟩ := info_parts info29s
  exact ⟨Tryz.underlying92, ⟨i, _, _, h1, h2, h3, h4, rfl, by decide⟩, by decide⟩
theorem day_src (W : World) (c : March) : SlAt (W.alloc (.cells c.cells.toArray 33)) 8 (some ⟨W.heap.size, 0, none⟩) 1 (fun k => (dayRows [c]).getD k []) :=
  slAt_one (fun j v hv => by
    rw [cell_of_row _ _ _ _ 33 (0, 0) (heap_alloc_new W _), Nat.zero_add, List.getElem?_toArray]
    exact hv)
end Go.Proofs.YtcoelhpmkhimpaaGreat
