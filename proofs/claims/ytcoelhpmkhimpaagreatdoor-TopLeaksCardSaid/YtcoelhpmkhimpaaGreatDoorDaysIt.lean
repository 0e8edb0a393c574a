/- The iterator over the days of an animal: its contract. -/
import Derived.Test.YtcoelhpmkhimpaaGreatDoorDayC
import Derived.Test.YtcoelhpmkhimpaaGreatDoorRowsIn
namespace Go.Proofs.YtcoelhpmkhimpaaGreatDoor
open Go.RowKit
set_option linter.unusedVariables false
set_option linter.unusedSimpArgs false
attribute [local go_sem] Oper.semAt_some
/-- whatever cells are not in O's blocks lie as they lay -/
structure KpO (O : Nat → Prop) (W W' : World) : Prop where
  size : W.heap.size ≤ W'.heap.size
  block : ∀ b o, W.heap[b]? = some o → o.isCells = true → ¬O b → W'.heap[b]? = some o
theorem KpO.refl (O : Nat → Prop) (W : World) : KpO O W W := ⟨Nat.le_refl _, fun _ _ h _ _ => h⟩
theorem KpO.trans {O : Nat → Prop} {A B C : World} (h : KpO O A B) (k : KpO O B C) : KpO O A C := ⟨Nat.le_trans h.size k.size, fun b o hb hc hn => k.block b o (h.block b o hb hc hn) hc hn⟩
theorem Ext.kpO {A B : World} (h : Ext A B) (O : Nat → Prop) : KpO O A B := ⟨h.size, fun b o hb _ _ => h.heap hb⟩
theorem KpO.cells {O : Nat → Prop} {A B : World} (h : KpO O A B) {b : Nat} {cs : Array Value} {t : TypeId} {f : Nat × Nat} (hb : A.heap[b]? = some (.cells cs t f)) (hn : ¬O b) : B.heap[b]? = some (.cells cs t f) := h.block b _ hb rfl hn
theorem KpO.cell {O : Nat → Prop} {A B : World} (h : KpO O A B) {a : Addr} {v : Value} (hc : A.cell? a = some v) (hn : ¬O a.block) : B.cell? a = some v := by
  obtain ⟨o, ho, hoc⟩ := cells_of_cell hc
  exact (World.cell?_of_block ((h.block _ o ho hoc hn).trans ho.symm)).trans hc
theorem kpO_t {O : Nat → Prop} {A B C : World} (h : KpO O A B) (k : KpO O B C) : KpO O A C := h.trans k
theorem kpO_b {O : Nat → Prop} {n : Nat} (W : World) (l : Nat) (o o' : Obj) (_ : n ≤ l) (hl : W.heap[l]? = some o) (ho : o.isCells = false) (_ : o.isWalk = false) : KpO O W (W.putObj l o') := by
  refine ⟨by rw [World.putObj_size]; exact Nat.le_refl _, fun b p hb hc _ => ?_⟩
  refine (World.putObj_heap_other (fun e => ?_)).trans hb
  subst e
  rw [hl] at hb
  cases hb
  rw [ho] at hc
  cases hc
theorem SlAt.kpO {O : Nat → Prop} {A B : World} {sz : Nat} {a : Option Addr} {n : Nat} {f : Nat → List Value} (h : SlAt A sz a n f) (k : KpO O A B) (hn : ∀ x, a = some x → ¬O x.block) : SlAt B sz a n f := fun h0 => by
  obtain ⟨b, off, ha, hc⟩ := h h0
  exact ⟨b, off, ha, fun i hi j v hv => k.cell (hc i hi j v hv) (show ¬O b from hn _ ha)⟩
theorem but_setRow {O : Nat → Prop} (W : World) (b : Nat) (cs : Array Value) (hO : O b) : But O W (W.setRow b cs) :=
  ⟨rfl, rfl, rfl, by simp [World.setRow], fun k o hk hn => (setRow_other _ _ _ _ (fun e => hn (by rw [e]; exact hO))).trans hk⟩
def zBreed : Breed := ⟨0, 0, ⟨0, 0⟩, ⟨0, 0⟩, ⟨0, 0⟩, ⟨0, 0⟩, ⟨0, 0⟩, ⟨0, 0⟩, 0, ⟨0, 0⟩⟩
theorem zBeast_eq : zBeast = beastVal zBreed zcamel := rfl
/-- what the iterator hands to a loop's body -/
structure DayStep where
  b : Breed
  c : Camel
  f : Int
def DayStep.enc (x : DayStep) : Array Value := #[beastVal x.b x.c, .int .u8 x.f]
def stepOf (s : Breed) (c : Camel) (m : March) : DayStep := if diesB s c m then ⟨zBreed, zcamel, 2⟩ else ⟨s, nextOf s c m, if safeB s c m then 0 else 1⟩
def seqOf (s : Breed) : Camel → List March → List DayStep
  | _, [] => []
  | c, m :: l => if diesB s c m then [⟨zBreed, zcamel, 2⟩] else stepOf s c m :: seqOf s (nextOf s c m) l
theorem dayVal_step (s : Breed) (c : Camel) (m : March) : dayVal s c m = beastVal (stepOf s c m).b (stepOf s c m).c ∧ dayFate s c m = (stepOf s c m).f := by
  unfold dayVal dayFate stepOf
  cases diesB s c m
  · simp
  · exact ⟨zBeast_eq, rfl⟩
theorem seq_drop {s : Breed} {c : Camel} {l : List March} {k : Nat} {m : March} (h : l[k]? = some m) : seqOf s c (l.drop k) = if diesB s c m then [⟨zBreed, zcamel, 2⟩] else stepOf s c m :: seqOf s (nextOf s c m) (l.drop (k + 1)) := by
  have hk := (List.getElem?_eq_some_iff.1 h).1
  have e : l.drop k = m :: l.drop (k + 1) := by
    rw [List.drop_eq_getElem_cons hk]
    congr 1
    have := List.getElem?_eq_getElem hk
    rw [h] at this
    exact (Option.some.inj this).symm
  rw [e]
  rfl
def bCells (s : Breed) (c : Camel) : List Value := [.int .i64 s.full, .int .i64 s.fed, .int .i64 s.rest.lo, .int .i64 s.rest.hi, .int .i64 s.heat.lo, .int .i64 s.heat.hi, .int .i64 s.toil.lo, .int .i64 s.toil.hi, .int .i64 s.burn.lo, .int .i64 s.burn.hi, .int .i64 s.rub.lo, .int .i64 s.rub.hi, .int .i64 s.milk.lo, .int .i64 s.milk.hi, .int .i64 s.heal, .int .i64 s.strong.lo, .int .i64 s.strong.hi,
  .int .i64 c.water.lo, .int .i64 c.water.hi, .int .i64 c.fat.lo, .int .i64 c.fat.hi, .int .i64 c.sore.lo, .int .i64 c.sore.hi, .bool c.milks]
theorem beastVal_eq (s : Breed) (c : Camel) : beastVal s c = .agg (bCells s c).toArray := rfl
def zbCells : Array Value := #[.int .i64 0, .int .i64 0, .int .i64 0, .int .i64 0, .int .i64 0, .int .i64 0, .int .i64 0, .int .i64 0, .int .i64 0, .int .i64 0, .int .i64 0, .int .i64 0, .int .i64 0, .int .i64 0, .int .i64 0, .int .i64 0, .int .i64 0, .int .i64 0, .int .i64 0, .int .i64 0, .int .i64 0, .int .i64 0, .int .i64 0, .bool false]
end Go.Proofs.YtcoelhpmkhimpaaGreatDoor
