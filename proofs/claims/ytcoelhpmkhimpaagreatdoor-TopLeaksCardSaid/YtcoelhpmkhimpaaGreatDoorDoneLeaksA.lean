/- Contracts: the example of chapters 1 and 2. -/
import Derived.Test.YtcoelhpmkhimpaaGreatDoorOwn
import Derived.Test.YtcoelhpmkhimpaaGreatDoorRngB
import Derived.Test.YtcoelhpmkhimpaaGreatDoorCam
import Derived.Test.YtcoelhpmkhimpaaGreatDoorData
import Derived.Test.YtcoelhpmkhimpaaGreatDoorTreeC
import Derived.Deep.CutRange
import Derived.Deep.CutBlock
import Derived.Carry
import Derived.Test.YtcoelhpmkhimpaaGreatDoorBase
import Derived.Test.YtcoelhpmkhimpaaGreatDoorFromTo
import Derived.Test.YtcoelhpmkhimpaaGreatDoorFrom
import Derived.Test.YtcoelhpmkhimpaaGreatDoorFromB
import Derived.Test.YtcoelhpmkhimpaaGreatDoorDaysIt
import Derived.Test.YtcoelhpmkhimpaaGreatDoorLastsP
import Derived.Lib.AppendZeros
import Derived.Test.YtcoelhpmkhimpaaGreatDoorScal
import Derived.Laws.CopyOwn
import Derived.Test.YtcoelhpmkhimpaaGreatDoorRowsIn
import Derived.Laws.CopyRow
import Derived.Test.YtcoelhpmkhimpaaGreatDoorRepC
import Derived.Lib.SliceRun
import Derived.Test.YtcoelhpmkhimpaaGreatDoorMix
import Derived.WalkMore
import Derived.Deep.LoopGhost
import Derived.OwnWalkIn
import Derived.Test.YtcoelhpmkhimpaaGreatDoorUnl
import Derived.Test.YtcoelhpmkhimpaaGreatDoorTreeIn
import Derived.Laws.IdiomStrings
namespace Go.Proofs.YtcoelhpmkhimpaaGreatDoor
open Go.RowKit
set_option linter.unusedVariables false
set_option linter.unusedSimpArgs false

def RowBlock (w : World) (b : Nat) (t : TypeId) (sz : Nat) (rows : List (List Value)) : Prop :=
  (∀ r ∈ rows, r.length = sz) ∧ ∃ cs : Array Value, w.heap[b]? = some (.cells cs t (0, 0)) ∧ ∀ (k : Nat) (r : List Value) (j : Nat) (v : Value), rows[k]? = some r → r[j]? = some v → cs[k * sz + j]? = some v
section
variable {w w' : World} {b : Nat} {t : TypeId} {sz : Nat} {rows : List (List Value)}
theorem RowBlock.same (h : RowBlock w b t sz rows) (e : w'.heap[b]? = w.heap[b]?) : RowBlock w' b t sz rows :=
  ⟨h.1, let ⟨cs, h1, h2⟩ := h.2; ⟨cs, e.trans h1, h2⟩⟩
theorem RowBlock.lt (h : RowBlock w b t sz rows) : b < w.heap.size := let ⟨_, h1, _⟩ := h.2; heap_lt h1
theorem RowBlock.ext (h : RowBlock w b t sz rows) (e : Ext w w') : RowBlock w' b t sz rows := h.same (e.block b h.lt)
theorem RowBlock.cell (h : RowBlock w b t sz rows) {k j : Nat} {r : List Value} {v : Value} (hr : rows[k]? = some r) (hv : r[j]? = some v) : w.cell? ⟨b, k * sz + j, none⟩ = some v := by
  obtain ⟨_, cs, h1, h2⟩ := h
  rw [cell_of_row w b (k * sz + j) cs t (0, 0) h1]
  exact h2 k r j v hr hv
theorem RowBlock.free (h : RowBlock w b t sz rows) (j : Nat) : w.frozen? ⟨b, j, none⟩ = false := by
  obtain ⟨_, cs, h1, h2⟩ := h
  exact frozen_of_row w b j cs t h1
theorem RowBlock.slAt (h : RowBlock w b t sz rows) : SlAt w sz (some ⟨b, 0, none⟩) rows.length (fun k => rows.getD k []) := fun hn =>
  ⟨b, 0, rfl, fun k hk j v hv => by
    rw [Nat.zero_add]
    refine h.cell (r := rows.getD k []) ?_ hv
    simp [List.getD, List.getElem?_eq_getElem hk]⟩
theorem RowBlock.set (h : RowBlock w b t sz rows) {k j : Nat} {r : List Value} (hr : rows[k]? = some r) (hj : j < sz) (v : Value) : RowBlock (w.setCell ⟨b, k * sz + j, none⟩ v) b t sz (rows.set k (r.set j v)) := by
  obtain ⟨h0, cs, h1, h2⟩ := h
  refine ⟨fun x hx => ?_, cs.setIfInBounds (k * sz + j) v, ?_, fun k' r' j' v' hr' hv' => ?_⟩
  · rcases List.mem_or_eq_of_mem_set hx with hx | hx
    · exact h0 x hx
    · rw [hx, List.length_set]
      exact h0 r (List.mem_of_getElem? hr)
  · rw [heap_setCell_box, h1]
    rfl
  · have hrl := h0 r (List.mem_of_getElem? hr)
    obtain ⟨u, hu⟩ : ∃ u, r[j]? = some u := ⟨_, List.getElem?_eq_getElem (by omega)⟩
    have hin := (Array.getElem?_eq_some_iff.1 (h2 k r j u hr hu)).1
    have hkl := (List.getElem?_eq_some_iff.1 hr).1
    rw [Array.getElem?_setIfInBounds]
    by_cases hkk : k = k'
    · subst hkk
      rw [List.getElem?_set_self hkl] at hr'
      cases hr'
      by_cases hjj : j = j'
      · subst hjj
        rw [List.getElem?_set_self (by omega)] at hv'
        cases hv'
        simp [hin]
      · rw [List.getElem?_set_ne hjj] at hv'
        rw [if_neg (by omega)]
        exact h2 k r j' v' hr hv'
    · rw [List.getElem?_set_ne hkk] at hr'
      have hj' : j' < sz := by
        have := h0 r' (List.mem_of_getElem? hr')
        have := (List.getElem?_eq_some_iff.1 hv').1
        omega
      rw [if_neg ?_]
      · exact h2 k' r' j' v' hr' hv'
      · intro e
        rcases Nat.lt_or_ge k k' with hh | hh
        · have := Nat.mul_le_mul_right sz (show k + 1 ≤ k' by omega)
          rw [Nat.add_mul] at this
          omega
        · have := Nat.mul_le_mul_right sz (show k' + 1 ≤ k by omega)
          rw [Nat.add_mul] at this
          omega
end
theorem Owns.block {w : World} {base : Nat} {e : TypeId} {sz : Nat} {v : Value} {rows : List (List Value)} (h : Owns w base e sz v rows) (hn : 0 < rows.length) :
    ∃ b c, v = .slice (some ⟨b, 0, none⟩) rows.length c ∧ rows.length ≤ c ∧ c ≤ maxLen ∧ base ≤ b ∧ RowBlock w b e sz rows := by
  obtain ⟨ho, hr⟩ := h
  rcases ho.2 with ⟨rfl, h0⟩ | ⟨g, cap, cur, rfl, hg, hh, hn', hcap, _, hc⟩
  · omega
  · refine ⟨g, cap, rfl, hn', hcap, hg, hr, cur, hh, fun k r j u hk hu => ?_⟩
    have hjs : j < sz := by
      have := hr r (List.mem_of_getElem? hk)
      have := (List.getElem?_eq_some_iff.1 hu).1
      omega
    have e := flatten_get hr k j r hk hjs
    have hkl := (List.getElem?_eq_some_iff.1 hk).1
    have hm := Nat.mul_le_mul_right sz (show k + 1 ≤ rows.length by omega)
    rw [Nat.add_mul] at hm
    rw [← hc, List.getElem?_take_of_lt (by omega), hu] at e
    rw [← Array.getElem?_toList]
    exact e
end Go.Proofs.YtcoelhpmkhimpaaGreatDoor

namespace Go.Proofs.YtcoelhpmkhimpaaGreatDoor
set_option linter.unusedVariables false
structure Mark where
  spot : Int
  sign : Int
  deriving DecidableEq
structure Animal where
  id : Int
  mother : Int
  born : Span
  marks : List Mark
  deriving DecidableEq
/-- the k-th mark of an animal is valid, and no elder one is on its spot -/
def MarkIs (l : List Mark) (k : Nat) : Prop := ∀ m, l[k]? = some m → (0 ≤ m.spot ∧ m.spot ≤ 7) ∧ (1 ≤ m.sign ∧ m.sign ≤ 20) ∧ ∀ j x, j < k → l[j]? = some x → x.spot ≠ m.spot
def MarksOk (l : List Mark) : Prop := ∀ k, MarkIs l k
/-- where the animal with this Id is -/
def placeOf (l : List Animal) (id : Int) : Option Nat := l.findIdx? fun a => a.id == id
def atOf (l : List Animal) (id : Int) : Int := match placeOf l id with | some j => (j : Int) | none => -1
/-- the place of an animal's mother -/
def mom (l : List Animal) (i : Nat) : Option Nat := match l[i]? with | none => none | some a => if a.mother = -1 then none else placeOf l a.mother
def momI (l : List Animal) (i : Nat) : Int := match mom l i with | some j => (j : Int) | none => -1
structure AnimalOk (l : List Animal) (i : Nat) (a : Animal) : Prop where
  id : 0 ≤ a.id ∧ a.id ≤ 9999
  at' : placeOf l a.id = some i
  dam : a.mother = -1 ∨ ∃ j, placeOf l a.mother = some j
  born : -100000 ≤ a.born.lo ∧ a.born.lo ≤ a.born.hi ∧ a.born.hi ≤ 100000
  marks : MarksOk a.marks
/-- an animal, its mother, and so on -/
inductive Line (l : List Animal) : Nat → List Nat → Prop where
  | root {i : Nat} (h : mom l i = none) : Line l i [i]
  | step {i m : Nat} {L : List Nat} (h : mom l i = some m) (t : Line l m L) : Line l i (i :: L)
structure HerdOk (l : List Animal) : Prop where
  len : l.length ≤ 16
  each : ∀ i a, l[i]? = some a → AnimalOk l i a
  line : ∀ i, i < l.length → ∃ L, Line l i L
def lineF (l : List Animal) : Nat → Nat → List Nat
  | 0, _ => []
  | f + 1, i => i :: (match mom l i with | none => [] | some m => lineF l f m)
def lineOf (l : List Animal) (i : Nat) : List Nat := lineF l l.length i
theorem placeOf_lt {l : List Animal} {id : Int} {j : Nat} (h : placeOf l id = some j) : j < l.length := by
  unfold placeOf at h
  rw [List.findIdx?_eq_some_iff_getElem] at h
  exact h.1
theorem placeOf_get {l : List Animal} {id : Int} {j : Nat} (h : placeOf l id = some j) : ∃ a, l[j]? = some a ∧ a.id = id := by
  unfold placeOf at h
  rw [List.findIdx?_eq_some_iff_getElem] at h
  obtain ⟨h1, h2, _⟩ := h
  exact ⟨l[j], List.getElem?_eq_getElem h1, by simpa using h2⟩
theorem placeOf_none {l : List Animal} {id : Int} (h : placeOf l id = none) : ∀ a ∈ l, a.id ≠ id := by
  unfold placeOf at h
  rw [List.findIdx?_eq_none_iff] at h
  intro a ha
  simpa using h a ha
theorem mom_lt {l : List Animal} {i m : Nat} (h : mom l i = some m) : m < l.length := by
  unfold mom at h
  split at h
  · cases h
  · split at h
    · cases h
    · exact placeOf_lt h
theorem Line.len_pos {l : List Animal} {i : Nat} {L : List Nat} (h : Line l i L) : 0 < L.length := by cases h <;> simp
theorem Line.det {l : List Animal} {i : Nat} {L M : List Nat} (h : Line l i L) (k : Line l i M) : L = M := by
  induction h generalizing M with
  | root h =>
    cases k with
    | root => rfl
    | step h' => rw [h] at h'; cases h'
  | step h t ih =>
    cases k with
    | root h' => rw [h] at h'; cases h'
    | step h' t' =>
      rw [h] at h'
      cases h'
      rw [ih t']
/-- what lies on a line has a shorter line of its own -/
theorem Line.sub {l : List Animal} {i : Nat} {L : List Nat} (h : Line l i L) : ∀ x ∈ L, ∃ M, Line l x M ∧ M.length ≤ L.length ∧ (M.length = L.length → x = i) := by
  induction h with
  | root h =>
    intro x hx
    simp at hx
    subst hx
    exact ⟨_, .root h, by simp, fun _ => rfl⟩
  | @step i m L h t ih =>
    intro x hx
    rcases List.mem_cons.1 hx with rfl | hx
    · exact ⟨_, .step h t, Nat.le_refl _, fun _ => rfl⟩
    · obtain ⟨M, h1, h2, h3⟩ := ih x hx
      exact ⟨M, h1, by simp; omega, fun e => by simp at e; omega⟩
theorem Line.nodup {l : List Animal} {i : Nat} {L : List Nat} (h : Line l i L) : L.Nodup := by
  induction h with
  | root h => simp
  | @step i m L h t ih =>
    refine List.nodup_cons.2 ⟨fun hx => ?_, ih⟩
    obtain ⟨M, h1, h2, _⟩ := t.sub i hx
    have e := h1.det (.step h t)
    rw [e] at h2
    simp at h2
    omega
theorem Line.lt {l : List Animal} {i : Nat} {L : List Nat} (h : Line l i L) (hi : i < l.length) : ∀ x ∈ L, x < l.length := by
  induction h with
  | root h => intro x hx; simp at hx; omega
  | @step i m L h t ih =>
    intro x hx
    rcases List.mem_cons.1 hx with rfl | hx
    · exact hi
    · exact ih (mom_lt h) x hx
theorem nodup_len : ∀ (n : Nat) (L : List Nat), L.Nodup → (∀ x ∈ L, x < n) → L.length ≤ n
  | 0, L, _, h => by
    cases L with
    | nil => simp
    | cons x r => exact absurd (h x (by simp)) (by omega)
  | n + 1, L, hd, h => by
    have ih := nodup_len n (L.erase n) (hd.erase n) fun x hx => by
      have h1 := h x (List.mem_of_mem_erase hx)
      have h2 : x ≠ n := fun e => by
        subst e
        exact absurd hx (List.Nodup.not_mem_erase hd)
      omega
    have := List.length_erase (a := n) (l := L)
    split at this <;> omega
theorem Line.len {l : List Animal} {i : Nat} {L : List Nat} (h : Line l i L) (hi : i < l.length) : L.length ≤ l.length := nodup_len _ _ h.nodup (h.lt hi)
theorem lineF_is {l : List Animal} {i : Nat} {L : List Nat} (h : Line l i L) : ∀ f, L.length ≤ f → lineF l f i = L := by
  induction h with
  | @root i h =>
    intro f hf
    cases f with
    | zero => simp at hf
    | succ f => simp [lineF, h]
  | @step i m L h t ih =>
    intro f hf
    cases f with
    | zero => simp at hf
    | succ f =>
      simp only [lineF, h]
      rw [ih f (by simp at hf; omega)]
theorem HerdOk.lineIs {l : List Animal} (h : HerdOk l) {i : Nat} (hi : i < l.length) : Line l i (lineOf l i) := by
  obtain ⟨L, hL⟩ := h.line i hi
  unfold lineOf
  rw [lineF_is hL _ (hL.len hi)]
  exact hL
/-- how two animals are kin: up from the one, down to the other one, and the error -/
def kinF (theirs : List Nat) : List Nat → Nat → Int × Int × Int
  | [], _ => (0, 0, 6)
  | x :: r, up => match theirs.findIdx? (· == x) with | some d => ((up : Int), (d : Int), 0) | none => kinF theirs r (up + 1)
def kinOf (l : List Animal) (i j : Nat) : Int × Int × Int := kinF (lineOf l j) (lineOf l i) 0
theorem kin_from {T : List Nat} : ∀ {L : List Nat} {k : Nat}, (kinF T L k).2.2 = 0 → (kinF T L k).2.1 = 0 → ∃ x ∈ L, T[0]? = some x
  | [], k, h, _ => by simp [kinF] at h
  | x :: r, k, h, h0 => by
    unfold kinF at h h0
    cases e : T.findIdx? (· == x) with
    | none =>
      rw [e] at h h0
      obtain ⟨y, hy, ht⟩ := kin_from h h0
      exact ⟨y, List.mem_cons_of_mem _ hy, ht⟩
    | some d =>
      rw [e] at h0
      simp only at h0
      have hd : d = 0 := by omega
      subst hd
      rw [List.findIdx?_eq_some_iff_getElem] at e
      obtain ⟨h1, h2, _⟩ := e
      exact ⟨x, by simp, by rw [List.getElem?_eq_getElem h1]; simp at h2; rw [h2]⟩
theorem kin_none {T : List Nat} : ∀ {L : List Nat} {k : Nat}, (kinF T L k).2.2 = 6 → ∀ x ∈ L, x ∉ T
  | [], k, _ => by simp
  | x :: r, k, h => by
    unfold kinF at h
    cases e : T.findIdx? (· == x) with
    | none =>
      rw [e] at h
      rw [List.findIdx?_eq_none_iff] at e
      intro y hy
      rcases List.mem_cons.1 hy with rfl | hy
      · intro hT
        have := e _ hT
        simp at this
      · exact kin_none h y hy
    | some d =>
      rw [e] at h
      simp at h
end Go.Proofs.YtcoelhpmkhimpaaGreatDoor

namespace Go.Proofs.YtcoelhpmkhimpaaGreatDoor
set_option linter.unusedVariables false
structure Meet where
  a : Int
  b : Int
  day : Int
  close : Bool
  deriving DecidableEq
/-- put behind all that are not later (the list is turned round: the latest one first) -/
def insRev : List Meet → Meet → List Meet
  | [], m => [m]
  | x :: r, m => if m.day < x.day then x :: insRev r m else m :: x :: r
def sortRev (l : List Meet) : List Meet := l.foldl insRev []
def sortM (l : List Meet) : List Meet := (sortRev l).reverse
def closeM (l : List Meet) : List Meet := l.filter (·.close)
def getI (s : List Int) (p : Int) : Int := s.getD p.toNat 0
def passOn (wait p q day : Int) (s : List Int) : List Int := if getI s p ≤ day then s.set q.toNat (min (getI s q) (day + wait)) else s
def spreadL (wait last : Int) : List Meet → List Int → List Int
  | [], s => s
  | m :: r, s => if last < m.day then s else spreadL wait last r (passOn wait m.b m.a m.day (passOn wait m.a m.b m.day s))
def sickAt (n : Nat) (first : List Int) : List Int := first.foldl (fun s i => s.set i.toNat 0) (List.replicate n 100061)
def spreadOf (n : Nat) (first : List Int) (l : List Meet) (wait last : Int) : List Int := spreadL wait last l (sickAt n first)
def knownAt (early late : List Int) (day : Int) (i : Nat) : Int := if late.getD i 0 ≤ day then 2 else if early.getD i 0 ≤ day then 1 else 0
def mangeOf (n : Nat) (first : List Int) (l : List Meet) (wait : Span) (day : Int) : List Int :=
  (List.range n).map (knownAt (spreadOf n first (sortM l) wait.lo day) (spreadOf n first (closeM (sortM l)) wait.hi day) day)
structure MeetOk (n : Nat) (m : Meet) : Prop where
  a : 0 ≤ m.a ∧ m.a < n
  b : 0 ≤ m.b ∧ m.b < n
  ne : m.a ≠ m.b
  day : 0 ≤ m.day ∧ m.day ≤ 100000
theorem insRev_mem {l : List Meet} {m x : Meet} : x ∈ insRev l m ↔ x = m ∨ x ∈ l := by
  induction l with
  | nil => simp [insRev]
  | cons y r ih =>
    unfold insRev
    split
    · simp only [List.mem_cons, ih]
      constructor
      · rintro (h | h | h) <;> simp [h]
      · rintro (h | h | h) <;> simp [h]
    · simp only [List.mem_cons]
theorem insRev_len (l : List Meet) (m : Meet) : (insRev l m).length = l.length + 1 := by
  induction l with
  | nil => rfl
  | cons y r ih =>
    unfold insRev
    split
    · simp [ih]
    · rfl
/-- the latest one first -/
def Falls : List Meet → Prop := List.Pairwise fun x y => y.day ≤ x.day
theorem insRev_falls {l : List Meet} {m : Meet} (h : Falls l) : Falls (insRev l m) := by
  induction l with
  | nil => exact List.pairwise_singleton _ _
  | cons y r ih =>
    have h' := List.pairwise_cons.1 h
    unfold insRev
    split
    · rename_i hlt
      refine List.pairwise_cons.2 ⟨fun x hx => ?_, ih h'.2⟩
      rcases insRev_mem.1 hx with rfl | hx
      · omega
      · exact h'.1 x hx
    · rename_i hlt
      refine List.pairwise_cons.2 ⟨fun x hx => ?_, h⟩
      rcases List.mem_cons.1 hx with rfl | hx
      · omega
      · have := h'.1 x hx
        omega
theorem foldIns : ∀ (l acc : List Meet), Falls acc → Falls (l.foldl insRev acc) ∧ (∀ x, x ∈ l.foldl insRev acc ↔ x ∈ acc ∨ x ∈ l) ∧ (l.foldl insRev acc).length = acc.length + l.length
  | [], acc, h => ⟨h, by simp, by simp⟩
  | m :: r, acc, h => by
    obtain ⟨h1, h2, h3⟩ := foldIns r (insRev acc m) (insRev_falls h)
    refine ⟨h1, fun x => ?_, ?_⟩
    · rw [List.foldl_cons, h2 x, insRev_mem, List.mem_cons]
      constructor
      · rintro ((h | h) | h) <;> simp [h]
      · rintro (h | h | h) <;> simp [h]
    · rw [List.foldl_cons, h3, insRev_len, List.length_cons]
      omega
theorem sortM_mem {l : List Meet} {x : Meet} : x ∈ sortM l ↔ x ∈ l := by
  unfold sortM sortRev
  rw [List.mem_reverse, (foldIns l [] List.Pairwise.nil).2.1 x]
  simp
theorem sortM_len (l : List Meet) : (sortM l).length = l.length := by
  unfold sortM sortRev
  rw [List.length_reverse, (foldIns l [] List.Pairwise.nil).2.2]
  simp
def Rises : List Meet → Prop := List.Pairwise fun x y => x.day ≤ y.day
theorem sortM_rises (l : List Meet) : Rises (sortM l) := by
  unfold sortM sortRev Rises
  rw [List.pairwise_reverse]
  exact (foldIns l [] List.Pairwise.nil).1
theorem passOn_len (wait p q day : Int) (s : List Int) : (passOn wait p q day s).length = s.length := by
  unfold passOn
  split <;> simp
theorem spreadL_len (wait last : Int) : ∀ (l : List Meet) (s : List Int), (spreadL wait last l s).length = s.length
  | [], s => rfl
  | m :: r, s => by
    unfold spreadL
    split
    · rfl
    · rw [spreadL_len wait last r, passOn_len, passOn_len]
theorem foldSet_len : ∀ (first : List Int) (s : List Int), (first.foldl (fun s i => s.set i.toNat 0) s).length = s.length
  | [], s => rfl
  | i :: r, s => by rw [List.foldl_cons, foldSet_len r]; simp
theorem sickAt_len (n : Nat) (first : List Int) : (sickAt n first).length = n := by
  unfold sickAt
  rw [foldSet_len]
  simp
end Go.Proofs.YtcoelhpmkhimpaaGreatDoor

namespace Go.Proofs.YtcoelhpmkhimpaaGreatDoor
open Go.RowKit
set_option linter.unusedVariables false
def zmark : Mark := ⟨0, 0⟩
def zmeet : Meet := ⟨0, 0, 0, false⟩
def Mark.cells (s : Mark) : List Value := [.int .i64 s.spot, .int .i64 s.sign]
def Mark.val (s : Mark) : Value := .agg #[.int .i64 s.spot, .int .i64 s.sign]
theorem Mark.val_eq (s : Mark) : s.val = .agg s.cells.toArray := rfl
def MarksAt (w : World) (a : Option Addr) (n : Nat) (l : List Mark) : Prop := l.length = n ∧ SlAt w 2 a n fun i => (l.getD i zmark).cells
theorem MarksAt.ext {w w' : World} {a : Option Addr} {n : Nat} {l : List Mark} (h : MarksAt w a n l) (e : Ext w w') : MarksAt w' a n l := ⟨h.1, h.2.ext e⟩
theorem MarksAt.same {w w' : World} {a : Option Addr} {n : Nat} {l : List Mark} (h : MarksAt w a n l) (hb : ∀ x, a = some x → w'.heap[x.block]? = w.heap[x.block]?) : MarksAt w' a n l := ⟨h.1, h.2.same hb⟩
theorem MarksAt.get {w : World} {a : Option Addr} {n : Nat} {l : List Mark} (h : MarksAt w a n l) (k : Nat) (hk : k < n) :
    ∃ b off x, a = some ⟨b, off, none⟩ ∧ l[k]? = some x ∧ b < w.heap.size ∧ w.cell? ⟨b, off + k * 2, none⟩ = some (.int .i64 x.spot) ∧ w.cell? ⟨b, off + k * 2 + 1, none⟩ = some (.int .i64 x.sign) := by
  obtain ⟨hl, h⟩ := h
  obtain ⟨b, off, ha, hc⟩ := h (by omega)
  have h0 := hc k hk 0 _ rfl
  simp only [Nat.add_zero] at h0
  exact ⟨b, off, _, ha, by simp [List.getD, hl, hk], block_lt_of_cell h0, h0, hc k hk 1 _ rfl⟩
def Meet.cells (s : Meet) : List Value := [.int .i64 s.a, .int .i64 s.b, .int .i64 s.day, .bool s.close]
def Meet.val (s : Meet) : Value := .agg #[.int .i64 s.a, .int .i64 s.b, .int .i64 s.day, .bool s.close]
theorem Meet.val_eq (s : Meet) : s.val = .agg s.cells.toArray := rfl
def MeetsAt (w : World) (a : Option Addr) (n : Nat) (l : List Meet) : Prop := l.length = n ∧ SlAt w 4 a n fun i => (l.getD i zmeet).cells
theorem MeetsAt.ext {w w' : World} {a : Option Addr} {n : Nat} {l : List Meet} (h : MeetsAt w a n l) (e : Ext w w') : MeetsAt w' a n l := ⟨h.1, h.2.ext e⟩
theorem MeetsAt.same {w w' : World} {a : Option Addr} {n : Nat} {l : List Meet} (h : MeetsAt w a n l) (hb : ∀ x, a = some x → w'.heap[x.block]? = w.heap[x.block]?) : MeetsAt w' a n l := ⟨h.1, h.2.same hb⟩
theorem MeetsAt.get {w : World} {a : Option Addr} {n : Nat} {l : List Meet} (h : MeetsAt w a n l) (k : Nat) (hk : k < n) :
    ∃ b off x, a = some ⟨b, off, none⟩ ∧ l[k]? = some x ∧ b < w.heap.size ∧ w.cell? ⟨b, off + k * 4, none⟩ = some (.int .i64 x.a) ∧ w.cell? ⟨b, off + k * 4 + 1, none⟩ = some (.int .i64 x.b) ∧ w.cell? ⟨b, off + k * 4 + 2, none⟩ = some (.int .i64 x.day) ∧ w.cell? ⟨b, off + k * 4 + 3, none⟩ = some (.bool x.close) := by
  obtain ⟨hl, h⟩ := h
  obtain ⟨b, off, ha, hc⟩ := h (by omega)
  have h0 := hc k hk 0 _ rfl
  simp only [Nat.add_zero] at h0
  exact ⟨b, off, _, ha, by simp [List.getD, hl, hk], block_lt_of_cell h0, h0, hc k hk 1 _ rfl, hc k hk 2 _ rfl, hc k hk 3 _ rfl⟩
/-- a slice of animals: each one holds a slice of marks -/
def AnimalsAt (w : World) (a : Option Addr) (n : Nat) (l : List Animal) : Prop :=
  l.length = n ∧ (0 < n → ∃ b off, a = some ⟨b, off, none⟩ ∧ ∀ k f, l[k]? = some f → ∃ ka kn kc, Cells w b (off + k * 5) [.int .i64 f.id, .int .i64 f.mother, .int .i64 f.born.lo, .int .i64 f.born.hi, .slice ka kn kc] ∧ kn ≤ kc ∧ kc ≤ maxLen ∧ MarksAt w ka kn f.marks)
theorem AnimalsAt.ext {w w' : World} {a : Option Addr} {n : Nat} {l : List Animal} (h : AnimalsAt w a n l) (e : Ext w w') : AnimalsAt w' a n l :=
  ⟨h.1, fun hn => let ⟨b, off, ha, hc⟩ := h.2 hn; ⟨b, off, ha, fun k f hf => let ⟨ka, kn, kc, h1, h2, h3, h4⟩ := hc k f hf; ⟨ka, kn, kc, h1.ext e, h2, h3, h4.ext e⟩⟩⟩
theorem AnimalsAt.get {w : World} {a : Option Addr} {n : Nat} {l : List Animal} (h : AnimalsAt w a n l) (k : Nat) (hk : k < n) :
    ∃ b off x ka kn kc, a = some ⟨b, off, none⟩ ∧ l[k]? = some x ∧ b < w.heap.size ∧ w.cell? ⟨b, off + k * 5, none⟩ = some (.int .i64 x.id) ∧ w.cell? ⟨b, off + k * 5 + 1, none⟩ = some (.int .i64 x.mother) ∧ w.cell? ⟨b, off + k * 5 + 2, none⟩ = some (.int .i64 x.born.lo) ∧ w.cell? ⟨b, off + k * 5 + 3, none⟩ = some (.int .i64 x.born.hi)
      ∧ w.cell? ⟨b, off + k * 5 + 4, none⟩ = some (.slice ka kn kc) ∧ kn ≤ kc ∧ kc ≤ maxLen ∧ MarksAt w ka kn x.marks := by
  obtain ⟨hl, h⟩ := h
  obtain ⟨b, off, ha, hc⟩ := h (by omega)
  obtain ⟨x, hx⟩ : ∃ x, l[k]? = some x := ⟨l[k], by simp⟩
  obtain ⟨ka, kn, kc, h1, h2, h3, h4⟩ := hc k x hx
  have h0 := h1 0 _ rfl
  simp only [Nat.add_zero] at h0
  exact ⟨b, off, x, ka, kn, kc, ha, hx, block_lt_of_cell h0, h0, h1 1 _ rfl, h1 2 _ rfl, h1 3 _ rfl, h1 4 _ rfl, h2, h3, h4⟩
end Go.Proofs.YtcoelhpmkhimpaaGreatDoor

namespace Go.Proofs.YtcoelhpmkhimpaaGreatDoor
open Go.RowKit
set_option linter.unusedVariables false
set_option linter.unusedSimpArgs false
def meetRows (l : List Meet) : List (List Value) := l.map Meet.cells
theorem meetRows_len (l : List Meet) : (meetRows l).length = l.length := by simp [meetRows]
theorem meetRows_get {l : List Meet} {k : Nat} {m : Meet} (h : l[k]? = some m) : (meetRows l)[k]? = some m.cells := by simp [meetRows, h]
theorem meetRows_set (l : List Meet) (k : Nat) (m : Meet) : (meetRows l).set k m.cells = meetRows (l.set k m) := by simp [meetRows, List.map_set]
theorem RowBlock.set4 {w : World} {b : Nat} {t : TypeId} {l : List Meet} (h : RowBlock w b t 4 (meetRows l)) {k : Nat} (hk : k < l.length) (m : Meet) :
    RowBlock ((((w.setCell ⟨b, k * 4, none⟩ (.int .i64 m.a)).setCell ⟨b, k * 4 + 1, none⟩ (.int .i64 m.b)).setCell ⟨b, k * 4 + 2, none⟩ (.int .i64 m.day)).setCell ⟨b, k * 4 + 3, none⟩ (.bool m.close)) b t 4 (meetRows (l.set k m)) := by
  have hk' : k < (meetRows l).length := by rw [meetRows_len]; exact hk
  have e0 := meetRows_get (List.getElem?_eq_getElem hk)
  have h1 := h.set (k := k) (j := 0) e0 (by omega) (.int .i64 m.a)
  have h2 := h1.set (k := k) (j := 1) (List.getElem?_set_self hk') (by omega) (.int .i64 m.b)
  have h3 := h2.set (k := k) (j := 2) (List.getElem?_set_self (by simpa using hk')) (by omega) (.int .i64 m.day)
  have h4 := h3.set (k := k) (j := 3) (List.getElem?_set_self (by simpa using hk')) (by omega) (.bool m.close)
  simp only [List.set_set, Nat.add_zero] at h4
  rw [show (List.set (List.set (List.set (List.set l[k].cells 0 (.int .i64 m.a)) 1 (.int .i64 m.b)) 2 (.int .i64 m.day)) 3 (.bool m.close)) = m.cells from rfl, meetRows_set] at h4
  exact h4
def cmp3 (a b : Int) : Int := if a < b then -1 else if b < a then 1 else 0
theorem isNaN_any (x : Int) (w : World) : Calls Tryz.prog 135 #[.int .i64 x] w fun e w' => e = .returned (.bool false) ∧ w' = w := by
  have h : (x != x) = false := by simp
  go_enter Tryz.func135, Tryz.ntmps135
  go_wp2_with fail
  go_ret
  exact ⟨rfl, rfl⟩
theorem compare_any (a b : Int) (w : World) : Calls Tryz.prog 117 #[.int .i64 a, .int .i64 b] w fun e w' => e = .returned (.int .i64 (cmp3 a b)) ∧ w' = w := by
  have hn := isNaN_any
  unfold cmp3
  by_cases h1 : a < b
  · have b1 : decide (a < b) = true := decide_eq_true h1
    rw [if_pos h1]
    clear h1
    go_enter Tryz.func117, Tryz.ntmps117
    go_wp2_with (go_at_call 135; refine (hn _ _).mono ?_; rintro e v ⟨rfl, rfl⟩)
    go_ret
    exact ⟨rfl, rfl⟩
  · have b1 : decide (a < b) = false := decide_eq_false h1
    rw [if_neg h1]
    by_cases h2 : b < a
    · have b2 : decide (b < a) = true := decide_eq_true h2
      rw [if_pos h2]
      clear h1 h2
      go_enter Tryz.func117, Tryz.ntmps117
      go_wp2_with (go_at_call 135; refine (hn _ _).mono ?_; rintro e v ⟨rfl, rfl⟩)
      go_ret
      exact ⟨rfl, rfl⟩
    · have b2 : decide (b < a) = false := decide_eq_false h2
      rw [if_neg h2]
      clear h1 h2
      go_enter Tryz.func117, Tryz.ntmps117
      go_wp2_with (go_at_call 135; refine (hn _ _).mono ?_; rintro e v ⟨rfl, rfl⟩)
      go_ret
      exact ⟨rfl, rfl⟩
theorem cmpDay_any (m n : Meet) (w : World) : Calls Tryz.prog 116 #[m.val, n.val] w fun e w' => e = .returned (.int .i64 (cmp3 m.day n.day)) ∧ Ext w w' := by
  obtain ⟨a, b, d, c⟩ := m
  obtain ⟨a', b', d', c'⟩ := n
  have hc := compare_any
  unfold Meet.val
  simp only
  have Hc := Lib.hid hc
  clear hc
  go_enter Tryz.func116, Tryz.ntmps116
  go_wp2_with (go_at_call 117; refine (Hc.out _ _ _).mono ?_; rintro e v ⟨rfl, rfl⟩)
  go_ret
  exact ⟨rfl, ((Ext.refl _).alloc _).alloc _⟩
/-- the numbers, where m is put into the sorted ones -/
structure InsSt (L : List Meet) (k : Nat) (m : Meet) (Rr S : List Meet) : Prop where
  all : insRev (sortRev (L.take k)) m = S.reverse ++ insRev Rr m
  len : (sortRev (L.take k)).length = S.length + Rr.length
def insData (L : List Meet) (k : Nat) (m : Meet) (Rr S : List Meet) : List Meet := Rr.reverse ++ m :: (S ++ L.drop (k + 1))
def outData (L : List Meet) (k : Nat) : List Meet := sortM (L.take k) ++ L.drop k
theorem sortRev_len (l : List Meet) : (sortRev l).length = l.length := by
  have := sortM_len l
  unfold sortM at this
  simpa using this
theorem sortRev_snoc {L : List Meet} {k : Nat} {m : Meet} (h : L[k]? = some m) : sortRev (L.take (k + 1)) = insRev (sortRev (L.take k)) m := by
  unfold sortRev
  rw [List.take_add_one, h, Option.toList_some, List.foldl_append]
  rfl
theorem ins_start {L : List Meet} {k : Nat} {m : Meet} (h : L[k]? = some m) : InsSt L k m (sortRev (L.take k)) [] ∧ insData L k m (sortRev (L.take k)) [] = outData L k := by
  have hk := (List.getElem?_eq_some_iff.1 h).1
  refine ⟨⟨rfl, by simp⟩, ?_⟩
  unfold insData outData sortM
  rw [List.nil_append, List.drop_eq_getElem_cons hk]
  have := List.getElem?_eq_getElem hk
  rw [h] at this
  rw [Option.some.inj this]
theorem ins_stop {L : List Meet} {k : Nat} {m : Meet} {Rr S : List Meet} (h : L[k]? = some m) (st : InsSt L k m Rr S) (he : ∀ x r, Rr = x :: r → ¬m.day < x.day) : insData L k m Rr S = outData L (k + 1) := by
  have hi : insRev Rr m = m :: Rr := by
    cases Rr with
    | nil => rfl
    | cons x r =>
      unfold insRev
      rw [if_neg (he x r rfl)]
  unfold insData outData sortM
  rw [sortRev_snoc h, st.all, hi]
  simp
theorem ins_swap {L : List Meet} {k : Nat} {m x : Meet} {Rr S : List Meet} (st : InsSt L k m (x :: Rr) S) (he : m.day < x.day) :
    InsSt L k m Rr (x :: S) ∧ ((insData L k m (x :: Rr) S).set (Rr.length + 1) x).set Rr.length m = insData L k m Rr (x :: S) := by
  refine ⟨⟨?_, ?_⟩, ?_⟩
  · rw [st.all]
    simp only [insRev, if_pos he, List.reverse_cons, List.append_assoc, List.singleton_append]
  · have := st.len
    simp at this ⊢
    omega
  · unfold insData
    simp only [List.reverse_cons, List.append_assoc, List.singleton_append]
    rw [List.set_append_right (s := Rr.reverse) _ _ (by simp), List.set_append_right (s := Rr.reverse) _ _ (by simp)]
    simp
theorem ins_get {L : List Meet} {k : Nat} {m : Meet} {Rr S : List Meet} : (insData L k m Rr S)[Rr.length]? = some m := by
  unfold insData
  rw [List.getElem?_append_right (by simp)]
  simp
theorem ins_get' {L : List Meet} {k : Nat} {m x : Meet} {Rr S : List Meet} : (insData L k m (x :: Rr) S)[Rr.length]? = some x := by
  unfold insData
  simp only [List.reverse_cons, List.append_assoc, List.singleton_append]
  rw [List.getElem?_append_right (by simp)]
  simp
theorem ins_len {L : List Meet} {k : Nat} {m : Meet} {Rr S : List Meet} (h : L[k]? = some m) (st : InsSt L k m Rr S) : (insData L k m Rr S).length = L.length := by
  have hk := (List.getElem?_eq_some_iff.1 h).1
  have h1 := st.len
  rw [sortRev_len, List.length_take] at h1
  unfold insData
  simp
  omega
set_option maxRecDepth 100000 in
set_option maxHeartbeats 4000000 in
theorem insSort_any (g n cap : Nat) (L : List Meet) (w : World) (hB : RowBlock w g 145 4 (meetRows L)) (hn : L.length = n) (hn1 : 1 ≤ n) (hn2 : n ≤ 1000) (hc : n ≤ cap) :
    Calls Tryz.prog 140 #[.slice (some ⟨g, 0, none⟩) n cap, .int .i64 0, .int .i64 n, .func (.func 116) #[] #[]] w fun e w' => (∃ v, e = .returned v) ∧ RowBlock w' g 145 4 (meetRows (sortM L)) ∧ But (fun b => b = g) w w' := by
  have hcm := cmpDay_any
  have hst := fun k m (h : L[k]? = some m) => ins_start h
  have HB := Lib.hid hB
  have Hcm := Lib.hid hcm
  have Hst := Lib.hid hst
  clear hB hcm hst
  go_enter Tryz.func140, Tryz.ntmps140
  go_upto_region 1 with fail
  go_loopw [8] (fun i wr => ∃ k : Nat, i = .int .i64 k ∧ 1 ≤ k ∧ k ≤ n ∧ RowBlock wr g 145 4 (meetRows (outData L k)) ∧ But (fun b => b = g) w wr) (fun i _ => n - (intOf i).toNat)
  case atStart =>
    refine ⟨1, rfl, Nat.le_refl _, hn1, ?_, But.refl _ _⟩
    have : outData L 1 = L := by
      unfold outData
      cases L with
      | nil => simp at hn; omega
      | cons x r => rfl
    rw [this]
    exact HB.out
  case round =>
    obtain ⟨k, rfl, hk1, hkn, hB1, hbu⟩ := hrel
    by_cases hlt : k < n
    · have hltB : decide ((k : Int) < (n : Int)) = true := by simp; omega
      obtain ⟨m, hm⟩ : ∃ m, L[k]? = some m := ⟨_, List.getElem?_eq_getElem (by omega)⟩
      obtain ⟨st0, hd0⟩ := Hst.out k m hm
      rw [← hd0] at hB1
      have hl0 : (sortRev (L.take k)).length = k := by rw [sortRev_len, List.length_take]; omega
      have HB1 := Lib.hid hB1
      have Hbu := Lib.hid hbu
      have St0 := Lib.hid st0
      have Hm := Lib.hid hm
      clear hB1 hbu st0 hm
      go_upto_region 4 with fail
      go_loopw [9] (fun i W => ∃ (Rr S : List Meet), i = .int .i64 (Rr.length : Nat) ∧ InsSt L k m Rr S ∧ RowBlock W g 145 4 (meetRows (insData L k m Rr S)) ∧ But (fun b => b = g) w W) (fun i _ => (intOf i).toNat)
      case atStart => exact ⟨_, [], by rw [hl0], St0.out, HB1.out, Hbu.out⟩
      case round =>
        obtain ⟨Rr, S, rfl, st, hBr, hbr⟩ := hrel
        have hli := ins_len Hm.out st
        rw [hn] at hli
        cases Rr with
        | nil =>
          have hD := ins_stop Hm.out st (fun x r h => by cases h)
          rw [hD] at hBr
          clear st hli
          have HBr := Lib.hid hBr
          have Hbr := Lib.hid hbr
          clear hBr hbr
          rw [show (([] : List Meet).length : Int) = 0 from rfl]
          go_upto_region 4 with fail
          refine wp_region_tree (.take [0, 1, 2, 3, 4, 5, 6, 7, 8, 9, 10, 11, 12, 13] (.one 14 (.take [15, 16] .done))) (Ext wr) _ (by kernel_rfl) (by kernel_rfl) rfl ((Ext.refl _).drew) ?_
          intro ι _ f hf hs
          have HS := Lib.hid hs
          clear hf hs
          simp only [treeOf, oneOp, twoOp, opsOf, consOp, List.getElem?_toArray, List.getElem?_cons_succ, List.getElem?_cons_zero]
          refine wpOT_take ?_
          repeat (go_big_quiet_step (fail))
          refine wpQuiet_nil ?_
          refine wpOT_one ?_
          go_wp2_with fail
          refine ⟨HS.out _ (Ext.refl _).drew, ?_⟩
          refine wpOT_take ?_
          repeat (go_big_quiet_step (fail))
          refine wpQuiet_nil ?_
          refine wpOT_done ?_
          clear HS
          have hx1 : Ext wr wr.drew := (Ext.refl _).drew
          have hB2 := HBr.out.ext hx1
          have hb2 := Hbr.out.trans (hx1.but _)
          have HB2 := Lib.hid hB2
          have Hb2 := Lib.hid hb2
          clear hB2 hb2
          clear hx1
          go_wp2_with fail
          go_roundw
          case rel => exact ⟨k + 1, by go_num, by omega, by omega, HB2.out, Hb2.out⟩
          case measure => simp [intOf]; omega
        | cons x r =>
          have hlen : (x :: r).length = r.length + 1 := rfl
          have hk1 := st.len
          rw [sortRev_len, List.length_take] at hk1
          have hg1 := @ins_get L k m (x :: r) S
          have hg2 := @ins_get' L k m x r S
          rw [hlen] at hg1
          have hjn : r.length + 1 < n := by
            have := (List.getElem?_eq_some_iff.1 hg1).1
            omega
          obtain ⟨j, hj⟩ : ∃ j, r.length = j := ⟨_, rfl⟩
          rw [hj] at hg1 hg2 hjn
          have c0 := hBr.cell (k := j + 1) (j := 0) (meetRows_get hg1) rfl
          have c1 := hBr.cell (k := j + 1) (j := 1) (meetRows_get hg1) rfl
          have c2 := hBr.cell (k := j + 1) (j := 2) (meetRows_get hg1) rfl
          have c3 := hBr.cell (k := j + 1) (j := 3) (meetRows_get hg1) rfl
          have d0 := hBr.cell (k := j) (j := 0) (meetRows_get hg2) rfl
          have d1 := hBr.cell (k := j) (j := 1) (meetRows_get hg2) rfl
          have d2 := hBr.cell (k := j) (j := 2) (meetRows_get hg2) rfl
          have d3 := hBr.cell (k := j) (j := 3) (meetRows_get hg2) rfl
          simp only [Nat.add_zero] at c0 d0
          have fz := fun W (hW : Ext wr W) q => (hBr.ext hW).free q
          have hcm1 := fun W => Hcm.out m x W
          have hswap := fun h => @ins_swap L k m x r S st h
          have hstop := fun (h : ¬m.day < x.day) => ins_stop Hm.out st (fun x' r' e => by cases e; exact h)
          have hj0 : decide (0 < (j : Int) + 1) = true := decide_eq_true (by omega)
          have hj1 : decide ((j : Int) + 1 < (n : Int)) = true := by simp; omega
          have hj2 : decide ((j : Int) < (n : Int)) = true := by simp; omega
          have hj3 : (j : Int) + 1 - 1 = (j : Int) := by omega
          have hj4 : ((j : Int) + 1).toNat = j + 1 := by omega
          rw [show (((x :: r).length : Nat) : Int) = (j : Int) + 1 by rw [hlen, hj]; omega]
          have HDl := Lib.hid hli
          have HgX := Lib.hid hg2
          clear hlen hg1 hg2 hk1 hli
          obtain ⟨ma, mb, md, mc⟩ := m
          obtain ⟨xa, xb, xd, xc⟩ := x
          unfold Meet.val at hcm1
          simp only at c0 c1 c2 c3 d0 d1 d2 d3 hcm1 hswap hstop
          have HBr := Lib.hid hBr
          have Hbr := Lib.hid hbr
          have Hcm1 := Lib.hid hcm1
          have Hswap := Lib.hid hswap
          have Hstop := Lib.hid hstop
          have St := Lib.hid st
          have Fz := Lib.hid fz
          clear hBr hbr hcm1 hswap hstop st fz
          by_cases hlt2 : md < xd
          · have hcB : decide (cmp3 md xd < 0) = true := by unfold cmp3; rw [if_pos hlt2]; rfl
            obtain ⟨st2, hset⟩ := Hswap.out hlt2
            rw [hj] at hset
            clear hlt2
            go_upto_region 4 with fail
            refine wp_region_tree (.take [0, 1, 2, 3, 4, 5, 6, 7, 8, 9, 10, 11, 12, 13] (.one 14 (.take [15, 16] .done))) (Ext wr) _ (by kernel_rfl) (by kernel_rfl) rfl ((Ext.refl _).drew) ?_
            intro ι _ f hf hs
            have f0 := fun q => (hf q).cell c0
            have f1 := fun q => (hf q).cell c1
            have f2 := fun q => (hf q).cell c2
            have f3 := fun q => (hf q).cell c3
            have g0 := fun q => (hf q).cell d0
            have g1 := fun q => (hf q).cell d1
            have g2 := fun q => (hf q).cell d2
            have g3 := fun q => (hf q).cell d3
            have HS := Lib.hid hs
            clear hf hs
            simp only [treeOf, oneOp, twoOp, opsOf, consOp, List.getElem?_toArray, List.getElem?_cons_succ, List.getElem?_cons_zero]
            refine wpOT_take ?_
            repeat (go_big_quiet_step (fail))
            refine wpQuiet_nil ?_
            clear f0 f1 f2 f3 g0 g1 g2 g3
            refine wpOT_one ?_
            go_wp2_with fail
            refine (Hcm1.out _).mono ?_
            rintro e w1 ⟨rfl, hx1⟩
            go_wp2_with fail
            have hx2 := (Ext.refl wr).drew.trans hx1
            refine ⟨HS.out _ hx2, ?_⟩
            refine wpOT_take ?_
            repeat (go_big_quiet_step (fail))
            refine wpQuiet_nil ?_
            refine wpOT_done ?_
            clear HS hx1
            have c0 := hx2.cell c0
            have c1 := hx2.cell c1
            have c2 := hx2.cell c2
            have c3 := hx2.cell c3
            have d0 := hx2.cell d0
            have d1 := hx2.cell d1
            have d2 := hx2.cell d2
            have d3 := hx2.cell d3
            have hBr2 := HBr.out.ext hx2
            have hbr2 := Hbr.out.trans (hx2.but _)
            have St2 := Lib.hid st2
            have Hset := Lib.hid hset
            have HBr2 := Lib.hid hBr2
            have Hbr2 := Lib.hid hbr2
            have C0 := Lib.hid c0
            have C1 := Lib.hid c1
            have C2 := Lib.hid c2
            have C3 := Lib.hid c3
            have D0 := Lib.hid d0
            have D1 := Lib.hid d1
            have D2 := Lib.hid d2
            have D3 := Lib.hid d3
            clear st2 hset hBr2 hbr2 c0 c1 c2 c3 d0 d1 d2 d3
            clear hx2 hcB
            go_upto_region 6 with fail
            refine wp_region_plan (.take [0, 1, 5, 6, 7, 8, 9, 10, 11, 12, 13, 14] (.free [2, 3, 4] (.fin (.one 15 (.take [16] (.one 17 .done)))))) [15, 16, 17] (Ext w1) _ (by kernel_rfl) (by kernel_rfl) rfl (EC.ext w1) ((Ext.refl _).drew) ?_
            simp only [planOf, treeOf, oneOp, twoOp, opsOf, consOp, callOC, oneOC, twoOC, List.getElem?_toArray, List.getElem?_cons_succ, List.getElem?_cons_zero]
            intro ι _ f hf
            have f0 := fun q => (hf q).cell C0.out
            have f1 := fun q => (hf q).cell C1.out
            have f2 := fun q => (hf q).cell C2.out
            have f3 := fun q => (hf q).cell C3.out
            have g0 := fun q => (hf q).cell D0.out
            have g1 := fun q => (hf q).cell D1.out
            have g2 := fun q => (hf q).cell D2.out
            have g3 := fun q => (hf q).cell D3.out
            clear hf
            repeat (go_big_quiet_step (fail))
            refine wpQuiet_nil ?_
            clear f0 f1 f2 f3 g0 g1 g2 g3
            refine wpOC_free ?_
            repeat (go_big_quiet_step (fail))
            refine wpQuiet_nil ?_
            intro W3 hW3
            have hBr3 := HBr2.out.ext hW3
            have hbr3 := Hbr2.out.trans (hW3.but _)
            have z0 := hBr3.free
            have zg := hBr3.lt
            have c0 := hW3.cell C0.out
            have c1 := hW3.cell C1.out
            have c2 := hW3.cell C2.out
            have c3 := hW3.cell C3.out
            have hBr4 := hBr3.set4 (k := j + 1) (by rw [HDl.out]; exact hjn) ⟨xa, xb, xd, xc⟩
            have hg4 : ((insData L k ⟨ma, mb, md, mc⟩ (⟨xa, xb, xd, xc⟩ :: r) S).set (j + 1) ⟨xa, xb, xd, xc⟩)[j]? = some ⟨xa, xb, xd, xc⟩ := by
              rw [List.getElem?_set_ne (by omega)]
              exact HgX.out
            have e0 := hBr4.cell (k := j) (j := 0) (meetRows_get hg4) rfl
            have e1 := hBr4.cell (k := j) (j := 1) (meetRows_get hg4) rfl
            have e2 := hBr4.cell (k := j) (j := 2) (meetRows_get hg4) rfl
            have e3 := hBr4.cell (k := j) (j := 3) (meetRows_get hg4) rfl
            have z4 := hBr4.free
            simp only [Nat.add_zero] at e0
            have hBr5 := hBr4.set4 (k := j) (by rw [List.length_set, HDl.out]; omega) ⟨ma, mb, md, mc⟩
            rw [Hset.out] at hBr5
            have hbr4 := (((hbr3.trans (But.setCell (i := (j + 1) * 4) _ (.int .i64 xa) rfl)).trans (But.setCell (i := (j + 1) * 4 + 1) _ (.int .i64 xb) rfl)).trans (But.setCell (i := (j + 1) * 4 + 2) _ (.int .i64 xd) rfl)).trans (But.setCell (i := (j + 1) * 4 + 3) _ (.bool xc) rfl)
            simp only at hBr4 hBr5 e0 e1 e2 e3
            clear hW3 hBr3 hg4 hbr3
            have HBr4 := Lib.hid hBr4
            have Hbr4 := Lib.hid hbr4
            have E0 := Lib.hid e0
            have E1 := Lib.hid e1
            have E2 := Lib.hid e2
            have E3 := Lib.hid e3
            have Z4 := Lib.hid z4
            have HBr5 := Lib.hid hBr5
            clear hBr4 hbr4 e0 e1 e2 e3 z4 hBr5
            refine wpOT_one ?_
            go_wp2_with fail
            generalize (((W3.setCell ⟨g, (j + 1) * 4, none⟩ (.int .i64 xa)).setCell ⟨g, (j + 1) * 4 + 1, none⟩ (.int .i64 xb)).setCell ⟨g, (j + 1) * 4 + 2, none⟩ (.int .i64 xd)).setCell ⟨g, (j + 1) * 4 + 3, none⟩ (.bool xc) = W4 at *
            refine wpOT_take ?_
            repeat (go_big_quiet_step (fail))
            refine wpQuiet_nil ?_
            have e0 := E0.out
            have e1 := E1.out
            have e2 := E2.out
            have e3 := E3.out
            have z4 := Z4.out
            have zg4 := HBr4.out.lt
            have hbr5 := (((Hbr4.out.trans (But.setCell (i := j * 4) _ (.int .i64 ma) rfl)).trans (But.setCell (i := j * 4 + 1) _ (.int .i64 mb) rfl)).trans (But.setCell (i := j * 4 + 2) _ (.int .i64 md) rfl)).trans (But.setCell (i := j * 4 + 3) _ (.bool mc) rfl)
            have Hbr5 := Lib.hid hbr5
            clear hbr5
            refine wpOT_one ?_
            go_wp2_with fail
            refine wpOT_done ?_
            generalize (((W4.setCell ⟨g, j * 4, none⟩ (.int .i64 ma)).setCell ⟨g, j * 4 + 1, none⟩ (.int .i64 mb)).setCell ⟨g, j * 4 + 2, none⟩ (.int .i64 md)).setCell ⟨g, j * 4 + 3, none⟩ (.bool mc) = W5 at *
            clear e0 e1 e2 e3 z4
            go_wp2_with fail
            go_roundw
            case rel => exact ⟨r, _, by rw [hj], St2.out, HBr5.out, Hbr5.out⟩
            case measure => first | (simp [intOf]; done) | (simp [intOf]; omega)
          · have hcB : decide (cmp3 md xd < 0) = false := by
              unfold cmp3
              rw [if_neg hlt2]
              split <;> rfl
            have hD := Hstop.out hlt2
            clear hlt2
            go_upto_region 4 with fail
            refine wp_region_tree (.take [0, 1, 2, 3, 4, 5, 6, 7, 8, 9, 10, 11, 12, 13] (.one 14 (.take [15, 16] .done))) (Ext wr) _ (by kernel_rfl) (by kernel_rfl) rfl ((Ext.refl _).drew) ?_
            intro ι _ f hf hs
            have f0 := fun q => (hf q).cell c0
            have f1 := fun q => (hf q).cell c1
            have f2 := fun q => (hf q).cell c2
            have f3 := fun q => (hf q).cell c3
            have g0 := fun q => (hf q).cell d0
            have g1 := fun q => (hf q).cell d1
            have g2 := fun q => (hf q).cell d2
            have g3 := fun q => (hf q).cell d3
            have HS := Lib.hid hs
            clear hf hs
            simp only [treeOf, oneOp, twoOp, opsOf, consOp, List.getElem?_toArray, List.getElem?_cons_succ, List.getElem?_cons_zero]
            refine wpOT_take ?_
            repeat (go_big_quiet_step (fail))
            refine wpQuiet_nil ?_
            clear f0 f1 f2 f3 g0 g1 g2 g3
            refine wpOT_one ?_
            go_wp2_with fail
            refine (Hcm1.out _).mono ?_
            rintro e w1 ⟨rfl, hx1⟩
            go_wp2_with fail
            have hx2 := (Ext.refl wr).drew.trans hx1
            refine ⟨HS.out _ hx2, ?_⟩
            refine wpOT_take ?_
            repeat (go_big_quiet_step (fail))
            refine wpQuiet_nil ?_
            refine wpOT_done ?_
            clear HS hx1
            have hB2 := HBr.out.ext hx2
            rw [hD] at hB2
            have hb2 := Hbr.out.trans (hx2.but _)
            have HB2 := Lib.hid hB2
            have Hb2 := Lib.hid hb2
            clear hB2 hb2
            clear hx2 hD
            go_wp2_with fail
            go_roundw
            case rel => exact ⟨k + 1, by go_num, by omega, by omega, HB2.out, Hb2.out⟩
            case measure => simp [intOf]; omega
    · have hltB : decide ((k : Int) < (n : Int)) = false := by simp; omega
      have hfin : outData L k = sortM L := by
        unfold outData
        rw [List.take_of_length_le (by omega), List.drop_of_length_le (by omega), List.append_nil]
      rw [hfin] at hB1
      have HB1 := Lib.hid hB1
      have Hbu := Lib.hid hbu
      clear hB1 hbu
      go_wp2_with fail
      go_end0
      exact ⟨⟨_, rfl⟩, HB1.out, Hbu.out⟩
end Go.Proofs.YtcoelhpmkhimpaaGreatDoor

namespace Go.Proofs.YtcoelhpmkhimpaaGreatDoor
open Go.RowKit
set_option linter.unusedVariables false
set_option linter.unusedSimpArgs false

def keyIs (p : Int) (e : MapEntry) : Bool := match e.key with | .int .i64 q => p == q | _ => false
def IntKeys (es : List MapEntry) : Prop := ∀ e ∈ es, ∃ q, e.key = .int .i64 q
/-- block b is a map with int keys that gives F p at p -/
def OMapIs (w : World) (b : Nat) (F : Int → Option Value) : Prop :=
  ∃ es clock, w.heap[b]? = some (.map es clock) ∧ IntKeys es.toList ∧ ∀ p, F p = (es.toList.find? (keyIs p)).map (·.val)
theorem OMapIs.ext {w w' : World} {b : Nat} {F : Int → Option Value} (h : OMapIs w b F) (e : Ext w w') : OMapIs w' b F :=
  let ⟨es, c, h1, h2⟩ := h; ⟨es, c, e.heap h1, h2⟩
theorem OMapIs.lt {w : World} {b : Nat} {F : Int → Option Value} (h : OMapIs w b F) : b < w.heap.size :=
  let ⟨_, _, h1, _⟩ := h; (Array.getElem?_eq_some_iff.1 h1).1
theorem OMapIs.same {w w' : World} {b : Nat} {F : Int → Option Value} (h : OMapIs w b F) (e : w'.heap[b]? = w.heap[b]?) : OMapIs w' b F :=
  let ⟨es, c, h1, h2⟩ := h; ⟨es, c, e.trans h1, h2⟩
theorem OMapIs.made (w : World) : OMapIs (w.alloc (.map #[] 0)) w.heap.size (fun _ => none) :=
  ⟨#[], 0, heap_alloc_new w _, by simp [IntKeys], fun p => rfl⟩

theorem findNow_int (p : Int) : ∀ (es : List MapEntry) (i : Nat), IntKeys es → Instr.findNow (.int .i64) (.int .i64 p) es i = some ((es.findIdx? (keyIs p)).bind fun j => (es[j]?).map fun e => (i + j, e.val))
  | [], i, _ => by simp [Instr.findNow]
  | e :: es, i, h => by
    obtain ⟨q, hq⟩ := h e (by simp)
    have ih := findNow_int p es (i + 1) (fun x hx => h x (by simp [hx]))
    unfold Instr.findNow
    simp only [Instr.sameNow, hq, if_true]
    by_cases hpq : p = q
    · subst hpq
      have : keyIs p e = true := by simp [keyIs, hq]
      simp [List.findIdx?_cons, this]
    · have hb : (p == q) = false := by simp [hpq]
      have : keyIs p e = false := by simp [keyIs, hq, hpq]
      simp only [hb, ih, List.findIdx?_cons, this]
      cases hf : es.findIdx? (keyIs p) with
      | none => simp
      | some j =>
        simp only [Option.bind_some, Option.map_some, Bool.false_eq_true, if_false, List.getElem?_cons_succ]
        cases es[j]? <;> simp
        omega

theorem find_of_findIdx {α : Type} (p : α → Bool) (l : List α) : l.find? p = (l.findIdx? p).bind fun j => l[j]? := by
  induction l with
  | nil => simp
  | cons x l ih =>
    rw [List.find?_cons, List.findIdx?_cons]
    cases h : p x with
    | true => simp
    | false =>
      simp only [Bool.false_eq_true, if_false, ih]
      cases l.findIdx? p <;> simp

section
variable {P : Program} {t K E : TypeId}
theorem run_lookup_int {w : World} {b : Nat} {F : Int → Option Value} {z : Value} (h : OMapIs w b F) (ht : P.underlying t = some (.map K E)) (hK : P.underlying K = some (.int .i64)) (hz : (zeroValue E).run P w = .ok z w) (p : Int) :
    (Instr.lookup t (.map (some b)) (.int .i64 p) true).run P w = .ok (.tuple #[(F p).getD z, .bool (F p).isSome]) w ∧ (Instr.lookup t (.map (some b)) (.int .i64 p) false).run P w = .ok ((F p).getD z) w := by
  obtain ⟨es, clock, hb, hk, hF⟩ := h
  have hfind := findNow_int p es.toList 0 hk
  have hget : (getObj b).run P w = .ok (.map es clock) w := by simp [getObj, Sem.run, hb]
  have hck : (Instr.checkKey es.isEmpty 10000 K (.int .i64 p)).run P w = .ok () w := by
    rw [show (10000 : Nat) = 9999 + 1 from rfl]
    unfold Instr.checkKey
    simp [Sem.run_bind, run_underlying hK]
  have hfk : (Instr.findKey K (.int .i64 p) es.toList).run P w = .ok ((es.toList.findIdx? (keyIs p)).bind fun j => (es.toList[j]?).map fun e => (0 + j, e.val)) w := by
    unfold Instr.findKey
    simp only [Sem.run_bind, run_underlying hK, Result.andThen_ok, hfind, Sem.run_pure]
  unfold Instr.lookup
  simp only [Sem.run_bind, run_underlying ht, Result.andThen_ok, hget, Sem.run_pure, hck, hfk]
  rw [hF p, find_of_findIdx]
  cases hi : es.toList.findIdx? (keyIs p) with
  | none => simp [hz, Sem.run_bind]
  | some j =>
    simp only [Option.bind_some]
    cases es.toList[j]? <;> simp [hz, Sem.run_bind]

theorem keyIs_key {p : Int} {e : MapEntry} (h : keyIs p e = true) : e.key = .int .i64 p := by
  unfold keyIs at h
  split at h
  · rename_i q hq
    rw [hq]
    have := beq_iff_eq.1 h
    rw [this]
  · cases h

theorem find_modify (p : Int) (v : Value) : ∀ (l : List MapEntry) (j : Nat), l.findIdx? (keyIs p) = some j → ∀ q, ((l.modify j fun e => { e with key := .int .i64 p, val := v }).find? (keyIs q)).map (·.val) = if q = p then some v else (l.find? (keyIs q)).map (·.val)
  | [], j, h, q => by simp at h
  | e :: l, j, h, q => by
    rw [List.findIdx?_cons] at h
    cases hp : keyIs p e with
    | true =>
      rw [hp] at h
      simp only [if_true, Option.some.injEq] at h
      subst h
      rw [List.modify_zero_cons, List.find?_cons]
      by_cases hq : q = p
      · subst hq; simp [keyIs]
      · have h1 : keyIs q { e with key := .int .i64 p, val := v } = false := by simp [keyIs, hq]
        have h2 : keyIs q e = false := by have := keyIs_key hp; simp [keyIs, this, hq]
        rw [h1, if_neg hq, List.find?_cons, h2]
    | false =>
      rw [hp] at h
      simp only [Bool.false_eq_true, if_false] at h
      cases hf : l.findIdx? (keyIs p) with
      | none => rw [hf] at h; cases h
      | some i =>
        rw [hf] at h
        simp only [Option.map_some, Option.some.injEq] at h
        subst h
        rw [List.modify_succ_cons, List.find?_cons, List.find?_cons]
        have ih := find_modify p v l i hf q
        cases hq : keyIs q e with
        | true =>
          have : q ≠ p := by intro e1; subst e1; rw [hp] at hq; cases hq
          simp [this]
        | false => simpa using ih

theorem intKeys_modify (p : Int) (v : Value) : ∀ (l : List MapEntry) (j : Nat), IntKeys l → IntKeys (l.modify j fun e => { e with key := .int .i64 p, val := v })
  | [], j, h => by cases j <;> simp [IntKeys]
  | e :: l, 0, h => by
    rw [List.modify_zero_cons]
    intro x hx
    rcases List.mem_cons.1 hx with rfl | hx
    · exact ⟨p, rfl⟩
    · exact h x (List.mem_cons_of_mem _ hx)
  | e :: l, j + 1, h => by
    rw [List.modify_succ_cons]
    intro x hx
    rcases List.mem_cons.1 hx with rfl | hx
    · exact h _ (List.mem_cons_self ..)
    · exact intKeys_modify p v l j (fun y hy => h y (List.mem_cons_of_mem _ hy)) x hx

theorem run_mapUpdate_int {w : World} {b : Nat} {F : Int → Option Value} (h : OMapIs w b F) (ht : P.underlying t = some (.map K E)) (hK : P.underlying K = some (.int .i64)) (p : Int) (v : Value) :
    ∃ w', (Instr.mapUpdate t (.map (some b)) (.int .i64 p) v).run P w = .ok () w' ∧ OMapIs w' b (fun q => if q = p then some v else F q) ∧ w.grownBy w' (some b) := by
  obtain ⟨es, clock, hb, hk, hF⟩ := h
  have hblt : b < w.heap.size := (Array.getElem?_eq_some_iff.1 hb).1
  have hfind := findNow_int p es.toList 0 hk
  have hget : (getObj b).run P w = .ok (.map es clock) w := by simp [getObj, Sem.run, hb]
  have hset : ∀ o, (setObj b o).run P w = .ok () { w with heap := w.heap.setIfInBounds b o } := by intro o; simp [setObj, Sem.run, hb]
  have hck : (Instr.checkKey false 10000 K (.int .i64 p)).run P w = .ok () w := by
    rw [show (10000 : Nat) = 9999 + 1 from rfl]
    unfold Instr.checkKey
    simp [Sem.run_bind, run_underlying hK]
  have hfk : (Instr.findKey K (.int .i64 p) es.toList).run P w = .ok ((es.toList.findIdx? (keyIs p)).bind fun j => (es.toList[j]?).map fun e => (0 + j, e.val)) w := by
    unfold Instr.findKey
    simp only [Sem.run_bind, run_underlying hK, Result.andThen_ok, hfind, Sem.run_pure]
  have hgrown : ∀ o, w.grownBy { w with heap := w.heap.setIfInBounds b o } (some b) := fun o => ⟨rfl, rfl, rfl, by simp, fun i _ hi => by
    have hne : b ≠ i := fun e => hi (by rw [e])
    simp [Array.getElem?_setIfInBounds_ne hne]⟩
  have hnew : ∀ o, ({ w with heap := w.heap.setIfInBounds b o } : World).heap[b]? = some o := fun o => by simp [hblt]
  unfold Instr.mapUpdate
  simp only [Sem.run_bind, run_underlying ht, Result.andThen_ok, hget, hck, hfk]
  cases hi : es.toList.findIdx? (keyIs p) with
  | none =>
    simp only [Option.bind_none, hset]
    refine ⟨_, rfl, ⟨_, _, hnew _, ?_, ?_⟩, hgrown _⟩
    · intro e he
      simp only [Array.toList_push, List.mem_append, List.mem_singleton] at he
      rcases he with he | rfl
      · exact hk e he
      · exact ⟨p, rfl⟩
    · intro q
      simp only [Array.toList_push, List.find?_append]
      have hnone : es.toList.find? (keyIs p) = none := by rw [find_of_findIdx, hi]; rfl
      by_cases hq : q = p
      · subst hq
        simp [hnone, keyIs]
      · rw [if_neg hq, hF q]
        have : keyIs q { key := .int .i64 p, val := v, born := clock } = false := by simp [keyIs, hq]
        cases hfq : es.toList.find? (keyIs q) <;> simp [List.find?_cons, this]
  | some j =>
    obtain ⟨hj, hpj, _⟩ := List.findIdx?_eq_some_iff_getElem.1 hi
    have hkey := keyIs_key hpj
    have hel : es.toList[j]? = some es.toList[j] := List.getElem?_eq_getElem hj
    simp only [Option.bind_some, hel, Option.map_some, Nat.zero_add]
    have hstay : (Instr.keyThatStays (((es[j]?).map (·.key)).getD (.int .i64 p)) (.int .i64 p)).run P w = .ok (.int .i64 p) w := by
      have : es[j]? = some es.toList[j] := by rw [← Array.getElem?_toList]; exact hel
      rw [this]
      simp only [Option.map_some, Option.getD_some, hkey]
      unfold Instr.keyThatStays
      rw [show (10000 : Nat) = 9999 + 1 from rfl]
      simp [Instr.sameBits]
    simp only [Sem.run_bind, hstay, Result.andThen_ok, hset]
    refine ⟨_, rfl, ⟨_, _, hnew _, ?_, ?_⟩, hgrown _⟩
    · rw [Array.toList_modify]
      exact intKeys_modify p v _ j hk
    · intro q
      show (if q = p then some v else F q) = _
      rw [Array.toList_modify]
      have := find_modify p v es.toList j hi q
      rw [this, hF q]
end
end Go.Proofs.YtcoelhpmkhimpaaGreatDoor

namespace Go.Proofs.YtcoelhpmkhimpaaGreatDoor
open Go.RowKit
set_option linter.unusedVariables false
set_option linter.unusedSimpArgs false
theorem place_found {l : List Animal} {id : Int} {k : Nat} {a : Animal} (h : l[k]? = some a) (e : a.id = id) (hb : ∀ j x, j < k → l[j]? = some x → x.id ≠ id) : placeOf l id = some k := by
  unfold placeOf
  rw [List.findIdx?_eq_some_iff_getElem]
  obtain ⟨hk, rfl⟩ := List.getElem?_eq_some_iff.1 h
  refine ⟨hk, by simpa using e, fun j hj => ?_⟩
  have := hb j _ hj (List.getElem?_eq_getElem (by omega))
  simpa using this
theorem place_missing {l : List Animal} {id : Int} (hb : ∀ j x, j < l.length → l[j]? = some x → x.id ≠ id) : placeOf l id = none := by
  unfold placeOf
  rw [List.findIdx?_eq_none_iff]
  intro x hx
  obtain ⟨j, hj, rfl⟩ := List.mem_iff_getElem.1 hx
  simpa using hb j _ hj (List.getElem?_eq_getElem hj)
def great2B (l : List Animal) : Bool := decide (20 < l.length) || l.any fun x => decide (12 < x.marks.length)
end Go.Proofs.YtcoelhpmkhimpaaGreatDoor

namespace Go.Proofs.YtcoelhpmkhimpaaGreatDoor
open Go.RowKit
set_option linter.unusedVariables false
theorem wpList_of_quiet {P : Program} {ops : Array Oper} {C : World → Prop} {Q' : Act → Prop} {Q : Exit → Act → World → Prop} (hQ : ∀ a w, C w → Q' a → Q .normal a w) : ∀ (l : List Oper) (a : Act) (w : World), C w → wpQuiet P ops C Q' l a → wpList P ops Q l a w
  | [], a, w, hC, h => hQ a w hC h
  | o :: rest, a, w, hC, h => by
    unfold wpQuiet at h
    unfold wpList
    split
    · rename_i hw
      rw [if_pos hw] at h
      exact .inl (Oper.wp_of_quiet hC (fun a w' hw' hk => wpList_of_quiet hQ rest a w' hw' hk) h)
    · rename_i hw
      rw [if_neg hw] at h
      exact wpList_of_quiet hQ rest _ w hC h
theorem wp_region_seq {P : Program} {id : Nat} {Q : Exit → Act → World → Prop} {a : Act} {w : World} {l : List Oper}
    (h : ∀ f : Regrown → World, (∀ p, Ext w (f p)) → (∀ W, Ext w W → ∃ p, W = f p) → wpQuiet P l.toArray (fun w' => ∃ p, w' = f p) (fun a' => ∀ W, Ext w W → Q .normal a' W) l a) : (Code.region id l.toArray false).wp P Q a w := by
  have hb : ∀ p : Regrown, Ext w (Sort.grow (redrawn w p.d) p.os) := fun p => below_regrown w p.d p.os
  have h' := h (fun p => Sort.grow (redrawn w p.d) p.os) hb (fun W hW => regrown_of_below hW)
  refine wp_region_lit (wpList_of_quiet (C := fun w' => ∃ p : Regrown, w' = Sort.grow (redrawn w p.d) p.os) ?_ l a w (regrown_of_below (Ext.refl w)) h')
  rintro a' W ⟨p, rfl⟩ hq
  exact hq _ (hb p)
theorem wpList_of_quiet2 {P : Program} {ops : Array Oper} {C : World → Prop} {Q' : Act → Prop} {Q : Exit → Act → World → Prop} {l2 : List Oper} (hQ : ∀ a w, C w → Q' a → wpList P ops Q l2 a w) : ∀ (l : List Oper) (a : Act) (w : World), C w → wpQuiet P ops C Q' l a → wpList P ops Q (l ++ l2) a w
  | [], a, w, hC, h => hQ a w hC h
  | o :: rest, a, w, hC, h => by
    unfold wpQuiet at h
    rw [List.cons_append]
    unfold wpList
    split
    · rename_i hw
      rw [if_pos hw] at h
      exact .inl (Oper.wp_of_quiet hC (fun a w' hw' hk => wpList_of_quiet2 hQ rest a w' hw' hk) h)
    · rename_i hw
      rw [if_neg hw] at h
      exact wpList_of_quiet2 hQ rest _ w hC h
/-- the first operations of a list only read -/
theorem wpList_split {P : Program} {ops : Array Oper} {Q : Exit → Act → World → Prop} {a : Act} {w : World} {l : List Oper} (k : Nat)
    (h : ∀ f : Regrown → World, (∀ p, Ext w (f p)) → (∀ W, Ext w W → ∃ p, W = f p) → wpQuiet P ops (fun w' => ∃ p, w' = f p) (fun a' => ∀ W, Ext w W → wpList P ops Q (l.drop k) a' W) (l.take k) a) : wpList P ops Q l a w := by
  have hb : ∀ p : Regrown, Ext w (Sort.grow (redrawn w p.d) p.os) := fun p => below_regrown w p.d p.os
  have h' := h (fun p => Sort.grow (redrawn w p.d) p.os) hb (fun W hW => regrown_of_below hW)
  rw [← List.take_append_drop k l]
  refine wpList_of_quiet2 (C := fun w' => ∃ p : Regrown, w' = Sort.grow (redrawn w p.d) p.os) ?_ (l.take k) a w (regrown_of_below (Ext.refl w)) h'
  rintro a' W ⟨p, rfl⟩ hq
  exact hq _ (hb p)
/-- the rest of a list whose operations only read -/
theorem wpList_seq {P : Program} {ops : Array Oper} {Q : Exit → Act → World → Prop} {a : Act} {w : World} {l : List Oper}
    (h : ∀ f : Regrown → World, (∀ p, Ext w (f p)) → (∀ W, Ext w W → ∃ p, W = f p) → wpQuiet P ops (fun w' => ∃ p, w' = f p) (fun a' => ∀ W, Ext w W → Q .normal a' W) l a) : wpList P ops Q l a w := by
  have hb : ∀ p : Regrown, Ext w (Sort.grow (redrawn w p.d) p.os) := fun p => below_regrown w p.d p.os
  have h' := h (fun p => Sort.grow (redrawn w p.d) p.os) hb (fun W hW => regrown_of_below hW)
  refine wpList_of_quiet (C := fun w' => ∃ p : Regrown, w' = Sort.grow (redrawn w p.d) p.os) ?_ l a w (regrown_of_below (Ext.refl w)) h'
  rintro a' W ⟨p, rfl⟩ hq
  exact hq _ (hb p)
end Go.Proofs.YtcoelhpmkhimpaaGreatDoor

namespace Go.Proofs.YtcoelhpmkhimpaaGreatDoor
open Go.RowKit
set_option linter.unusedVariables false
set_option linter.unusedSimpArgs false
def Yes (l : List Animal) (w : World) (e : Ending) (w' : World) : Prop := ∃ b, e = .returned (.bool b) ∧ (b = true → HerdOk l) ∧ Ext w w'
theorem Yes.no {l : List Animal} {w w' : World} (h : Ext w w') : Yes l w (.returned (.bool false)) w' := ⟨false, rfl, fun e => Bool.noConfusion e, h⟩
theorem atOf_some {l : List Animal} {id : Int} {i : Nat} (h : atOf l id = i) : placeOf l id = some i := by
  unfold atOf at h
  cases e : placeOf l id with
  | none =>
    rw [e] at h
    simp only at h
    omega
  | some j =>
    rw [e] at h
    simp only at h
    rw [show j = i by omega]
theorem atOf_pos {l : List Animal} {id : Int} (h : ¬atOf l id < 0) : ∃ j, placeOf l id = some j := by
  unfold atOf at h
  cases e : placeOf l id with
  | none =>
    rw [e] at h
    simp only at h
    omega
  | some j => exact ⟨j, rfl⟩
theorem mom_root {l : List Animal} {k : Nat} {x : Animal} (h : l[k]? = some x) (e : x.mother = -1) : mom l k = none := by
  unfold mom
  rw [h]
  simp only
  rw [if_pos e]
theorem mom_some {l : List Animal} {k m : Nat} {x : Animal} (h : l[k]? = some x) (e : x.mother ≠ -1) (hp : placeOf l x.mother = some m) : mom l k = some m := by
  unfold mom
  rw [h]
  simp only
  rw [if_neg e, hp]
theorem atOf_is {l : List Animal} {id : Int} {j : Nat} (h : placeOf l id = some j) : atOf l id = j := by
  unfold atOf
  rw [h]
theorem MarkIs.of {l : List Mark} {k : Nat} {x : Mark} (h : l[k]? = some x) (h1 : 0 ≤ x.spot ∧ x.spot ≤ 7) (h2 : 1 ≤ x.sign ∧ x.sign ≤ 20) (h3 : ∀ j y, j < k → l[j]? = some y → y.spot ≠ x.spot) : MarkIs l k := fun m hm => by
  rw [h] at hm
  cases hm
  exact ⟨h1, h2, h3⟩
theorem AnimalOk.of {l : List Animal} {i : Nat} {x : Animal} (h1 : inB x.id 0 9999 = true) (h2 : atOf l x.id = i) (h3 : x.mother = -1 ∨ ¬atOf l x.mother < 0) (h4 : spanOk x.born (-100000) 100000 = true) (h5 : MarksOk x.marks) : AnimalOk l i x := by
  refine ⟨by simpa [inB] using h1, atOf_some h2, h3.imp (fun h => h) fun h => atOf_pos h, ?_, h5⟩
  simp only [spanOk, Bool.and_eq_true, decide_eq_true_eq] at h4
  omega
end Go.Proofs.YtcoelhpmkhimpaaGreatDoor

namespace Go.Proofs.YtcoelhpmkhimpaaGreatDoor
open Go.RowKit
set_option linter.unusedVariables false
set_option linter.unusedSimpArgs false
attribute [local go_sem] Oper.semAt_some
def momsI (l : List Animal) : List Int := (List.range l.length).map (momI l)
theorem momsI_len (l : List Animal) : (momsI l).length = l.length := by simp [momsI]
theorem momsI_get {l : List Animal} {k : Nat} (h : k < l.length) : (momsI l)[k]? = some (momI l k) := by
  unfold momsI
  rw [List.getElem?_map, List.getElem?_range h]
  rfl
/-- what is still to come, where the box holds i -/
def Rest (l : List Animal) (i : Int) (r : List Nat) : Prop := (i = -1 ∧ r = []) ∨ ∃ c : Nat, i = c ∧ c < l.length ∧ r = lineOf l c
theorem Rest.next {l : List Animal} (h : HerdOk l) {c : Nat} (hc : c < l.length) : ∃ r, lineOf l c = c :: r ∧ Rest l (momI l c) r := by
  cases hm : mom l c with
  | none =>
    refine ⟨[], (h.lineIs hc).det (.root hm), .inl ⟨?_, rfl⟩⟩
    unfold momI
    rw [hm]
  | some m =>
    refine ⟨lineOf l m, (h.lineIs hc).det (.step hm (h.lineIs (mom_lt hm))), .inr ⟨m, ?_, mom_lt hm, rfl⟩⟩
    unfold momI
    rw [hm]
def depthW (l : List Animal) (pi : Nat) (W : World) : Nat := match W.cell? ⟨pi, 0, none⟩ with | some (.int _ i) => if i < 0 then 0 else (lineOf l i.toNat).length | _ => 0
theorem depth_rest {l : List Animal} {pi : Nat} {W : World} {i : Int} {r : List Nat} (hb : W.heap[pi]? = some (.cells #[.int .i64 i] 3 (0, 0))) (h : Rest l i r) : depthW l pi W = r.length := by
  unfold depthW
  rw [((Ext.refl W).box hb).1 0]
  simp only [List.getElem?_toArray, List.getElem?_cons_zero]
  rcases h with ⟨rfl, rfl⟩ | ⟨c, rfl, hc, rfl⟩
  · rfl
  · rw [if_neg (by omega), Int.toNat_natCast]
def natEnc (x : Nat) : Array Value := #[.int .i64 (x : Int)]
theorem line_any (hb : Nat) (i : Int) (w : World) : Calls Tryz.prog 110 #[.pointer (some ⟨hb, 0, none⟩), .int .i64 i] w fun e w' => e = .returned (.func (.func 132) #[] #[.pointer (some ⟨w.heap.size + 1, 0, none⟩), .pointer (some ⟨w.heap.size, 0, none⟩)]) ∧ w' = (w.alloc (.cells #[.pointer (some ⟨hb, 0, none⟩)] 165)).alloc (.cells #[.int .i64 i] 3) := by
  go_enter Tryz.func110, Tryz.ntmps110
  go_wp2_with fail
  go_ret
  exact ⟨rfl, rfl⟩
/-- where animals are, as the map of places says it -/
def placeV (l : List Animal) : Int → Option Value := fun q => (placeOf l q).map fun (j : Nat) => .int .i64 (j : Int)
/-- a herd at work -/
structure HerdIn (w : World) (hb : Nat) (a : Option Addr) (c mp : Nat) (ma : Option Addr) (mc : Nat) (v : Value) (l : List Animal) : Prop where
  box : w.heap[hb]? = some (.cells #[.slice a l.length c, .map (some mp), .slice ma l.length mc, v] 172 (0, 0))
  mcap : l.length ≤ mc ∧ mc ≤ maxLen
  animals : AnimalsAt w a l.length l
  acap : l.length ≤ c ∧ c ≤ maxLen
  map : OMapIs w mp (placeV l)
  moms : IntsAt .i64 w ma l.length (momsI l)
theorem HerdIn.ext {w w' : World} {hb : Nat} {a : Option Addr} {c mp : Nat} {ma : Option Addr} {mc : Nat} {v : Value} {l : List Animal} (h : HerdIn w hb a c mp ma mc v l) (e : Ext w w') : HerdIn w' hb a c mp ma mc v l :=
  ⟨e.heap h.box, h.mcap, h.animals.ext e, h.acap, h.map.ext e, h.moms.ext e⟩
def HerdAt (w : World) (hb : Nat) (l : List Animal) : Prop := ∃ a c mp ma mc v, HerdIn w hb a c mp ma mc v l
theorem KpO.mono' {O O' : Nat → Prop} {A B : World} (h : KpO O A B) (hO : ∀ b, O b → O' b) : KpO O' A B := ⟨h.size, fun b o hb hc hn => h.block b o hb hc fun q => hn (hO b q)⟩
theorem IntsAt.kpO {q : IntKind} {O : Nat → Prop} {A B : World} {a : Option Addr} {n : Nat} {l : List Int} (h : IntsAt q A a n l) (k : KpO O A B) (hn : ∀ x, a = some x → ¬O x.block) : IntsAt q B a n l := ⟨h.1, h.2.kpO k hn⟩
set_option maxRecDepth 100000 in
set_option maxHeartbeats 8000000 in
theorem line1_any (n : Nat) (y pi ph hb mp : Nat) (a ma : Option Addr) (an ac mc : Nat) (mv : Value) (l : List Animal) (hok : HerdOk l) (i : Int) (L : List Nat) (hL : Rest l i L) (O : Nat → Prop) (W : World)
    (hI : W.heap[pi]? = some (.cells #[.int .i64 i] 3 (0, 0))) (hH : W.heap[ph]? = some (.cells #[.pointer (some ⟨hb, 0, none⟩)] 165 (0, 0))) (hB : W.heap[hb]? = some (.cells #[.slice a an ac, .map (some mp), .slice ma l.length mc, mv] 172 (0, 0))) (hm : IntsAt .i64 W ma l.length (momsI l)) (hmc : l.length ≤ mc) (hmm : mc ≤ maxLen)
    (hOi : ¬O pi) (hOh : ¬O ph) (hOb : ¬O hb) (hOm : ∀ x, ma = some x → ¬O x.block) (hni : ph ≠ pi ∧ hb ≠ pi ∧ ∀ x, ma = some x → x.block ≠ pi)
    (J Jx : List Nat → World → Prop) (hJ : ∀ s A B, J s A → But (fun b => b = pi) A B → J s B)
    (hY : ∀ pre x W1, J pre W1 → pre ++ [x] <+: L → YieldAt Fence.wide (n - 1) Tryz.prog y (natEnc x) W1 fun e W' =>
      (e = .returned (.bool true) ∧ J (pre ++ [x]) W' ∧ KpO O W1 W') ∨ (e = .returned (.bool false) ∧ Jx (pre ++ [x]) W'))
    (h0 : J [] W) :
    CallsIn Fence.wide n Tryz.prog 132 #[.func (.yield y) #[] #[], .pointer (some ⟨pi, 0, none⟩), .pointer (some ⟨ph, 0, none⟩)] W fun e W' => (∃ v, e = .returned v) ∧ ((∃ xs, xs = L ∧ J xs W') ∨ (∃ pre, pre <+: L ∧ Jx pre W')) := by
  have hlen := hok.len
  have hnx := fun c (hc : c < l.length) => Rest.next hok hc
  have HI := Lib.hid hI
  have HH := Lib.hid hH
  have HB := Lib.hid hB
  have Hm := Lib.hid hm
  have HOi := Lib.hid hOi
  have HOh := Lib.hid hOh
  have HOb := Lib.hid hOb
  have HOm := Lib.hid hOm
  have Hni := Lib.hid hni
  have HJ := Lib.hid hJ
  have HY := Lib.hid hY
  have HL := Lib.hid hL
  have Hnx := Lib.hid hnx
  clear hI hH hB hm hOi hOh hOb hOm hni hJ hY hL hnx
  refine callsIn_of_wp Tryz.func132 rfl trivial ?_ rfl
  simp only [Tryz.ntmps132, List.size_toArray, List.length_cons, List.length_nil, Nat.reduceAdd, Nat.reduceSub, Array.replicate_succ, Array.replicate_zero, List.push_toArray, List.append_toArray, List.nil_append, List.cons_append]
  gi_wp2
  gi_loopw [] (fun wr => ∃ (pre r : List Nat) (i' : Int), J pre wr ∧ pre ++ r = L ∧ Rest l i' r ∧ wr.heap[pi]? = some (.cells #[.int .i64 i'] 3 (0, 0)) ∧ KpO (fun b => O b ∨ b = pi) W wr) (fun wr => depthW l pi wr)
  case atStart => exact ⟨[], L, i, h0, rfl, HL.out, HI.out, KpO.refl _ _⟩
  case round =>
    obtain ⟨pre, r, i', hj, hseq, hr, hb, hkp⟩ := hrel
    clear h0
    have hd := depth_rest hb hr
    obtain ⟨zi, _⟩ := (Ext.refl wr).box hb
    rcases hr with ⟨rfl, rfl⟩ | ⟨c, rfl, hc, rfl⟩
    · rw [List.append_nil] at hseq
      have Hj := Lib.hid hj
      have Hseq := Lib.hid hseq
      clear hj hseq
      clear hd hkp hb
      gi_wp2
      go_end0
      exact ⟨⟨_, rfl⟩, .inl ⟨_, Hseq.out, Hj.out⟩⟩
    · obtain ⟨r', hr', hrest⟩ := Hnx.out c hc
      rw [hr'] at hseq hd
      have hY2 := HY.out pre c wr hj (by rw [← hseq]; exact ⟨r', by simp⟩)
      unfold natEnc at hY2
      obtain ⟨fn', tmps, assign, body, hy, hR⟩ := hY2
      have hxs : (pre ++ [c]) ++ r' = L := by rw [← hseq]; simp
      have HR := Lib.hid hR
      have hc0 : decide (0 ≤ (c : Int)) = true := by simp
      clear hR hseq hr' hj
      have Hxs := Lib.hid hxs
      have Hkp := Lib.hid hkp
      have Hrest := Lib.hid hrest
      have Hb := Lib.hid hb
      clear hxs hkp hrest hb
      gi_wp2
      refine ⟨fun h => (by cases h), HR.out.mono ?_⟩
      clear HR hy
      rintro e W3 (⟨rfl, hj3, hk3⟩ | ⟨rfl, hjx3⟩)
      · have hb3 := hk3.cells Hb.out HOi.out
        have hkp3 := Hkp.out.trans (hk3.mono' fun b h => .inl h)
        have hh3 := hkp3.cells HH.out (fun h => h.elim HOh.out Hni.out.1)
        have hB3 := hkp3.cells HB.out (fun h => h.elim HOb.out Hni.out.2.1)
        obtain ⟨b5, o5, x5, rfl, hx5, _, c5⟩ := (Hm.out.kpO hkp3 (fun x hx h => h.elim (HOm.out x hx) (Hni.out.2.2 x hx))).get c hc
        rw [momsI_get hc] at hx5
        cases hx5
        have hcB : decide ((c : Int) < (l.length : Int)) = true := by simp; omega
        obtain ⟨M, hM⟩ : ∃ M, momI l c = M := ⟨_, rfl⟩
        rw [hM] at c5
        have Hb3 := Lib.hid hb3
        have Hkp3 := Lib.hid hkp3
        have Hh3 := Lib.hid hh3
        have HB3 := Lib.hid hB3
        have C5 := Lib.hid c5
        have Hj3 := Lib.hid hj3
        have HM := Lib.hid hM
        clear hb3 hkp3 hh3 hB3 c5 hj3 hM
        clear hk3 zi
        gi_wp2
        refine wpIn_wide.2 ?_
        refine wp_region_plan (.take [0, 1, 2, 3, 4, 5, 6] (.fin (.one 7 .done))) [7] (Ext W3) _ (by kernel_rfl) (by kernel_rfl) rfl (EC.ext W3) ((Ext.refl _).drew) ?_
        simp only [planOf, treeOf, oneOp, twoOp, opsOf, consOp, callOC, oneOC, twoOC, List.getElem?_toArray, List.getElem?_cons_succ, List.getElem?_cons_zero]
        intro ι _ f hf
        have f0 := fun q => ((hf q).box Hb3.out).1
        have f1 := fun q => ((hf q).box Hh3.out).1
        have f2 := fun q => ((hf q).box HB3.out).1
        have f3 := fun q => (hf q).cell C5.out
        clear hf
        repeat (go_big_quiet_step (fail))
        refine wpQuiet_nil ?_
        clear f0 f1 f2 f3
        intro W4 hW4
        refine wpOT_one ?_
        obtain ⟨z4, zz4⟩ := (Ext.refl W4).box (hW4.heap Hb3.out)
        have hpi := heap_lt (hW4.heap Hb3.out)
        go_wp2_with fail
        refine wpOT_done ?_
        have hbut : But (fun b => b = pi) W3 (W4.setCell ⟨pi, 0, none⟩ (.int .i64 M)) := (hW4.but _).trans (But.setCell (i := 0) _ (.int .i64 M) rfl)
        have hj5 := HJ.out _ _ _ Hj3.out hbut
        have hb5 : (W4.setCell ⟨pi, 0, none⟩ (.int .i64 M)).heap[pi]? = some (.cells #[.int .i64 M] 3 (0, 0)) := by
          rw [heap_setCell_box, hW4.heap Hb3.out]
          rfl
        have hkp5 : KpO (fun b => O b ∨ b = pi) W (W4.setCell ⟨pi, 0, none⟩ (.int .i64 M)) := Hkp3.out.trans ⟨hbut.size, fun b o hb _ hn => hbut.block b o hb fun e => hn (.inr e)⟩
        have hr5 := Hrest.out
        rw [HM.out] at hr5
        have hd5 := depth_rest hb5 hr5
        generalize W4.setCell ⟨pi, 0, none⟩ (.int .i64 M) = W5 at *
        have Hj5 := Lib.hid hj5
        have Hb5 := Lib.hid hb5
        have Hkp5 := Lib.hid hkp5
        have Hr5 := Lib.hid hr5
        clear hj5 hb5 hkp5 hr5
        clear hbut hW4 z4 zz4
        gi_wp2
        go_roundw
        case rel => exact ⟨_, r', M, Hj5.out, Hxs.out, Hr5.out, Hb5.out, Hkp5.out⟩
        case measure => simp only [hd5, hd, List.length_cons]; omega
      · clear zi
        gi_wp2
        refine bodyPost_ret (results_none rfl _ _ _) rfl ?_
        exact ⟨⟨_, rfl⟩, .inr ⟨_, by rw [← Hxs.out]; exact List.prefix_append _ _, hjx3⟩⟩
/-- **the iterator yields an animal, its mother, and so on** -/
theorem line_stops (n : Nat) (pi ph hb mp : Nat) (a ma : Option Addr) (an ac mc : Nat) (mv : Value) (l : List Animal) (hok : HerdOk l) (i : Int) (L : List Nat) (hL : Rest l i L) (O : Nat → Prop) (w : World)
    (hI : w.heap[pi]? = some (.cells #[.int .i64 i] 3 (0, 0))) (hH : w.heap[ph]? = some (.cells #[.pointer (some ⟨hb, 0, none⟩)] 165 (0, 0))) (hB : w.heap[hb]? = some (.cells #[.slice a an ac, .map (some mp), .slice ma l.length mc, mv] 172 (0, 0))) (hm : IntsAt .i64 w ma l.length (momsI l)) (hmc : l.length ≤ mc) (hmm : mc ≤ maxLen)
    (hOi : ¬O pi) (hOh : ¬O ph) (hOb : ¬O hb) (hOm : ∀ x, ma = some x → ¬O x.block) (hni : ph ≠ pi ∧ hb ≠ pi ∧ ∀ x, ma = some x → x.block ≠ pi) :
    SeqStopsB Fence.wide n Tryz.prog 132 #[.pointer (some ⟨pi, 0, none⟩), .pointer (some ⟨ph, 0, none⟩)] natEnc (KpO O) (fun xs => xs = L) (fun pre => pre <+: L) L.length (fun b => b = pi) w := fun y J Jx W hE hJ _ hY h0 =>
  line1_any n y pi ph hb mp a ma an ac mc mv l hok i L hL O W (hE.heap hI) (hE.heap hH) (hE.heap hB) (hm.ext hE) hmc hmm hOi hOh hOb hOm hni J Jx hJ (fun pre x W1 h hp => hY pre x W1 h (by have := hp.length_le; simp at this; omega)) h0
/-- the same, of places that are known to be places of the herd -/
theorem line_stopsF (n : Nat) (pi ph hb mp : Nat) (a ma : Option Addr) (an ac mc : Nat) (mv : Value) (l : List Animal) (hok : HerdOk l) (c : Nat) (hc : c < l.length) (O : Nat → Prop) (w : World)
    (hI : w.heap[pi]? = some (.cells #[.int .i64 (c : Int)] 3 (0, 0))) (hH : w.heap[ph]? = some (.cells #[.pointer (some ⟨hb, 0, none⟩)] 165 (0, 0))) (hB : w.heap[hb]? = some (.cells #[.slice a an ac, .map (some mp), .slice ma l.length mc, mv] 172 (0, 0))) (hm : IntsAt .i64 w ma l.length (momsI l)) (hmc : l.length ≤ mc) (hmm : mc ≤ maxLen)
    (hOi : ¬O pi) (hOh : ¬O ph) (hOb : ¬O hb) (hOm : ∀ x, ma = some x → ¬O x.block) (hni : ph ≠ pi ∧ hb ≠ pi ∧ ∀ x, ma = some x → x.block ≠ pi) :
    SeqStopsB Fence.wide n Tryz.prog 132 #[.pointer (some ⟨pi, 0, none⟩), .pointer (some ⟨ph, 0, none⟩)] (fun x : {x : Nat // x < l.length} => natEnc x.1) (KpO O) (fun xs => xs.map (·.1) = lineOf l c) (fun pre => pre.map (·.1) <+: lineOf l c) (lineOf l c).length (fun b => b = pi) w := by
  intro y J Jx W hE hJ hJx hY h0
  have hlt := (hok.lineIs hc).lt hc
  refine (line1_any n y pi ph hb mp a ma an ac mc mv l hok c (lineOf l c) (.inr ⟨c, rfl, hc, rfl⟩) O W (hE.heap hI) (hE.heap hH) (hE.heap hB) (hm.ext hE) hmc hmm hOi hOh hOb hOm hni
    (fun s V => ∃ t : List {x : Nat // x < l.length}, t.map (·.1) = s ∧ J t V) (fun s V => ∃ t : List {x : Nat // x < l.length}, t.map (·.1) = s ∧ Jx t V) (fun s A B h k => let ⟨t, h1, h2⟩ := h; ⟨t, h1, hJ t A B h2 k⟩) ?_ ⟨[], rfl, h0⟩).mono ?_
  · rintro pre x W1 ⟨t, rfl, h2⟩ hp
    have hx : x < l.length := hlt x (hp.subset (by simp))
    have hl := hp.length_le
    simp at hl
    have hy := hY t ⟨x, hx⟩ W1 h2 (by omega)
    obtain ⟨fn, tmps, assign, body, q1, q2⟩ := hy
    refine ⟨fn, tmps, assign, body, q1, q2.mono ?_⟩
    rintro e W' (⟨rfl, h3, h4⟩ | ⟨rfl, h3⟩)
    · exact .inl ⟨rfl, ⟨t ++ [⟨x, hx⟩], by simp, h3⟩, h4⟩
    · exact .inr ⟨rfl, t ++ [⟨x, hx⟩], by simp, h3⟩
  · rintro e W' ⟨h1, ⟨xs, h2, t, h3, h4⟩ | ⟨pre, h2, t, h3, h4⟩⟩
    · exact ⟨h1, .inl ⟨t, h3.trans h2, h4⟩⟩
    · exact ⟨h1, .inr ⟨t, by show t.map (·.1) <+: _; rw [h3]; exact h2, h4⟩⟩
end Go.Proofs.YtcoelhpmkhimpaaGreatDoor

namespace Go.Proofs.YtcoelhpmkhimpaaGreatDoor
open Go.RowKit
set_option linter.unusedVariables false
/-- marks, each one's block being a new one -/
def Hung (lo : Nat) : List Deferred → World → Prop
  | [], _ => True
  | d :: ds, w => (∃ D, d = { target := .collected D, args := #[] } ∧ lo ≤ D ∧ w.heap[D]? = some (.deferred (some [])) ∧ ∀ d' ∈ ds, d' ≠ d) ∧ Hung lo ds w
theorem Hung.keep {lo : Nat} {w w' : World} : ∀ {ds : List Deferred}, Hung lo ds w → (∀ D, lo ≤ D → w.heap[D]? = some (.deferred (some [])) → ({ target := .collected D, args := #[] } : Deferred) ∈ ds → w'.heap[D]? = some (.deferred (some []))) → Hung lo ds w'
  | [], _, _ => trivial
  | d :: ds, h, hk => by
    obtain ⟨⟨D, h1, h2, h3, h4⟩, h5⟩ := h
    exact ⟨⟨D, h1, h2, hk D h2 h3 (by rw [h1]; exact List.mem_cons_self ..), h4⟩, h5.keep fun D' a b c => hk D' a b (List.mem_cons_of_mem _ c)⟩
theorem Hung.lt {lo : Nat} {w : World} : ∀ {ds : List Deferred}, Hung lo ds w → ∀ D, ({ target := .collected D, args := #[] } : Deferred) ∈ ds → D < w.heap.size
  | [], _, _, h => by cases h
  | d :: ds, h, D, hm => by
    obtain ⟨⟨E, h1, h2, h3, h4⟩, h5⟩ := h
    rcases List.mem_cons.1 hm with e | e
    · rw [h1] at e
      have : D = E := by
        injection e with e1 e2
        injection e1
      rw [this]
      exact heap_lt h3
    · exact h5.lt D e
theorem Hung.ext {lo : Nat} {w w' : World} {ds : List Deferred} (h : Hung lo ds w) (e : Ext w w') : Hung lo ds w' := h.keep fun D _ h3 _ => e.heap h3
theorem Hung.others {lo : Nat} {w w' : World} {ds : List Deferred} (h : Hung lo ds w) (e : KeepsOthers w w') : Hung lo ds w' := h.keep fun D _ h3 _ => e.same D _ h3 rfl
theorem Hung.but {lo : Nat} {O : Nat → Prop} {w w' : World} {ds : List Deferred} (h : Hung lo ds w) (e : But O w w') (hO : ∀ b, O b → ∃ cs t f, w.heap[b]? = some (.cells cs t f)) : Hung lo ds w' := h.keep fun D _ h3 _ => e.block D _ h3 fun hb => by
  obtain ⟨cs, t, f, h4⟩ := hO D hb
  rw [h3] at h4
  cases h4
/-- a new mark -/
theorem Hung.more {lo : Nat} {v w : World} {ds : List Deferred} {D : Nat} (h0 : Hung lo ds v) (h : Hung lo ds w) (hD : v.heap.size ≤ D) (hlo : lo ≤ D) (hd : w.heap[D]? = some (.deferred (some []))) : Hung lo ({ target := .collected D, args := #[] } :: ds) w :=
  ⟨⟨D, rfl, hlo, hd, fun d' hd' e => by
    subst e
    have := h0.lt D hd'
    omega⟩, h⟩
/-- the marks' blocks are shut -/
structure Took (lo : Nat) (w w' : World) : Prop where
  os : w'.os = w.os
  tape : w'.tape = w.tape
  output : w'.output = w.output
  size : w'.heap.size = w.heap.size
  block : ∀ k, k < lo → w'.heap[k]? = w.heap[k]?
  cells : ∀ (k : Nat) (cs : Array Value) (t : TypeId) (f : Nat × Nat), w.heap[k]? = some (.cells cs t f) → w'.heap[k]? = some (.cells cs t f)
  map : ∀ (k : Nat) (es : Array MapEntry) (c : Nat), w.heap[k]? = some (.map es c) → w'.heap[k]? = some (.map es c)
theorem Took.refl (lo : Nat) (w : World) : Took lo w w := ⟨rfl, rfl, rfl, rfl, fun _ _ => rfl, fun _ _ _ _ h => h, fun _ _ _ h => h⟩
theorem Took.put {lo D : Nat} {v w : World} (h : Took lo v w) (hD : lo ≤ D) (hd : w.heap[D]? = some (.deferred (some []))) : Took lo v (w.putObj D (.deferred none)) :=
  ⟨h.os, h.tape, h.output, by rw [World.putObj_size]; exact h.size, fun k hk => (World.putObj_heap_other (by omega)).trans (h.block k hk),
    fun k cs t f hk => (World.putObj_heap_other (fun e => by subst e; have := h.cells _ _ _ _ hk; rw [hd] at this; cases this)).trans (h.cells _ _ _ _ hk),
    fun k es c hk => (World.putObj_heap_other (fun e => by subst e; have := h.map _ _ _ hk; rw [hd] at this; cases this)).trans (h.map _ _ _ hk)⟩
theorem Took.ext {lo : Nat} {w v w' : World} (h : Took lo v w') (e : Ext w v) (hlo : w.heap.size ≤ lo) : Ext w w' := ⟨h.os.trans e.os, h.tape.trans e.tape, h.output.trans e.output, by rw [h.size]; exact e.size, fun k hk => (h.block k (by omega)).trans (e.block k hk)⟩
theorem leaves_all {F : Fence} {n : Nat} {P : Program} {fn : Func} {R : Ending → World → Prop} {tmps : Array Value} {lo : Nat} {v : World} : ∀ {ds : List Deferred} {w : World}, Hung lo ds w → Took lo v w → (∀ w', Took lo v w' → ∃ x, (results fn tmps).run P w' = .ok x w' ∧ R (.returned x) w') → LeavesInM F n P fn tmps R ds .returning w
  | [], w, _, ht, h => by
    obtain ⟨x, h1, h2⟩ := h w ht
    exact ⟨x, h1, h2⟩
  | d :: ds, w, hh, ht, h => by
    obtain ⟨⟨D, rfl, h2, h3, h4⟩, h5⟩ := hh
    refine ⟨by simp, .inl ⟨D, _, rfl, run_takeDeferred h3, leaves_all (h5.keep fun D' a b c => ?_) (ht.put h2 h3) h⟩⟩
    refine (World.putObj_heap_other (fun e => ?_)).trans b
    subst e
    exact h4 _ c rfl
theorem marks_rets {F : Fence} {n : Nat} {P : Program} {fn : Func} {R : Ending → World → Prop} {tmps : Array Value} {lo : Nat} {ds : List Deferred} {w : World} (hh : Hung lo ds w) (h : ∀ w', Took lo w w' → ∃ x, (results fn tmps).run P w' = .ok x w' ∧ R (.returned x) w') :
    bodyPostM F n P fn R .ret { tmps := tmps, defers := ds } w := leaves_all hh (Took.refl _ _) h
end Go.Proofs.YtcoelhpmkhimpaaGreatDoor

namespace Go.Proofs.YtcoelhpmkhimpaaGreatDoor
open Go.RowKit
set_option linter.unusedVariables false
set_option linter.unusedSimpArgs false
attribute [local go_sem] Oper.semAt_some
theorem Took.cell {lo : Nat} {w w' : World} (h : Took lo w w') {x : Addr} {v : Value} (hc : w.cell? x = some v) : w'.cell? x = some v := by
  obtain ⟨o, ho, hoc⟩ := cells_of_cell hc
  have e : w'.heap[x.block]? = w.heap[x.block]? := by
    cases o <;> first | (cases hoc; done) | exact (h.cells _ _ _ _ ho).trans ho.symm
  exact (World.cell?_of_block e).trans hc
theorem IntsAt.took {q : IntKind} {lo : Nat} {w w' : World} {a : Option Addr} {n : Nat} {l : List Int} (h : IntsAt q w a n l) (k : Took lo w w') : IntsAt q w' a n l :=
  ⟨h.1, fun h0 => let ⟨b, off, ha, hc⟩ := h.2 h0; ⟨b, off, ha, fun i hi j v hv => k.cell (hc i hi j v hv)⟩⟩
theorem OMapIs.took {lo : Nat} {w w' : World} {b : Nat} {F : Int → Option Value} (h : OMapIs w b F) (k : Took lo w w') : OMapIs w' b F :=
  let ⟨es, c, h1, h2⟩ := h; ⟨es, c, k.map _ _ _ h1, h2⟩
/-- what a herd's opening hands back -/
def HerdFrom (w : World) (hb : Nat) (l : List Animal) (lo : Nat) : Prop := ∃ a c mp ma mc v, HerdIn w hb a c mp ma mc v l ∧ lo ≤ hb ∧ ∀ x, ma = some x → lo ≤ x.block
def OpenPost (l : List Animal) (w : World) (e : Ending) (w' : World) : Prop := ∃ hb, e = .returned (.tuple #[.pointer (some ⟨hb, 0, none⟩), .int .i64 0]) ∧ HerdFrom w' hb l w.heap.size ∧ Ext w w'
set_option maxRecDepth 100000 in
set_option maxHeartbeats 8000000 in
theorem openTail {w W : World} {a ma : Option Addr} {c hb mp mc : Nat} {v : Value} {l : List Animal} (hok : HerdOk l) (hla : AnimalsAt w a l.length l)
    (hx : Ext w W) (h1 : W.heap[w.heap.size]? = some (.cells #[.slice a l.length c] 139 (0, 0))) (h2 : W.heap[w.heap.size + 1]? = some (.cells #[.pointer none] 165 (0, 0))) (h3 : W.heap[w.heap.size + 1 + 1]? = some (.cells #[.int .i64 0] 35 (0, 0))) (hin : HerdIn W hb a c mp ma mc v l) (hhb : w.heap.size + 1 + 1 < hb) (hmab : ∀ x, ma = some x → w.heap.size + 1 + 1 < x.block) {u5 u6 u7 u8 u9 u10 u11 u12 u13 u14 u15 u16 u17 u18 u19 u20 u21 u22 u23 u24 u25 u26 u27 u28 u29 u30 u31 u32 u33 u34 u35 u36 u37 u38 u39 u40 u41 u42 u43 u44 u45 u46 u47 u48 u49 u50 u51 u52 u53 u54 u55 u56 u57 u58 u59 u60 u61 u62 u63 u64 u65 u66 u67 u68 u69 u70 u71 u72 u73 u74 u75 u76 u77 u78 u79 u80 u81 u82 u83 u84 u85 u86 u87 u88 u89 u90 u91 u92 u93 u94 u95 u96 u97 u98 u99 u100 u101 u102 u103 u104 u105 u106 u107 u108 u109 u110 u111 u112 u113 u114 u115 u116 u117 u118 u119 u120 u121 u122 u123 u124 u125 u126 u127 u128 u129 u130 u131 : Value} :
    (restFrom Tryz.f108 24).wp Tryz.prog (bodyPostM Fence.wide 3 Tryz.prog Tryz.f108 (OpenPost l w))
      ⟨#[.slice a l.length c, .pointer (some ⟨w.heap.size, 0, none⟩), .pointer (some ⟨w.heap.size + 1, 0, none⟩), .pointer (some ⟨w.heap.size + 1 + 1, 0, none⟩), .pointer (some ⟨hb, 0, none⟩), u5, u6, u7, u8, u9, u10, u11, u12, u13, u14, u15, u16, u17, u18, u19, u20, u21, u22, u23, u24, u25, u26, u27, u28, u29, u30, u31, u32, u33, u34, u35, u36, u37, u38, u39, u40, u41, u42, u43, u44, u45, u46, u47, u48, u49, u50, u51, u52, u53, u54, u55, u56, u57, u58, u59, u60, u61, u62, u63, u64, u65, u66, u67, u68, u69, u70, u71, u72, u73, u74, u75, u76, u77, u78, u79, u80, u81, u82, u83, u84, u85, u86, u87, u88, u89, u90, u91, u92, u93, u94, u95, u96, u97, u98, u99, u100, u101, u102, u103, u104, u105, u106, u107, u108, u109, u110, u111, u112, u113, u114, u115, u116, u117, u118, u119, u120, u121, u122, u123, u124, u125, u126, u127, u128, u129, u130, u131], []⟩ W := by
  have hlen := hok.len
  obtain ⟨z1, _⟩ := (Ext.refl W).box h1
  have Hx := Lib.hid hx
  have H1 := Lib.hid h1
  have H2 := Lib.hid h2
  have H3 := Lib.hid h3
  have Hin := Lib.hid hin
  have Hla := Lib.hid hla
  clear hx h1 h2 h3 hin hla
  conv => arg 2; whnf
  dsimp only
  go_upto_region 25 with fail
  refine wp_loop (fun A V => ∃ (k : Nat) (ds : List Deferred) (v15 v16 v118 v119 v120 v121 v122 v123 v124 v125 v126 v127 v128 v129 v130 : Value), A = ⟨#[.slice a l.length c, .pointer (some ⟨w.heap.size, 0, none⟩), .pointer (some ⟨w.heap.size + 1, 0, none⟩), .pointer (some ⟨w.heap.size + 1 + 1, 0, none⟩), .pointer (some ⟨hb, 0, none⟩), u5, u6, u7, u8, u9, u10, u11, u12, u13, u14, v15, v16, u17, u18, u19, u20, u21, u22, u23, u24, u25, u26, u27, u28, u29, u30, u31, u32, u33, u34, u35, u36, u37, u38, u39, u40, u41, u42, u43, u44, u45, u46, u47, u48, u49, u50, u51, u52, u53, u54, u55, u56, u57, u58, u59, u60, u61, u62, u63, u64, u65, u66, u67, u68, u69, u70, u71, u72, u73, u74, u75, u76, u77, u78, u79, u80, u81, u82, u83, u84, u85, u86, u87, u88, u89, u90, u91, u92, u93, u94, u95, u96, u97, u98, u99, u100, u101, u102, u103, u104, u105, u106, u107, u108, u109, u110, u111, u112, u113, u114, .slice a l.length c, .int .i64 l.length, .int .i64 k, v118, v119, v120, v121, v122, v123, v124, v125, v126, v127, v128, v129, v130, u131], ds⟩ ∧ k ≤ l.length ∧ Ext W V ∧ Hung W.heap.size ds V)
    (fun A _ => l.length - (intOf (A.tmps.getD 117 undef)).toNat) ?start ?round
  case start => exact ⟨0, [], u15, u16, u118, u119, u120, u121, u122, u123, u124, u125, u126, u127, u128, u129, u130, rfl, Nat.zero_le _, Ext.refl _, trivial⟩
  case round =>
    intro A V hrel
    obtain ⟨k, ds, v15, v16, v118, v119, v120, v121, v122, v123, v124, v125, v126, v127, v128, v129, v130, rfl, hk, hxv, hh⟩ := hrel
    clear z1
    dsimp only
    by_cases hlt : k < l.length
    · have hltB : decide ((k : Int) < (l.length : Int)) = true := by simp; omega
      have hsz := hxv.size
      have hLn := (hok.lineIs hlt).len hlt
      have hseq := fun (pi ph p16 : Nat) (W4 : World) hI hH (hE : Ext W W4) (hn1 : W.heap.size ≤ p16) (hn2 : W.heap.size ≤ pi) (hn3 : W.heap.size ≤ ph) (hn4 : pi ≠ p16) (hn5 : ph ≠ p16) (hn6 : ph ≠ pi) =>
        line_stops 2 pi ph hb mp a ma l.length c mc v l hok (k : Int) (lineOf l k) (.inr ⟨k, rfl, hlt, rfl⟩) (fun b => b = p16) W4 hI hH (Hin.out.ext hE).box (Hin.out.ext hE).moms Hin.out.mcap.1 Hin.out.mcap.2 hn4 hn5 (by have := heap_lt Hin.out.box; omega) (fun x hx => by
          by_cases h0 : 0 < l.length
          · obtain ⟨b5, o5, _, e5, _, hl5, _⟩ := Hin.out.moms.get 0 h0
            rw [hx] at e5
            cases e5
            simp only
            omega
          · omega) ⟨hn6, by have := heap_lt Hin.out.box; omega, fun x hx => by
          by_cases h0 : 0 < l.length
          · obtain ⟨b5, o5, _, e5, _, hl5, _⟩ := Hin.out.moms.get 0 h0
            rw [hx] at e5
            cases e5
            simp only
            omega
          · omega⟩
      have Hxv := Lib.hid hxv
      have Hh := Lib.hid hh
      have Hseq := Lib.hid hseq
      clear hxv hh hseq
      go_wp2_with (go_at_call 110; refine (line_any hb (k : Int) _).mono ?_; rintro e V2 ⟨rfl, rfl⟩)
      have hx4 : Ext V (((V.alloc (.cells #[.int .i64 0] 3)).alloc (.cells #[.pointer (some ⟨hb, 0, none⟩)] 165)).alloc (.cells #[.int .i64 k] 3)) := (((Ext.refl V).alloc _).alloc _).alloc _
      have hp16 : (((V.alloc (.cells #[.int .i64 0] 3)).alloc (.cells #[.pointer (some ⟨hb, 0, none⟩)] 165)).alloc (.cells #[.int .i64 k] 3)).heap[V.heap.size]? = some (.cells #[.int .i64 0] 3 (0, 0)) := (((Ext.refl _).alloc _).alloc _).heap (heap_alloc_new V _)
      have hph : (((V.alloc (.cells #[.int .i64 0] 3)).alloc (.cells #[.pointer (some ⟨hb, 0, none⟩)] 165)).alloc (.cells #[.int .i64 k] 3)).heap[V.heap.size + 1]? = some (.cells #[.pointer (some ⟨hb, 0, none⟩)] 165 (0, 0)) := ((Ext.refl _).alloc _).heap (alloc_at _ _ _ (by simp))
      have hpi : (((V.alloc (.cells #[.int .i64 0] 3)).alloc (.cells #[.pointer (some ⟨hb, 0, none⟩)] 165)).alloc (.cells #[.int .i64 k] 3)).heap[V.heap.size + 1 + 1]? = some (.cells #[.int .i64 k] 3 (0, 0)) := alloc_at _ _ _ (by simp)
      generalize ((V.alloc (.cells #[.int .i64 0] 3)).alloc (.cells #[.pointer (some ⟨hb, 0, none⟩)] 165)).alloc (.cells #[.int .i64 k] 3) = V4 at *
      have hsq := Hseq.out (V.heap.size + 1 + 1) (V.heap.size + 1) V.heap.size V4 hpi hph (Hxv.out.trans hx4) hsz (by omega) (by omega) (by omega) (by omega) (by omega)
      have hh4 := Hh.out.ext hx4
      have hx04 := Hxv.out.trans hx4
      have hpl := heap_lt hpi
      have Hsq := Lib.hid hsq
      have Hh4 := Lib.hid hh4
      have Hx04 := Lib.hid hx04
      have Hp16 := Lib.hid hp16
      clear hsq hh4 hx04 hp16
      clear hx4 hph hpi
      refine (wpIn_wide (n := 3)).1 (wpIn_rangeFunc_but rfl (by omega) (gf := 132) (lb := #[.pointer (some ⟨V.heap.size + 1 + 1, 0, none⟩), .pointer (some ⟨V.heap.size + 1, 0, none⟩)]) rfl trivial (enters_of Tryz.func132 (by kernel_rfl) rfl) Hsq.out kpO_t kpO_b (Ext.refl _) (fun b hb => by rw [hb]; exact hpl) (fun _ => rfl)
        (fun pre X => Ext W X ∧ Hung W.heap.size ds X ∧ X.heap[V.heap.size]? = some (.cells #[.int .i64 (pre.length : Nat)] 3 (0, 0))) (fun _ _ _ => False)
        (fun q A B h k => ⟨ButF.ext h.1 k (fun b hb => by have : b = V.heap.size + 1 + 1 := hb; omega) (by omega), h.2.1.keep (fun D q1 q2 q3 => k.block D _ q2 (fun e => by have : D = V.heap.size + 1 + 1 := e; have := Hh.out.lt D q3; omega) (.inr (by have := Hh4.out.lt D q3; omega))), k.cells h.2.2 (fun e => by have : V.heap.size = V.heap.size + 1 + 1 := e; omega)⟩)
        (fun c q A B h k => h.elim)
        ⟨Hx04.out, Hh4.out, Hp16.out⟩ ?a1 ?assign ?body ?done ?stop)
      case assign =>
        intro y x X K hK
        gi_wp2
        simp [natEnc]
        exact hK
      case body =>
        intro y pre x X hI hpre
        obtain ⟨q1, q2, q3⟩ := hI
        obtain ⟨y0, y1⟩ := (Ext.refl X).box q3
        obtain ⟨z1, _⟩ := (Ext.refl X).box (q1.heap H1.out)
        have hpx := heap_lt q3
        have hw0 : w.heap.size < V.heap.size := by have := heap_lt H1.out; omega
        have hB : decide ((l.length : Int) < (pre.length : Int) + 1) = false := decide_eq_false (by omega)
        have hq3 : (X.setCell ⟨V.heap.size, 0, none⟩ (.int .i64 ((pre.length : Int) + 1))).heap[V.heap.size]? = some (.cells #[.int .i64 (((pre ++ [x]).length : Nat) : Int)] 3 (0, 0)) := by
          rw [heap_setCell_box, q3, List.length_append]
          rfl
        have hq1 := q1.setCell (p := ⟨V.heap.size, 0, none⟩) hsz (.int .i64 ((pre.length : Int) + 1))
        have Hq1 := Lib.hid hq1
        have Q2 := Lib.hid q2
        have Hq3 := Lib.hid hq3
        clear hq1 q2 hq3
        gi_wp2
        exact ⟨KeepsOthers.setCell _ _ _, ⟨by simp [World.setCell], fun k o hk _ hn => (Below.heap_setCell _ _ _ _ (fun e => hn (by simp only at e; exact e))).trans hk⟩, Hq1.out, Q2.out.others (KeepsOthers.setCell _ _ _), Hq3.out⟩
      case done =>
        intro D xs X hD hxs hI hK
        obtain ⟨q1, q2, q3⟩ := hI
        have hm := Hung.more Hh4.out q2 hD (by omega) hK
        have Q1 := Lib.hid q1
        have Hm := Lib.hid hm
        clear q1 hm
        clear q2 q3 hK
        go_wp2_with fail
        refine ⟨⟨k + 1, _, _, _, _, _, _, _, _, _, _, _, _, _, _, _, _, rfl, by omega, Q1.out, Hm.out⟩, ?_⟩
        show l.length - ((k : Int) + 1).toNat < l.length - (k : Int).toNat
        omega
      case stop =>
        intro D c pre X _ _ h
        exact h.elim
    · have hltB : decide ((k : Int) < (l.length : Int)) = false := by simp; omega
      have hx1 := Hx.out.trans hxv
      have g2 := hxv.heap H2.out
      have g3 := hxv.heap H3.out
      have hi1 := Hin.out.ext hxv
      have hb1 := heap_lt H1.out
      have hb2 := heap_lt H2.out
      have hb3 := heap_lt H3.out
      have hl2 := heap_lt g2
      have hl3 := heap_lt g3
      obtain ⟨y2, y3⟩ := (Ext.refl V).box g2
      obtain ⟨y4, y5⟩ := (Ext.refl V).box g3
      have hlb := heap_lt Hin.out.box
      have Hh := Lib.hid hh
      have Hx1 := Lib.hid hx1
      have G2 := Lib.hid g2
      have G3 := Lib.hid g3
      have Hi1 := Lib.hid hi1
      clear hh hx1 g2 g3 hi1
      go_wp2_with fail
      have e2 : ((V.setCell ⟨w.heap.size + 1, 0, none⟩ (.pointer (some ⟨hb, 0, none⟩))).setCell ⟨w.heap.size + 1 + 1, 0, none⟩ (.int .i64 0)).heap[w.heap.size + 1]? = some (.cells #[.pointer (some ⟨hb, 0, none⟩)] 165 (0, 0)) := by
        refine (Below.heap_setCell _ _ _ _ (by simp)).trans ?_
        rw [heap_setCell_box, G2.out]
        rfl
      have e3 : ((V.setCell ⟨w.heap.size + 1, 0, none⟩ (.pointer (some ⟨hb, 0, none⟩))).setCell ⟨w.heap.size + 1 + 1, 0, none⟩ (.int .i64 0)).heap[w.heap.size + 1 + 1]? = some (.cells #[.int .i64 0] 35 (0, 0)) := by
        rw [heap_setCell_box, Below.heap_setCell _ _ _ _ (by simp), G3.out]
        rfl
      have e4 : ∀ b, w.heap.size + 1 + 1 < b → ((V.setCell ⟨w.heap.size + 1, 0, none⟩ (.pointer (some ⟨hb, 0, none⟩))).setCell ⟨w.heap.size + 1 + 1, 0, none⟩ (.int .i64 0)).heap[b]? = V.heap[b]? := fun b hbb =>
        (Below.heap_setCell _ _ _ _ (by simp only; omega)).trans (Below.heap_setCell _ _ _ _ (by simp only; omega))
      have e5 := (Hx1.out.setCell (p := ⟨w.heap.size + 1, 0, none⟩) (by simp only; omega) (.pointer (some ⟨hb, 0, none⟩))).setCell (p := ⟨w.heap.size + 1 + 1, 0, none⟩) (by simp only; omega) (.int .i64 0)
      have e6 := (Hh.out.others (KeepsOthers.setCell V ⟨w.heap.size + 1, 0, none⟩ (.pointer (some ⟨hb, 0, none⟩)))).others (KeepsOthers.setCell _ ⟨w.heap.size + 1 + 1, 0, none⟩ (.int .i64 0))
      have e7 : ((V.setCell ⟨w.heap.size + 1, 0, none⟩ (.pointer (some ⟨hb, 0, none⟩))).setCell ⟨w.heap.size + 1 + 1, 0, none⟩ (.int .i64 0)).heap[mp]? = V.heap[mp]? := by
        obtain ⟨es, ck, q1, _⟩ := Hi1.out.map
        have n2 : mp ≠ w.heap.size + 1 := fun e => by rw [e, G2.out] at q1; cases q1
        have n3 : mp ≠ w.heap.size + 1 + 1 := fun e => by rw [e, G3.out] at q1; cases q1
        exact (Below.heap_setCell _ _ _ _ n3).trans (Below.heap_setCell _ _ _ _ n2)
      generalize (V.setCell ⟨w.heap.size + 1, 0, none⟩ (.pointer (some ⟨hb, 0, none⟩))).setCell ⟨w.heap.size + 1 + 1, 0, none⟩ (.int .i64 0) = V2 at *
      refine marks_rets e6 fun w' ht => ?_
      have hx9 := ht.ext e5 (by omega)
      have c2 := ((Ext.refl w').box (ht.cells _ _ _ _ e2)).1 0
      have c3 := ((Ext.refl w').box (ht.cells _ _ _ _ e3)).1 0
      refine ⟨.tuple #[.pointer (some ⟨hb, 0, none⟩), .int .i64 0], by simp [results, Tryz.f108, go_sem, c2, c3], hb, rfl, ⟨a, c, mp, ma, mc, v, ⟨ht.cells _ _ _ _ ((e4 _ hhb).trans Hi1.out.box), Hi1.out.mcap, Hla.out.ext hx9, Hi1.out.acap, (Hi1.out.map.same e7).took ht, ?_⟩, by omega, fun x hx => by have := hmab x hx; omega⟩, hx9⟩
      exact IntsAt.took (w := V2) ⟨Hi1.out.moms.1, Hi1.out.moms.2.same fun x hx => e4 _ (hmab x hx)⟩ ht
end Go.Proofs.YtcoelhpmkhimpaaGreatDoor

namespace Go.Proofs.YtcoelhpmkhimpaaGreatDoor
open Go.RowKit
set_option linter.unusedVariables false
set_option linter.unusedSimpArgs false
theorem infoI3 : (Tryz.prog.info? 3).map (fun i => (i.zero, i.size, i.bytes)) = some (some (.int .i64 0), 1, 8) := by kernel_rfl
theorem elemI34 : Elem Tryz.prog 29 3 1 := by
  obtain ⟨i, h1, h2, h3, h4⟩ := info_parts infoI3
  exact ⟨Tryz.underlying29, ⟨i, _, _, h1, h2, h3, h4, rfl, by decide⟩, by decide⟩
theorem but_grownI {W W' : World} {v : Value} (h : W.grownBy W' v.ownBlock) : But (fun b => v.ownBlock = some b) W W' := by
  obtain ⟨h1, h2, h3, h4, h5⟩ := h
  exact ⟨h1, h2, h3, h4, fun b o hb hn => (h5 b (heap_lt hb) (fun e => hn e.symm)).trans hb⟩
theorem one_int (W : World) (x : Int) (T : TypeId) : SlAt (W.alloc (.cells #[.int .i64 x] T)) 1 (some ⟨W.heap.size, 0, none⟩) 1 (fun k => (intRows .i64 [x]).getD k []) := by
  intro _
  refine ⟨W.heap.size, 0, rfl, fun k hk j v hv => ?_⟩
  obtain rfl : k = 0 := by omega
  have hj : j = 0 := by
    have := (List.getElem?_eq_some_iff.1 hv).1
    simp [intRows] at this
    omega
  subst hj
  rw [cell_of_row _ _ _ _ T (0, 0) (heap_alloc_new W _)]
  exact hv
theorem owns_setO {W : World} {base e sz b i : Nat} {v u : Value} {rows : List (List Value)} (h : Owns W base e sz v rows) (hb : b < base) : Owns (W.setCell ⟨b, i, none⟩ u) base e sz v rows := by
  refine h.kept (row := some b) ⟨rfl, rfl, rfl, by simp, fun k hk hne => Below.heap_setCell _ _ _ _ fun e => hne (by rw [e])⟩ ?_
  cases ho : v.ownBlock with
  | none => exact .inl rfl
  | some g => exact .inr fun e => by have := (h.lt g ho).1; simp only [Option.some.injEq] at e; omega
/-- the herd at work, with the places of k mothers -/
structure OB (w : World) (hb mp : Nat) (a : Option Addr) (c : Nat) (v : Value) (l : List Animal) (k : Nat) (u : Value) (V : World) : Prop where
  ext : Ext w V
  b1 : V.heap[w.heap.size]? = some (.cells #[.slice a l.length c] 139 (0, 0))
  b2 : V.heap[w.heap.size + 1]? = some (.cells #[.pointer none] 165 (0, 0))
  b3 : V.heap[w.heap.size + 1 + 1]? = some (.cells #[.int .i64 0] 35 (0, 0))
  box : V.heap[hb]? = some (.cells #[.slice a l.length c, .map (some mp), u, v] 172 (0, 0))
  map : OMapIs V mp (placeV l)
  own : Owns V (hb + 1) 3 1 u (intRows .i64 ((momsI l).take k))
theorem OB.more {w : World} {hb mp : Nat} {a : Option Addr} {c : Nat} {v : Value} {l : List Animal} {k : Nat} {u : Value} {V V' : World} (h : OB w hb mp a c v l k u V) (e : Ext V V') : OB w hb mp a c v l k u V' :=
  ⟨h.ext.trans e, e.heap h.b1, e.heap h.b2, e.heap h.b3, e.heap h.box, h.map.ext e, h.own.ext e⟩
theorem OB.put {w : World} {hb mp : Nat} {a : Option Addr} {c : Nat} {v : Value} {l : List Animal} {k : Nat} {u u' : Value} {V V' : World} (h : OB w hb mp a c v l k u V) (hhb : w.heap.size + 1 + 1 < mp) (hmh : mp < hb)
    (hg : V.grownBy V' u.ownBlock) (ho : Owns V' (hb + 1) 3 1 u' (intRows .i64 ((momsI l).take (k + 1)))) : OB w hb mp a c v l (k + 1) u' (V'.setCell ⟨hb, 2, none⟩ u') := by
  have hbu := but_grownI hg
  have hO : ∀ b, u.ownBlock = some b → hb < b := fun b hb' => (h.own.lt b hb').1
  have kp : ∀ b o, V.heap[b]? = some o → b < hb → (V'.setCell ⟨hb, 2, none⟩ u').heap[b]? = some o := fun b o h1 h2 => (Below.heap_setCell _ _ _ _ (by simp only; omega)).trans (hbu.block b o h1 fun e => by have := hO b e; omega)
  have hx := But.ext h.ext hbu fun b e => by have := hO b e; omega
  have hbx := hbu.block _ _ h.box fun e => by have := hO _ e; omega
  obtain ⟨es, ck, q1, q2⟩ := h.map
  refine ⟨hx.setCell (p := ⟨hb, 2, none⟩) (by simp only; omega) _, kp _ _ h.b1 (by omega), kp _ _ h.b2 (by omega), kp _ _ h.b3 (by omega), ?_, ⟨es, ck, kp _ _ q1 hmh, q2⟩, owns_setO ho (by omega)⟩
  rw [heap_setCell_box, hbx]
  rfl
theorem momI_root {l : List Animal} {k : Nat} {x : Animal} (h : l[k]? = some x) (e : x.mother = -1) : momI l k = -1 := by
  unfold momI
  rw [mom_root h e]
theorem momI_some {l : List Animal} {k m : Nat} {x : Animal} (h : l[k]? = some x) (e : x.mother ≠ -1) (hp : placeOf l x.mother = some m) : momI l k = m := by
  unfold momI
  rw [mom_some h e hp]
set_option maxRecDepth 100000 in
set_option maxHeartbeats 8000000 in
theorem openMoms {w W : World} {a : Option Addr} {c hb mp : Nat} {v : Value} {l : List Animal} (hok : HerdOk l) (hla : ∀ V, Ext w V → AnimalsAt V a l.length l) (hcc : l.length ≤ c ∧ c ≤ maxLen)
    (hst : OB w hb mp a c v l 0 (.slice none 0 0) W) (hhb : w.heap.size + 1 + 1 < mp) (hmh : mp < hb) {u5 u6 u7 u8 u9 u10 u11 u12 u13 u14 u15 u16 u17 u18 u19 u20 u21 u22 u23 u24 u25 u26 u27 u28 u29 u30 u31 u32 u33 u34 u35 u36 u37 u38 u39 u40 u41 u42 u43 u44 u45 u46 u47 u48 u49 u50 u51 u52 u53 u54 u55 u56 u57 u58 u59 u60 u61 u62 u63 u64 u65 u66 u67 u68 u69 u70 u71 u72 u73 u74 u75 u76 u77 u78 u79 u80 u81 u82 u83 u84 u85 u86 u87 u88 u89 u90 u91 u92 u93 u94 u95 u96 u97 u98 u99 u100 u101 u102 u103 u104 u105 u106 u107 u108 u109 u110 u111 u112 u113 u114 u115 u116 u117 u118 u119 u120 u121 u122 u123 u124 u125 u126 u127 u128 u129 u130 u131 : Value} :
    (restFrom Tryz.f108 14).wp Tryz.prog (bodyPostM Fence.wide 3 Tryz.prog Tryz.f108 (OpenPost l w))
      ⟨#[.slice a l.length c, .pointer (some ⟨w.heap.size, 0, none⟩), .pointer (some ⟨w.heap.size + 1, 0, none⟩), .pointer (some ⟨w.heap.size + 1 + 1, 0, none⟩), .pointer (some ⟨hb, 0, none⟩), u5, u6, u7, u8, u9, u10, u11, u12, u13, u14, u15, u16, u17, u18, u19, u20, u21, u22, u23, u24, u25, u26, u27, u28, u29, u30, u31, u32, u33, u34, u35, u36, u37, u38, u39, u40, u41, u42, u43, u44, u45, u46, u47, u48, u49, u50, u51, u52, u53, u54, u55, u56, u57, u58, u59, u60, u61, u62, u63, u64, u65, u66, u67, u68, u69, u70, u71, u72, u73, u74, u75, u76, u77, u78, u79, u80, u81, u82, u83, u84, u85, u86, u87, u88, u89, u90, u91, u92, u93, u94, u95, u96, u97, u98, u99, u100, u101, u102, u103, u104, u105, u106, u107, u108, u109, u110, u111, u112, u113, u114, u115, u116, u117, u118, u119, u120, u121, u122, u123, u124, u125, u126, u127, u128, u129, u130, u131], []⟩ W := by
  have hlen := hok.len
  obtain ⟨z1, _⟩ := (Ext.refl W).box hst.b1
  have Hst := Lib.hid hst
  have Hla := Lib.hid hla
  clear hst hla
  conv => arg 2; whnf
  dsimp only
  go_upto_region 15 with fail
  clear z1
  go_loopw [85] (fun i V => ∃ (k : Nat) (u : Value), i = .int .i64 k ∧ k ≤ l.length ∧ OB w hb mp a c v l k u V) (fun i _ => l.length - (intOf i).toNat)
  case atStart => exact ⟨0, _, rfl, Nat.zero_le _, Hst.out⟩
  case round =>
    obtain ⟨k, u, rfl, hk, hS⟩ := hrel
    by_cases hlt : k < l.length
    · have hltB : decide ((k : Int) < (l.length : Int)) = true := by simp; omega
      obtain ⟨b, off, x, ka, kn, kc, rfl, hxk, hbs, c0, c1, c2, c3, c4, q1, q2, hm⟩ := (Hla.out _ hS.ext).get k hlt
      clear hm
      obtain ⟨va, vc, rfl, hf0, hf1, hf2, hf3⟩ := ints_of_owns hS.own
      have hvl : ((momsI l).take k).length = k := by rw [List.length_take, momsI_len]; omega
      have hvl2 := hvl
      rw [hvl] at hf1 hf3 hS
      unfold maxLen at hf2
      have hid := (hok.each k x hxk).dam
      have hroot := @momI_root l k x hxk
      have hsome := fun j => @momI_some l k j x hxk
      have htake : (momsI l).take (k + 1) = (momsI l).take k ++ [momI l k] := by
        rw [List.take_add_one, momsI_get hlt]
        rfl
      have hlk := fun (Vq : World) (hV : Ext wr Vq) => (run_lookup_int (P := Tryz.prog) (hS.map.ext hV) Tryz.underlying169 Tryz.underlying3 (z := .int .i64 0) (by kernel_rfl) x.mother).1
      obtain ⟨id, mo, ⟨b0, b1⟩, ms⟩ := x
      simp only at c0 c1 c2 c3 hid hroot hsome hlk
      have hbs' := hbs
      have HS := Lib.hid hS
      have Hid := Lib.hid hid
      have Hroot := Lib.hid hroot
      have Hsome := Lib.hid hsome
      have Hlk := Lib.hid hlk
      have Htake := Lib.hid htake
      clear hS hid hroot hsome hlk htake
      clear hf0 hf3
      go_upto_region 17 with fail
      have hx4 : Ext wr (wr.alloc (.cells #[.int .i64 id, .int .i64 mo, .int .i64 b0, .int .i64 b1, .slice ka kn kc] 180)) := (Ext.refl wr).alloc _
      have hp4 := heap_alloc_new wr (.cells #[.int .i64 id, .int .i64 mo, .int .i64 b0, .int .i64 b1, .slice ka kn kc] 180)
      generalize wr.alloc (.cells #[.int .i64 id, .int .i64 mo, .int .i64 b0, .int .i64 b1, .slice ka kn kc] 180) = W4 at *
      generalize wr.heap.size = p12 at *
      have hS4 := HS.out.more hx4
      have hlk4 := fun (Vq : World) (hV : Ext W4 Vq) => Hlk.out Vq (hx4.trans hV)
      obtain ⟨R1, hR1⟩ : ∃ R, (placeV l mo).getD (.int .i64 0) = R := ⟨_, rfl⟩
      obtain ⟨R2, hR2⟩ : ∃ R, (placeV l mo).isSome = R := ⟨_, rfl⟩
      rw [hR1, hR2] at hlk4
      clear c0 c1 c2 c3 c4 hbs hbs' HS Hlk hx4
      have HS4 := Lib.hid hS4
      have Hp4 := Lib.hid hp4
      have Hlk4 := Lib.hid hlk4
      have HR1 := Lib.hid hR1
      have HR2 := Lib.hid hR2
      clear hS4 hp4 hlk4 hR1 hR2
      refine wp_region_ext (by kernel_rfl) (by kernel_rfl) (fun f hf hs => ?_)
      have f0 := fun q => ((hf q).box Hp4.out).1
      have f1 := fun q => ((hf q).box HS4.out.box).1
      have f2 := fun q => Hlk4.out _ (hf q)
      clear hf hs
      repeat (go_big_quiet_step (fail))
      refine wpQuiet_nil ?_
      intro W5 hW5
      clear f0 f1 f2
      have hS5 := HS4.out.more hW5
      have hp5 := hW5.heap Hp4.out
      obtain ⟨y0, y1⟩ := (Ext.refl W5).box hp5
      clear HS4 hW5 Hlk4
      have HS5 := Lib.hid hS5
      clear hS5
      by_cases hm1 : mo = -1
      · have hB : (mo == -1) = true := by simpa using hm1
        have hB' : decide (mo = -1) = true := decide_eq_true hm1
        have hmm := Hroot.out hm1
        have hb5 := HS5.out.box
        obtain ⟨y2, y3⟩ := (Ext.refl W5).box hb5
        have hown5 := HS5.out.own.alloc (.cells #[.int .i64 (momI l k)] 3)
        have hsrc5 := one_int W5 (momI l k) 3
        have hhb5 := heap_lt hb5
        clear hb5
        obtain ⟨MM, hMM⟩ : ∃ M, momI l k = M := ⟨_, rfl⟩
        rw [hMM] at hown5 hsrc5
        have Hown5 := Lib.hid hown5
        have Hsrc5 := Lib.hid hsrc5
        have HMM := Lib.hid hMM
        clear hown5 hsrc5 hMM
        have hM1 : MM = -1 := by rw [← HMM.out]; exact hmm
        subst hM1
        clear hm1
        have hSa := HS5.out.more ((Ext.refl W5).alloc (.cells #[.int .i64 (-1)] 3))
        have hrl : ((intRows .i64 ((momsI l).take k)).length : Nat) = k := by simp [intRows, momsI_len]; omega
        have hne : ¬((Value.slice va k vc).ownBlock = some hb) := fun e => by have := (HS5.out.own.lt hb e).1; omega
        have hl6 : ((momsI l).take k ++ [(-1)]).length = k + 1 := by rw [List.length_append, hvl2]; rfl
        have HSa := Lib.hid hSa
        have Hne := Lib.hid hne
        have Hl6 := Lib.hid hl6
        clear hSa hne hl6
        clear hmm
        go_wp2_with (at_builtin; refine wpList_app elemI34 _ rfl (.tmp 108) (.tmp 110) rfl (hb + 1) (.slice va k vc) (intRows .i64 ((momsI l).take k)) rfl Hown5.out (some ⟨W5.heap.size, 0, none⟩) 1 1 (intRows .i64 [(-1)]) rfl rfl Hsrc5.out (intRows_row _ _) (by rw [hrl]; omega) (by simp; omega) ?_; intro v6 w6 ho6 hg6 _; rw [← intRows_append] at ho6; obtain ⟨a6, c6, e6, _, _, _, _⟩ := ints_of_owns ho6; rw [Hl6.out] at e6; subst e6; have hb6 := (but_grownI hg6).block _ _ HSa.out.box Hne.out; clear y2 y3; obtain ⟨y2, y3⟩ := (Ext.refl w6).box hb6; have hlt6 := heap_lt hb6; clear hb6; have Ho6 := Lib.hid ho6; have Hg6 := Lib.hid hg6; clear ho6 hg6)
        go_roundw
        case rel => exact ⟨k + 1, _, by go_num, by omega, HSa.out.put hhb hmh Hg6.out (by rw [Htake.out, HMM.out]; exact Ho6.out)⟩
        case measure => simp [intOf]; omega
      · have hB : (mo == -1) = false := by simpa using hm1
        have hB' : decide (mo = -1) = false := decide_eq_false hm1
        obtain ⟨m, hpm⟩ := Hid.out.resolve_left hm1
        have hmm := Hsome.out m hm1 hpm
        have hr1 : R1 = .int .i64 (m : Int) := by
          rw [← HR1.out]
          unfold placeV
          rw [hpm]
          rfl
        have hr2 : R2 = true := by
          rw [← HR2.out]
          unfold placeV
          rw [hpm]
          rfl
        subst hr1 hr2
        have hb5 := HS5.out.box
        obtain ⟨y2, y3⟩ := (Ext.refl W5).box hb5
        have hown5 := HS5.out.own.alloc (.cells #[.int .i64 (momI l k)] 3)
        have hsrc5 := one_int W5 (momI l k) 3
        have hhb5 := heap_lt hb5
        clear hb5
        obtain ⟨MM, hMM⟩ : ∃ M, momI l k = M := ⟨_, rfl⟩
        rw [hMM] at hown5 hsrc5
        have Hown5 := Lib.hid hown5
        have Hsrc5 := Lib.hid hsrc5
        have HMM := Lib.hid hMM
        clear hown5 hsrc5 hMM
        have hM1 : MM = (m : Int) := by rw [← HMM.out]; exact hmm
        subst hM1
        clear hm1 hpm
        have hSa := HS5.out.more ((Ext.refl W5).alloc (.cells #[.int .i64 ((m : Nat) : Int)] 3))
        have hrl : ((intRows .i64 ((momsI l).take k)).length : Nat) = k := by simp [intRows, momsI_len]; omega
        have hne : ¬((Value.slice va k vc).ownBlock = some hb) := fun e => by have := (HS5.out.own.lt hb e).1; omega
        have hl6 : ((momsI l).take k ++ [((m : Nat) : Int)]).length = k + 1 := by rw [List.length_append, hvl2]; rfl
        have HSa := Lib.hid hSa
        have Hne := Lib.hid hne
        have Hl6 := Lib.hid hl6
        clear hSa hne hl6
        clear hmm
        go_wp2_with (at_builtin; refine wpList_app elemI34 _ rfl (.tmp 108) (.tmp 110) rfl (hb + 1) (.slice va k vc) (intRows .i64 ((momsI l).take k)) rfl Hown5.out (some ⟨W5.heap.size, 0, none⟩) 1 1 (intRows .i64 [((m : Nat) : Int)]) rfl rfl Hsrc5.out (intRows_row _ _) (by rw [hrl]; omega) (by simp; omega) ?_; intro v6 w6 ho6 hg6 _; rw [← intRows_append] at ho6; obtain ⟨a6, c6, e6, _, _, _, _⟩ := ints_of_owns ho6; rw [Hl6.out] at e6; subst e6; have hb6 := (but_grownI hg6).block _ _ HSa.out.box Hne.out; clear y2 y3; obtain ⟨y2, y3⟩ := (Ext.refl w6).box hb6; have hlt6 := heap_lt hb6; clear hb6; have Ho6 := Lib.hid ho6; have Hg6 := Lib.hid hg6; clear ho6 hg6)
        go_roundw
        case rel => exact ⟨k + 1, _, by go_num, by omega, HSa.out.put hhb hmh Hg6.out (by rw [Htake.out, HMM.out]; exact Ho6.out)⟩
        case measure => simp [intOf]; omega
    · have hltB : decide ((k : Int) < (l.length : Int)) = false := by simp; omega
      obtain rfl : k = l.length := by omega
      have hall : (momsI l).take l.length = momsI l := List.take_of_length_le (by rw [momsI_len]; omega)
      have how := hS.own
      rw [hall] at how
      obtain ⟨va, vc, rfl, hf0, hf1, hf2, hf3⟩ := ints_of_owns how
      rw [momsI_len] at hf1 hf3 hS
      have hin : HerdIn wr hb a c mp va vc v l := ⟨hS.box, ⟨hf1, hf2⟩, Hla.out _ hS.ext, hcc, hS.map, hf3⟩
      have hx := hS.ext
      have g1 := hS.b1
      have g2 := hS.b2
      have g3 := hS.b3
      have Hin := Lib.hid hin
      have Hx := Lib.hid hx
      have G1 := Lib.hid g1
      have G2 := Lib.hid g2
      have G3 := Lib.hid g3
      have Hf0 := Lib.hid hf0
      clear hin hx g1 g2 g3 hf0
      clear hS how hf3 hall
      go_upto_if 86 with fail
      iterate 6 go_step
      exact openTail hok (Hla.out _ (Ext.refl _)) Hx.out G1.out G2.out G3.out Hin.out (by omega) (fun x hx => by have := Hf0.out x hx; omega)
end Go.Proofs.YtcoelhpmkhimpaaGreatDoor

namespace Go.Proofs.YtcoelhpmkhimpaaGreatDoor
open Go.RowKit
set_option linter.unusedVariables false
set_option linter.unusedSimpArgs false
theorem indexFunc_int141 (a : Option Addr) (n cap q0 q1 : Nat) (l : List Int) (p : Int → Bool) (w : World) (hl : IntsAt .i64 w a n l) (hn : n ≤ 1000000000)
    (hp : ∀ o, o ∈ l → ∀ W, Ext w W → Calls Tryz.prog 138 #[.int .i64 o, .pointer (some ⟨q0, 0, none⟩), .pointer (some ⟨q1, 0, none⟩)] W fun e W' => e = .returned (.bool (p o)) ∧ Ext W W') :
    Calls Tryz.prog 86 #[.slice a n cap, .func (.func 138) #[] #[.pointer (some ⟨q0, 0, none⟩), .pointer (some ⟨q1, 0, none⟩)]] w fun e w' =>
      e = .returned (.int .i64 (idxI p l)) ∧ Ext w w' := by
  have Hp := Lib.hid hp
  have Hl := Lib.hid hl
  clear hp hl
  go_enter Tryz.func86, Tryz.ntmps86
  go_wp2_with fail
  go_loopw [5, 8] (fun i5 i8 wr => ∃ k : Nat, k ≤ n ∧ i8 = .int .i64 k ∧ Ext w wr ∧ ∀ (j : Nat) (y : Int), j < k → l[j]? = some y → p y = false) (fun _ i8 _ => n - (intOf i8).toNat)
  case atStart => exact ⟨0, Nat.zero_le _, rfl, Ext.refl _, fun j y h => by omega⟩
  case round =>
    obtain ⟨k, hk, rfl, hx, hall⟩ := hrel
    have Hall := Lib.hid hall
    clear hall
    by_cases hlt : k < n
    · obtain ⟨b, off, x, rfl, hxk, hb, c0⟩ := (Hl.out.ext hx).get k hlt
      have Hxk := Lib.hid hxk
      clear hxk
      have hc := Hp.out x (List.mem_of_getElem? Hxk.out) wr hx
      have Hc := Lib.hid hc
      clear hc
      cases hpx : p x with
      | true =>
        have Hpx := Lib.hid hpx
        rw [hpx] at Hc
        clear hpx
        go_wp2_with (go_at_call 138; refine Hc.out.mono ?_; rintro e w' ⟨rfl, hb⟩)
        go_ret
        exact ⟨ret_int (idxI_some Hxk.out Hpx.out Hall.out).symm, hx.trans (by assumption)⟩
      | false =>
        have Hpx := Lib.hid hpx
        rw [hpx] at Hc
        clear hpx
        go_wp2_with (go_at_call 138; refine Hc.out.mono ?_; rintro e w' ⟨rfl, hb⟩)
        go_roundw
        case rel => exact ⟨k + 1, by omega, by go_num, hx.trans (by assumption), fun j y hj hy => by
            rcases Nat.lt_or_ge j k with h | h
            · exact Hall.out j y h hy
            · have e : j = k := by omega
              subst e
              have := Hxk.out
              rw [hy] at this
              cases this
              exact Hpx.out⟩
        case measure => simp [intOf]; omega
    · go_wp2_with fail
      go_ret
      refine ⟨ret_int ?_, hx⟩
      refine (idxI_none (fun j y hy => Hall.out j y ?_ hy)).symm
      have h1 := Hl.out.1
      rcases Nat.lt_or_ge j l.length with h | h
      · omega
      · simp [List.getElem?_eq_none h] at hy

theorem contains_int141 (a : Option Addr) (n cap q0 q1 : Nat) (l : List Int) (p : Int → Bool) (w : World) (hl : IntsAt .i64 w a n l) (hn : n ≤ 1000000000)
    (hp : ∀ o, o ∈ l → ∀ W, Ext w W → Calls Tryz.prog 138 #[.int .i64 o, .pointer (some ⟨q0, 0, none⟩), .pointer (some ⟨q1, 0, none⟩)] W fun e W' => e = .returned (.bool (p o)) ∧ Ext W W') :
    Calls Tryz.prog 53 #[.slice a n cap, .func (.func 138) #[] #[.pointer (some ⟨q0, 0, none⟩), .pointer (some ⟨q1, 0, none⟩)]] w fun e w' =>
      e = .returned (.bool (l.any p)) ∧ Ext w w' := by
  have Hc := Lib.hid (indexFunc_int141 a n cap q0 q1 l p w hl hn hp)
  clear hp hl
  go_enter Tryz.func53, Tryz.ntmps53
  go_wp2_with (go_at_call 86; refine Hc.out.mono ?_; rintro e w' ⟨rfl, hb⟩)
  go_ret
  exact ⟨ret_bool (idxI_ge p l), by assumption⟩


/-! ### over span, closure 113 -/
set_option maxHeartbeats 400000 in

theorem indexFunc_span142 (a : Option Addr) (n cap q0 q1 : Nat) (l : List Span) (p : Span → Bool) (w : World) (hl : SpansAt w a n l) (hn : n ≤ 1000000000)
    (hp : ∀ o, o ∈ l → ∀ W, Ext w W → Calls Tryz.prog 139 #[o.val, .pointer (some ⟨q0, 0, none⟩), .pointer (some ⟨q1, 0, none⟩)] W fun e W' => e = .returned (.bool (p o)) ∧ Ext W W') :
    Calls Tryz.prog 124 #[.slice a n cap, .func (.func 139) #[] #[.pointer (some ⟨q0, 0, none⟩), .pointer (some ⟨q1, 0, none⟩)]] w fun e w' =>
      e = .returned (.int .i64 (idxI p l)) ∧ Ext w w' := by
  have Hp := Lib.hid hp
  have Hl := Lib.hid hl
  clear hp hl
  go_enter Tryz.func124, Tryz.ntmps124
  go_wp2_with fail
  go_loopw [5, 8] (fun i5 i8 wr => ∃ k : Nat, k ≤ n ∧ i8 = .int .i64 k ∧ Ext w wr ∧ ∀ (j : Nat) (y : Span), j < k → l[j]? = some y → p y = false) (fun _ i8 _ => n - (intOf i8).toNat)
  case atStart => exact ⟨0, Nat.zero_le _, rfl, Ext.refl _, fun j y h => by omega⟩
  case round =>
    obtain ⟨k, hk, rfl, hx, hall⟩ := hrel
    have Hall := Lib.hid hall
    clear hall
    by_cases hlt : k < n
    · obtain ⟨b, off, x, rfl, hxk, hb, c0, c1⟩ := (Hl.out.ext hx).get k hlt
      have Hxk := Lib.hid hxk
      clear hxk
      have hc := Hp.out x (List.mem_of_getElem? Hxk.out) wr hx
      have Hc := Lib.hid hc
      clear hc
      cases hpx : p x with
      | true =>
        have Hpx := Lib.hid hpx
        rw [hpx] at Hc
        clear hpx
        go_wp2_with (go_at_call 139; refine Hc.out.mono ?_; rintro e w' ⟨rfl, hb⟩)
        go_ret
        exact ⟨ret_int (idxI_some Hxk.out Hpx.out Hall.out).symm, hx.trans (by assumption)⟩
      | false =>
        have Hpx := Lib.hid hpx
        rw [hpx] at Hc
        clear hpx
        go_wp2_with (go_at_call 139; refine Hc.out.mono ?_; rintro e w' ⟨rfl, hb⟩)
        go_roundw
        case rel => exact ⟨k + 1, by omega, by go_num, hx.trans (by assumption), fun j y hj hy => by
            rcases Nat.lt_or_ge j k with h | h
            · exact Hall.out j y h hy
            · have e : j = k := by omega
              subst e
              have := Hxk.out
              rw [hy] at this
              cases this
              exact Hpx.out⟩
        case measure => simp [intOf]; omega
    · go_wp2_with fail
      go_ret
      refine ⟨ret_int ?_, hx⟩
      refine (idxI_none (fun j y hy => Hall.out j y ?_ hy)).symm
      have h1 := Hl.out.1
      rcases Nat.lt_or_ge j l.length with h | h
      · omega
      · simp [List.getElem?_eq_none h] at hy

theorem contains_span142 (a : Option Addr) (n cap q0 q1 : Nat) (l : List Span) (p : Span → Bool) (w : World) (hl : SpansAt w a n l) (hn : n ≤ 1000000000)
    (hp : ∀ o, o ∈ l → ∀ W, Ext w W → Calls Tryz.prog 139 #[o.val, .pointer (some ⟨q0, 0, none⟩), .pointer (some ⟨q1, 0, none⟩)] W fun e W' => e = .returned (.bool (p o)) ∧ Ext W W') :
    Calls Tryz.prog 99 #[.slice a n cap, .func (.func 139) #[] #[.pointer (some ⟨q0, 0, none⟩), .pointer (some ⟨q1, 0, none⟩)]] w fun e w' =>
      e = .returned (.bool (l.any p)) ∧ Ext w w' := by
  have Hc := Lib.hid (indexFunc_span142 a n cap q0 q1 l p w hl hn hp)
  clear hp hl
  go_enter Tryz.func99, Tryz.ntmps99
  go_wp2_with (go_at_call 124; refine Hc.out.mono ?_; rintro e w' ⟨rfl, hb⟩)
  go_ret
  exact ⟨ret_bool (idxI_ge p l), by assumption⟩


/-! ### over span, closure 133 -/
set_option maxHeartbeats 400000 in

theorem fromFnB_any (x lo hi : Int) (c d : Nat) (w : World) (hc : w.cell? ⟨c, 0, none⟩ = some (.int .i64 lo)) (hd : w.cell? ⟨d, 0, none⟩ = some (.int .i64 hi)) :
    Calls Tryz.prog 138 #[.int .i64 x, .pointer (some ⟨c, 0, none⟩), .pointer (some ⟨d, 0, none⟩)] w fun e w' => e = .returned (.bool (!inB x lo hi)) ∧ Ext w w' := by
  rw [inB_not]
  by_cases h1 : x < lo
  · have b1 : decide (x < lo) = true := decide_eq_true h1
    go_enter Tryz.func138, Tryz.ntmps138
    go_wp2_with fail
    go_ret
    exact ⟨ret_bool (by rw [b1]; rfl), Ext.refl _⟩
  · have b1 : decide (x < lo) = false := decide_eq_false h1
    by_cases h2 : hi < x
    · have b2 : decide (hi < x) = true := decide_eq_true h2
      go_enter Tryz.func138, Tryz.ntmps138
      go_wp2_with fail
      go_ret
      exact ⟨rfl, Ext.refl _⟩
    · have b2 : decide (hi < x) = false := decide_eq_false h2
      go_enter Tryz.func138, Tryz.ntmps138
      go_wp2_with fail
      go_ret
      exact ⟨rfl, Ext.refl _⟩
theorem fromB_any (lo hi : Int) (a : Option Addr) (n cap : Nat) (l : List Int) (w : World) (hl : IntsAt .i64 w a n l) (hn : n ≤ 1000) :
    Calls Tryz.prog 129 #[.int .i64 lo, .int .i64 hi, .slice a n cap] w fun e w' => e = .returned (.bool (l.all fun x => inB x lo hi)) ∧ Ext w w' := by
  have hx1 : Ext w ((w.alloc (.cells #[.int .i64 lo] 3)).alloc (.cells #[.int .i64 hi] 3)) := ((Ext.refl _).alloc _).alloc _
  have hb1 := heap_alloc_new w (.cells #[.int .i64 lo] 3)
  have hb2 := heap_alloc_new (w.alloc (.cells #[.int .i64 lo] 3)) (.cells #[.int .i64 hi] 3)
  rw [show (w.alloc (.cells #[.int .i64 lo] 3)).heap.size = w.heap.size + 1 by simp] at hb2
  have hb1' := ((Ext.refl (w.alloc (.cells #[.int .i64 lo] 3))).alloc (.cells #[.int .i64 hi] 3)).heap hb1
  have c1 := ((Ext.refl _).box hb1').1 0
  have c2 := ((Ext.refl _).box hb2).1 0
  have hc := contains_int141 a n cap w.heap.size (w.heap.size + 1) l (fun x => !inB x lo hi) _ (hl.ext hx1) (by omega) (fun o _ W hW => fromFnB_any o lo hi _ _ W (hW.cell c1) (hW.cell c2))
  have Hc := Lib.hid hc
  have Hx1 := Lib.hid hx1
  clear hc hx1
  clear hl hb1 hb2 hb1' c1 c2
  go_enter Tryz.func129, Tryz.ntmps129
  go_wp2_with (go_at_call 53; refine Hc.out.mono ?_; rintro e w3 ⟨rfl, hx3⟩)
  go_ret
  exact ⟨ret_bool (any_not (fun x => inB x lo hi) l), Hx1.out.trans hx3⟩
theorem fromB1 {lo hi x : Int} {r : Bool} {w : World} {b : Nat} (hb : w.heap[b]? = some (.cells #[.int .i64 x] 3 (0, 0))) (hr : inB x lo hi = r) : Calls Tryz.prog 129 #[.int .i64 lo, .int .i64 hi, .slice (some ⟨b, 0, none⟩) 1 1] w fun e w' => e = .returned (.bool r) ∧ Ext w w' := by
  have := fromB_any lo hi (some ⟨b, 0, none⟩) 1 1 [x] w (ints_built (l := [x]) hb) (by omega)
  subst hr
  simpa using this
theorem fromB2 {lo hi x y : Int} {r : Bool} {w : World} {b : Nat} (hb : w.heap[b]? = some (.cells #[.int .i64 x, .int .i64 y] 3 (0, 0))) (hr : (inB x lo hi && inB y lo hi) = r) : Calls Tryz.prog 129 #[.int .i64 lo, .int .i64 hi, .slice (some ⟨b, 0, none⟩) 2 2] w fun e w' => e = .returned (.bool r) ∧ Ext w w' := by
  have := fromB_any lo hi (some ⟨b, 0, none⟩) 2 2 [x, y] w (ints_built (l := [x, y]) hb) (by omega)
  subst hr
  simpa using this
theorem ordFnB_any (s : Span) (lo hi : Int) (c d : Nat) (w : World) (hc : w.cell? ⟨c, 0, none⟩ = some (.int .i64 lo)) (hd : w.cell? ⟨d, 0, none⟩ = some (.int .i64 hi)) :
    Calls Tryz.prog 139 #[s.val, .pointer (some ⟨c, 0, none⟩), .pointer (some ⟨d, 0, none⟩)] w fun e w' => e = .returned (.bool (!spanOk s lo hi)) ∧ Ext w w' := by
  obtain ⟨a, b⟩ := s
  rw [spanOk_not]
  unfold Span.val
  simp only
  have hcb : c < w.heap.size := block_lt_of_cell hc
  have hdb : d < w.heap.size := block_lt_of_cell hd
  by_cases h1 : b < a
  · have b1 : decide (b < a) = true := decide_eq_true h1
    go_enter Tryz.func139, Tryz.ntmps139
    go_wp2_with fail
    go_ret
    exact ⟨ret_bool (by rw [b1]; rfl), (Ext.refl _).alloc _⟩
  · have b1 : decide (b < a) = false := decide_eq_false h1
    obtain ⟨P, hP⟩ : ∃ P, (inB a lo hi && inB b lo hi) = P := ⟨_, rfl⟩
    rw [b1, hP]
    have HP := Lib.hid hP
    clear hP h1
    go_enter Tryz.func139, Tryz.ntmps139
    go_wp2_with (go_at_call 129; refine (fromB2 (alloc_at _ _ _ (by simp)) HP.out).mono ?_; rintro e w3 ⟨rfl, hx3⟩)
    go_ret
    exact ⟨rfl, (((Ext.refl _).alloc _).alloc _).trans hx3⟩
theorem ordB_any (lo hi : Int) (a : Option Addr) (n cap : Nat) (l : List Span) (w : World) (hl : SpansAt w a n l) (hn : n ≤ 1000) :
    Calls Tryz.prog 130 #[.int .i64 lo, .int .i64 hi, .slice a n cap] w fun e w' => e = .returned (.bool (l.all fun x => spanOk x lo hi)) ∧ Ext w w' := by
  have hx1 : Ext w ((w.alloc (.cells #[.int .i64 lo] 3)).alloc (.cells #[.int .i64 hi] 3)) := ((Ext.refl _).alloc _).alloc _
  have hb1 := heap_alloc_new w (.cells #[.int .i64 lo] 3)
  have hb2 := heap_alloc_new (w.alloc (.cells #[.int .i64 lo] 3)) (.cells #[.int .i64 hi] 3)
  rw [show (w.alloc (.cells #[.int .i64 lo] 3)).heap.size = w.heap.size + 1 by simp] at hb2
  have hb1' := ((Ext.refl (w.alloc (.cells #[.int .i64 lo] 3))).alloc (.cells #[.int .i64 hi] 3)).heap hb1
  have c1 := ((Ext.refl _).box hb1').1 0
  have c2 := ((Ext.refl _).box hb2).1 0
  have hc := contains_span142 a n cap w.heap.size (w.heap.size + 1) l (fun x => !spanOk x lo hi) _ (hl.ext hx1) (by omega) (fun o _ W hW => ordFnB_any o lo hi _ _ W (hW.cell c1) (hW.cell c2))
  have Hc := Lib.hid hc
  have Hx1 := Lib.hid hx1
  clear hc hx1
  clear hl hb1 hb2 hb1' c1 c2
  go_enter Tryz.func130, Tryz.ntmps130
  go_wp2_with (go_at_call 99; refine Hc.out.mono ?_; rintro e w3 ⟨rfl, hx3⟩)
  go_ret
  exact ⟨ret_bool (any_not (fun x => spanOk x lo hi) l), Hx1.out.trans hx3⟩
theorem ordB1 {lo hi x0 x1 : Int} {r : Bool} {w : World} {b : Nat} (hb : w.heap[b]? = some (.cells #[.int .i64 x0, .int .i64 x1] 23 (0, 0))) (hr : spanOk ⟨x0, x1⟩ lo hi = r) : Calls Tryz.prog 130 #[.int .i64 lo, .int .i64 hi, .slice (some ⟨b, 0, none⟩) 1 1] w fun e w' => e = .returned (.bool r) ∧ Ext w w' := by
  have := ordB_any lo hi (some ⟨b, 0, none⟩) 1 1 [⟨x0, x1⟩] w (spans_built (l := [⟨x0, x1⟩]) hb) (by omega)
  subst hr
  simpa using this
theorem ordB2 {lo hi x0 x1 y0 y1 : Int} {r : Bool} {w : World} {b : Nat} (hb : w.heap[b]? = some (.cells #[.int .i64 x0, .int .i64 x1, .int .i64 y0, .int .i64 y1] 23 (0, 0))) (hr : (spanOk ⟨x0, x1⟩ lo hi && spanOk ⟨y0, y1⟩ lo hi) = r) : Calls Tryz.prog 130 #[.int .i64 lo, .int .i64 hi, .slice (some ⟨b, 0, none⟩) 2 2] w fun e w' => e = .returned (.bool r) ∧ Ext w w' := by
  have := ordB_any lo hi (some ⟨b, 0, none⟩) 2 2 [⟨x0, x1⟩, ⟨y0, y1⟩] w (spans_built (l := [⟨x0, x1⟩, ⟨y0, y1⟩]) hb) (by omega)
  subst hr
  simpa using this

end Go.Proofs.YtcoelhpmkhimpaaGreatDoor

namespace Go.Proofs.YtcoelhpmkhimpaaGreatDoor
open Go.RowKit
set_option linter.unusedVariables false
set_option linter.unusedSimpArgs false
def ivs (S : List Int) : Array Value := (S.map (Value.int .i64)).toArray
theorem ivs_size (S : List Int) : (ivs S).size = S.length := by simp [ivs]
theorem ivs_get {S : List Int} {k : Nat} (h : k < S.length) : (ivs S)[k]? = some (.int .i64 (S.getD k 0)) := by
  unfold ivs
  rw [List.getElem?_toArray, List.getElem?_map, List.getElem?_eq_getElem h, List.getD_eq_getElem?_getD, List.getElem?_eq_getElem h]
  rfl
theorem ivs_set (S : List Int) (k : Nat) (v : Int) : (ivs S).setIfInBounds k (.int .i64 v) = ivs (S.set k v) := by
  unfold ivs
  rw [List.setIfInBounds_toArray, List.map_set]
theorem ivs_one (S : List Int) : (ivs S).all (·.oneCell') = true := by
  rw [← Array.all_toList, List.all_eq_true]
  intro x hx
  simp only [ivs, List.mem_map] at hx
  obtain ⟨_, _, rfl⟩ := hx
  rfl
def z8s : List Int := [0, 0, 0, 0, 0, 0, 0, 0]
/-- which spots bear a sign -/
def Signs (l : List Mark) (k : Nat) (S : List Int) : Prop := S.length = 8 ∧ ∀ p : Nat, p < 8 → S.getD p 0 ≠ 0 → ∃ j m, j < k ∧ l[j]? = some m ∧ m.spot = p
theorem signs_zero (l : List Mark) : Signs l 0 z8s := ⟨rfl, fun p hp h => by
  exfalso
  match p, hp with
  | 0, _ => exact h rfl
  | 1, _ => exact h rfl
  | 2, _ => exact h rfl
  | 3, _ => exact h rfl
  | 4, _ => exact h rfl
  | 5, _ => exact h rfl
  | 6, _ => exact h rfl
  | 7, _ => exact h rfl⟩
theorem Signs.free {l : List Mark} {k : Nat} {S : List Int} (h : Signs l k S) (hk : MarkIs l k) {m : Mark} (hm : l[k]? = some m) {p : Nat} (hp : m.spot = p) : S.getD p 0 = 0 := by
  obtain ⟨h1, h2, h3⟩ := hk m hm
  by_cases e : S.getD p 0 = 0
  · exact e
  · obtain ⟨j, x, hj, hx, hs⟩ := h.2 p (by omega) e
    exact absurd (hs.trans hp.symm) (h3 j x hj hx)
theorem Signs.next {l : List Mark} {k : Nat} {S : List Int} (h : Signs l k S) {m : Mark} (hm : l[k]? = some m) {p : Nat} (hp : m.spot = p) (v : Int) : Signs l (k + 1) (S.set p v) := by
  refine ⟨by rw [List.length_set]; exact h.1, fun q hq hne => ?_⟩
  by_cases e : q = p
  · subst e
    exact ⟨k, m, by omega, hm, hp⟩
  · have hs : (S.set p v).getD q 0 = S.getD q 0 := by
      rw [List.getD_eq_getElem?_getD, List.getD_eq_getElem?_getD, List.getElem?_set_ne (Ne.symm e)]
    rw [hs] at hne
    obtain ⟨j, x, hj, hx, hs⟩ := h.2 q hq hne
    exact ⟨j, x, by omega, hx, hs⟩
structure SgSt (w : World) (p2 p4 : Nat) (S : List Int) (W : World) : Prop where
  ext : Ext w W
  b2 : W.heap[p2]? = some (.cells (ivs z8s) 196 (0, 0))
  b4 : W.heap[p4]? = some (.cells (ivs S) 196 (0, 0))
theorem SgSt.more {w W W' : World} {p2 p4 : Nat} {S : List Int} (h : SgSt w p2 p4 S W) (e : Ext W W') : SgSt w p2 p4 S W' := ⟨h.ext.trans e, e.heap h.b2, e.heap h.b4⟩
theorem SgSt.put {w W : World} {p2 p4 : Nat} {S : List Int} (h : SgSt w p2 p4 S W) (hp : w.heap.size ≤ p4) (hne : p2 ≠ p4) (k : Nat) (v : Int) : SgSt w p2 p4 (S.set k v) (W.setCell ⟨p4, k, none⟩ (.int .i64 v)) :=
  ⟨h.ext.setCell (p := ⟨p4, k, none⟩) hp _, (Below.heap_setCell _ _ _ _ hne).trans h.b2, by rw [heap_setCell_box, h.b4]; exact congrArg (fun x => some (Obj.cells x 196 (0, 0))) (ivs_set S k v)⟩
set_option maxRecDepth 100000 in
set_option maxHeartbeats 4000000 in
theorem signed_any (x : Animal) (ka : Option Addr) (kn kc : Nat) (w : World) (hm : MarksAt w ka kn x.marks) (hkc : kn ≤ kc) (hkm : kc ≤ maxLen) (hok : MarksOk x.marks) :
    Calls Tryz.prog 128 #[.agg #[.int .i64 x.id, .int .i64 x.mother, .int .i64 x.born.lo, .int .i64 x.born.hi, .slice ka kn kc]] w fun e w' => ∃ S, S.length = 8 ∧ e = .returned (.tuple #[.agg (ivs S), .bool true]) ∧ Ext w w' := by
  obtain ⟨id, mo, ⟨b0, b1⟩, ms⟩ := x
  simp only at hm hok ⊢
  have hml := hm.1
  unfold maxLen at hkm
  have hbx := heap_alloc_new w (.cells #[.int .i64 id, .int .i64 mo, .int .i64 b0, .int .i64 b1, .slice ka kn kc] 180)
  have Hm := Lib.hid hm
  have Hok := Lib.hid hok
  clear hm hok
  go_enter Tryz.func128, Tryz.ntmps128
  go_upto_region 3 with fail
  have hW : ∃ W, ((w.alloc (.cells #[.int .i64 id, .int .i64 mo, .int .i64 b0, .int .i64 b1, .slice ka kn kc] 180)).alloc (.cells (ivs z8s) 196)).alloc (.cells (ivs z8s) 196) = W := ⟨_, rfl⟩
  obtain ⟨W0, hW0⟩ := hW
  have st0 : SgSt w (w.heap.size + 1) (w.heap.size + 1 + 1) z8s W0 := by
    rw [← hW0]
    refine ⟨(((Ext.refl w).alloc _).alloc _).alloc _, ?_, ?_⟩
    · exact ((Ext.refl _).alloc _).heap (alloc_at _ _ _ (by simp))
    · exact alloc_at _ _ _ (by simp)
  change Code.wp _ _ _ _ (((w.alloc (.cells #[.int .i64 id, .int .i64 mo, .int .i64 b0, .int .i64 b1, .slice ka kn kc] 180)).alloc (.cells (ivs z8s) 196)).alloc (.cells (ivs z8s) 196))
  rw [hW0]
  clear hW0 hbx
  have St0 := Lib.hid st0
  clear st0
  go_loopw [10] (fun i W => ∃ k S, i = .int .i64 (k : Nat) ∧ k ≤ kn ∧ Signs ms k S ∧ SgSt w (w.heap.size + 1) (w.heap.size + 1 + 1) S W) (fun i _ => kn - (intOf i).toNat)
  case atStart => exact ⟨0, z8s, rfl, Nat.zero_le _, signs_zero ms, St0.out⟩
  case round =>
    obtain ⟨k, S, rfl, hk, hS, st⟩ := hrel
    by_cases hlt : k < kn
    · have hltB : decide ((k : Int) < (kn : Int)) = true := by simp; omega
      obtain ⟨b, off, x, rfl, hxk, hbs, c0, c1⟩ := (Hm.out.ext st.ext).get k hlt
      obtain ⟨h1, h2, h3⟩ := Hok.out k x hxk
      obtain ⟨R, hR⟩ : ∃ R : Nat, x.spot = R := ⟨x.spot.toNat, by omega⟩
      have hR8 : R < 8 := by omega
      have hfree := hS.free (Hok.out k) hxk hR
      have hnext := hS.next hxk hR x.sign
      have hi1 : inB (R : Int) 0 7 = true := by simp [inB]; omega
      have hi2 : inB x.sign 1 20 = true := by simp [inB]; omega
      have hlt8 : decide ((R : Int) < 8) = true := by simp; omega
      have hcell := ivs_get (S := S) (k := R) (by rw [hS.1]; exact hR8)
      rw [hfree] at hcell
      rw [hR] at c0
      obtain ⟨sp, sg⟩ := x
      simp only at c1 hi2 hnext
      clear hS hxk h1 h2 h3 hR hfree
      have St := Lib.hid st
      have Hnext := Lib.hid hnext
      have Hi1 := Lib.hid hi1
      have Hi2 := Lib.hid hi2
      have Hcell := Lib.hid hcell
      clear st hnext hi1 hi2 hcell
      go_upto_region 5 with fail
      have st6 := St.out.more ((Ext.refl wr).alloc (.cells #[.int .i64 (R : Int), .int .i64 sg] 204))
      have hp6 := heap_alloc_new wr (.cells #[.int .i64 (R : Int), .int .i64 sg] 204)
      generalize wr.alloc (.cells #[.int .i64 (R : Int), .int .i64 sg] 204) = W6 at *
      generalize wr.heap.size = p6 at *
      obtain ⟨y6, _⟩ := (Ext.refl W6).box hp6
      clear c0 c1 hbs St
      have St6 := Lib.hid st6
      have Hp6 := Lib.hid hp6
      clear st6 hp6
      go_upto_if 32 with (first
        | (have q := hx1; clear q; go_at_call 129; refine (fromB1 (alloc_at _ _ _ (by simp)) Hi2.out).mono ?_; rintro e v2 ⟨rfl, hx2⟩; have hv2 := (hv1.alloc _).trans hx2; obtain ⟨y6, _⟩ := (Ext.refl v2).box (hv2.heap Hp6.out); have hy4 := (St6.out.more hv2).b4; have y5 := (((Ext.refl v2).box hy4).1 R).trans Hcell.out; have f4 := ((Ext.refl v2).box hy4).2; have q4 := heap_lt hy4; clear hy4)
        | (go_at_call 129; refine (fromB1 (alloc_at _ _ _ (by simp)) Hi1.out).mono ?_; rintro e v1 ⟨rfl, hx1⟩; have hv1 := ((Ext.refl W6).alloc _).trans hx1; clear y6; obtain ⟨y6, _⟩ := (Ext.refl v1).box (hv1.heap Hp6.out)))
      have st9 := (St6.out.more hv2).put (by omega) (by omega) R sg
      clear hx1 hx2 hv1 hv2
      have St9 := Lib.hid st9
      clear st9
      go_wp2_with fail
      go_roundw
      case rel => exact ⟨k + 1, S.set R sg, by go_num, by omega, Hnext.out, St9.out⟩
      case measure => simp [intOf]; omega
    · have hltB : decide ((k : Int) < (kn : Int)) = false := by simp; omega
      have hS8 := hS.1
      have hb2 := st.b2
      have hb4 := st.b4
      have hset := setRow_heap wr (w.heap.size + 1) _ (ivs S) 196 (0, 0) hb2
      have hxe := below_setRow st.ext (show w.heap.size ≤ w.heap.size + 1 by omega) (ivs S)
      have hz1 : (Tryz.prog.info? 196).map (·.size) = some (ivs S).size := by rw [ivs_size, hS8]; kernel_rfl
      have hz2 : (ivs z8s).size = (ivs S).size := by rw [ivs_size, ivs_size, hS8]; rfl
      have hz3 := ivs_one S
      clear hS st
      have Hb2 := Lib.hid hb2
      have Hb4 := Lib.hid hb4
      have Hset := Lib.hid hset
      have Hxe := Lib.hid hxe
      have Hz1 := Lib.hid hz1
      have Hz2 := Lib.hid hz2
      have Hz3 := Lib.hid hz3
      clear hb2 hb4 hset hxe hz1 hz2 hz3
      go_wp2_with (first
        | (refine wpList_load_row rfl 196 (.tmp 4) rfl (w.heap.size + 1 + 1) rfl 196 (ivs S) (0, 0) _ Hb4.out Tryz.underlying196 rfl Hz1.out ?_)
        | (refine wpList_store_row rfl 196 (.tmp 2) (.tmp 40) rfl (w.heap.size + 1) (ivs S) rfl rfl 196 _ Hb2.out Hz1.out Hz2.out Hz3.out ?_))
      refine bodyPost_ret (results_cell_tmp rfl _ _ (w.heap.size + 1) 196 (ivs S) (0, 0) _ rfl Hset.out Tryz.underlying196 rfl Hz1.out) rfl ?_
      exact ⟨S, hS8, rfl, Hxe.out⟩
end Go.Proofs.YtcoelhpmkhimpaaGreatDoor

namespace Go.Proofs.YtcoelhpmkhimpaaGreatDoor
open Go.RowKit
set_option linter.unusedVariables false
set_option linter.unusedSimpArgs false
theorem But.boxI {O : Nat → Prop} {w w' : World} (h : But O w w') {b : Nat} {cs : Array Value} {t : TypeId} (hb : w.heap[b]? = some (.cells cs t (0, 0))) (hn : ¬O b) : (∀ j, w'.cell? ⟨b, j, none⟩ = cs[j]?) ∧ (∀ j, w'.frozen? ⟨b, j, none⟩ = false) := (Ext.refl w').box (h.block _ _ hb hn)
theorem but_block {W W' : World} {p : Nat} (h : W.grownBy W' (some p)) : But (fun b => b = p) W W' := by
  obtain ⟨h1, h2, h3, h4, h5⟩ := h
  exact ⟨h1, h2, h3, h4, fun b o hb hn => (h5 b (heap_lt hb) (fun e => hn (Option.some.inj e))).trans hb⟩
theorem info196 : (Tryz.prog.info? 196).map (fun i => (i.zero, i.size, i.bytes)) = some (some (.agg #[.int .i64 0, .int .i64 0, .int .i64 0, .int .i64 0, .int .i64 0, .int .i64 0, .int .i64 0, .int .i64 0]), 8, 64) := by kernel_rfl
theorem elem139 : Elem Tryz.prog 170 196 8 := by
  obtain ⟨i, h1, h2, h3, h4⟩ := info_parts info196
  exact ⟨Tryz.underlying170, ⟨i, _, _, h1, h2, h3, h4, rfl, by decide⟩, by decide⟩
def signRow (S : List Int) : List Value := S.map (.int .i64)
def signRows (R : List (List Int)) : List (List Value) := R.map signRow
theorem signRows_row {R : List (List Int)} (h : ∀ S ∈ R, S.length = 8) : ∀ r ∈ signRows R, r.length = 8 ∧ ∀ u ∈ r, u.oneCell' = true := by
  intro r hr
  obtain ⟨S, hS, rfl⟩ := List.mem_map.1 hr
  refine ⟨by simp [signRow, h S hS], fun u hu => ?_⟩
  obtain ⟨x, _, rfl⟩ := List.mem_map.1 hu
  rfl
theorem signRows_append (A B : List (List Int)) : signRows (A ++ B) = signRows A ++ signRows B := by simp [signRows]
theorem sign_src {W : World} {b : Nat} {S : List Int} (h : W.heap[b]? = some (.cells (ivs S) 196 (0, 0))) : SlAt W 8 (some ⟨b, 0, none⟩) 1 (fun k => (signRows [S]).getD k []) :=
  slAt_one (fun j v hv => by
    rw [cell_of_row _ _ _ _ 196 (0, 0) h, Nat.zero_add]
    unfold ivs
    rw [List.getElem?_toArray]
    exact hv)
theorem len8 {S : List Int} (h : S.length = 8) : ∃ s0 s1 s2 s3 s4 s5 s6 s7, S = [s0, s1, s2, s3, s4, s5, s6, s7] := by
  match S, h with
  | [s0, s1, s2, s3, s4, s5, s6, s7], _ => exact ⟨s0, s1, s2, s3, s4, s5, s6, s7, rfl⟩
theorem place_take {l : List Animal} {k : Nat} {x : Animal} (h : l[k]? = some x) (hp : placeOf l x.id = some k) : placeV (l.take k) x.id = none ∧ placeV (l.take (k + 1)) = fun q => if q = x.id then some (.int .i64 (k : Int)) else placeV (l.take k) q := by
  have hk : k < l.length := (List.getElem?_eq_some_iff.1 h).1
  have hn : placeOf (l.take k) x.id = none := by
    unfold placeOf at hp ⊢
    rw [List.findIdx?_eq_some_iff_getElem] at hp
    obtain ⟨_, _, h3⟩ := hp
    rw [List.findIdx?_eq_none_iff]
    intro a ha
    obtain ⟨j, hj, rfl⟩ := List.mem_iff_getElem.1 ha
    rw [List.length_take] at hj
    rw [List.getElem_take]
    have := h3 j (by omega)
    simpa using this
  have ht : l.take (k + 1) = l.take k ++ [x] := by rw [List.take_add_one, h]; rfl
  refine ⟨by unfold placeV; rw [hn]; rfl, funext fun q => ?_⟩
  by_cases hq : q = x.id
  · subst hq
    rw [if_pos rfl]
    unfold placeV placeOf
    rw [ht, List.findIdx?_append]
    unfold placeOf at hn
    rw [hn]
    have hl : (l.take k).length = k := by rw [List.length_take]; omega
    simp [hl]
  · rw [if_neg hq]
    unfold placeV placeOf
    rw [ht, List.findIdx?_append]
    have hx : List.findIdx? (fun a => a.id == q) [x] = none := by simp [List.findIdx?_cons, Ne.symm hq]
    rw [hx]
    simp
/-- the first loop's state -/
structure OA (w : World) (a : Option Addr) (c : Nat) (l : List Animal) (k : Nat) (v : Value) (V : World) : Prop where
  ext : Ext w V
  b1 : V.heap[w.heap.size]? = some (.cells #[.slice a l.length c] 139 (0, 0))
  b2 : V.heap[w.heap.size + 1]? = some (.cells #[.pointer none] 165 (0, 0))
  b3 : V.heap[w.heap.size + 1 + 1]? = some (.cells #[.int .i64 0] 35 (0, 0))
  box : V.heap[w.heap.size + 1 + 1 + 1 + 1]? = some (.cells #[.slice a l.length c, .map (some (w.heap.size + 1 + 1 + 1)), .slice none 0 0, v] 172 (0, 0))
  map : OMapIs V (w.heap.size + 1 + 1 + 1) (placeV (l.take k))
  own : ∃ R : List (List Int), R.length = k ∧ Owns V (w.heap.size + 1 + 1 + 1 + 1 + 1) 196 8 v (signRows R)
theorem OA.more {w : World} {a : Option Addr} {c : Nat} {l : List Animal} {k : Nat} {v : Value} {V V' : World} (h : OA w a c l k v V) (e : Ext V V') : OA w a c l k v V' :=
  ⟨h.ext.trans e, e.heap h.b1, e.heap h.b2, e.heap h.b3, e.heap h.box, h.map.ext e, let ⟨R, h1, h2⟩ := h.own; ⟨R, h1, h2.ext e⟩⟩
/-- the map has been written -/
theorem OA.mapped {w : World} {a : Option Addr} {c : Nat} {l : List Animal} {k : Nat} {v : Value} {V V' : World} (h : OA w a c l k v V) (hg : V.grownBy V' (some (w.heap.size + 1 + 1 + 1))) (hm : OMapIs V' (w.heap.size + 1 + 1 + 1) (placeV (l.take (k + 1)))) :
    Ext w V' ∧ V'.heap[w.heap.size]? = some (.cells #[.slice a l.length c] 139 (0, 0)) ∧ V'.heap[w.heap.size + 1]? = some (.cells #[.pointer none] 165 (0, 0)) ∧ V'.heap[w.heap.size + 1 + 1]? = some (.cells #[.int .i64 0] 35 (0, 0))
      ∧ V'.heap[w.heap.size + 1 + 1 + 1 + 1]? = some (.cells #[.slice a l.length c, .map (some (w.heap.size + 1 + 1 + 1)), .slice none 0 0, v] 172 (0, 0)) ∧ OMapIs V' (w.heap.size + 1 + 1 + 1) (placeV (l.take (k + 1))) ∧ ∃ R : List (List Int), R.length = k ∧ Owns V' (w.heap.size + 1 + 1 + 1 + 1 + 1) 196 8 v (signRows R) := by
  have kp : ∀ b o, V.heap[b]? = some o → b ≠ w.heap.size + 1 + 1 + 1 → V'.heap[b]? = some o := fun b o h1 h2 => (but_block hg).block b o h1 h2
  refine ⟨But.ext h.ext (but_block hg) (fun b e => by omega), kp _ _ h.b1 (by omega), kp _ _ h.b2 (by omega), kp _ _ h.b3 (by omega), kp _ _ h.box (by omega), hm, ?_⟩
  obtain ⟨R, h1, h2⟩ := h.own
  refine ⟨R, h1, h2.kept hg ?_⟩
  cases ho : v.ownBlock with
  | none => exact .inl rfl
  | some g => exact .inr fun e => by have := (h2.lt g ho).1; simp only [Option.some.injEq] at e; omega
theorem OA.put {w : World} {a : Option Addr} {c : Nat} {l : List Animal} {k : Nat} {v v' : Value} {V V' : World} {R : List (List Int)} {S : List Int} (h0 : Hid (Ext w V)) (h1 : Hid (V.heap[w.heap.size]? = some (.cells #[.slice a l.length c] 139 (0, 0)))) (h2 : Hid (V.heap[w.heap.size + 1]? = some (.cells #[.pointer none] 165 (0, 0)))) (h3 : Hid (V.heap[w.heap.size + 1 + 1]? = some (.cells #[.int .i64 0] 35 (0, 0))))
    (h4 : Hid (V.heap[w.heap.size + 1 + 1 + 1 + 1]? = some (.cells #[.slice a l.length c, .map (some (w.heap.size + 1 + 1 + 1)), .slice none 0 0, v] 172 (0, 0)))) (h5 : Hid (OMapIs V (w.heap.size + 1 + 1 + 1) (placeV (l.take (k + 1))))) (hR : R.length = k) (hO : Owns V (w.heap.size + 1 + 1 + 1 + 1 + 1) 196 8 v (signRows R))
    (hb : But (fun b => v.ownBlock = some b) V V') (ho : Owns V' (w.heap.size + 1 + 1 + 1 + 1 + 1) 196 8 v' (signRows (R ++ [S]))) : OA w a c l (k + 1) v' (V'.setCell ⟨w.heap.size + 1 + 1 + 1 + 1, 3, none⟩ v') := by
  have hO' : ∀ b, v.ownBlock = some b → w.heap.size + 1 + 1 + 1 + 1 < b := fun b e => (hO.lt b e).1
  have kp : ∀ b o, V.heap[b]? = some o → b < w.heap.size + 1 + 1 + 1 + 1 → (V'.setCell ⟨w.heap.size + 1 + 1 + 1 + 1, 3, none⟩ v').heap[b]? = some o := fun b o h1 h2 => (Below.heap_setCell _ _ _ _ (by simp only; omega)).trans (hb.block b o h1 fun e => by have := hO' b e; omega)
  have hx := But.ext h0.out hb fun b e => by have := hO' b e; omega
  have hbx := hb.block _ _ h4.out fun e => by have := hO' _ e; omega
  obtain ⟨es, ck, q1, q2⟩ := h5.out
  refine ⟨hx.setCell (p := ⟨w.heap.size + 1 + 1 + 1 + 1, 3, none⟩) (by simp only; omega) _, kp _ _ h1.out (by omega), kp _ _ h2.out (by omega), kp _ _ h3.out (by omega), ?_, ⟨es, ck, kp _ _ q1 (by omega), q2⟩, R ++ [S], by rw [List.length_append, hR]; rfl, owns_setO ho (by omega)⟩
  rw [heap_setCell_box, hbx]
  rfl
theorem signed8 (x : Animal) (ka : Option Addr) (kn kc : Nat) (w : World) (hm : MarksAt w ka kn x.marks) (hkc : kn ≤ kc) (hkm : kc ≤ maxLen) (hok : MarksOk x.marks) :
    Calls Tryz.prog 128 #[.agg #[.int .i64 x.id, .int .i64 x.mother, .int .i64 x.born.lo, .int .i64 x.born.hi, .slice ka kn kc]] w fun e w' => ∃ s0 s1 s2 s3 s4 s5 s6 s7 : Int, e = .returned (.tuple #[.agg #[.int .i64 s0, .int .i64 s1, .int .i64 s2, .int .i64 s3, .int .i64 s4, .int .i64 s5, .int .i64 s6, .int .i64 s7], .bool true]) ∧ Ext w w' :=
  (signed_any x ka kn kc w hm hkc hkm hok).mono (by
    rintro e w' ⟨S, h8, rfl, hx⟩
    obtain ⟨s0, s1, s2, s3, s4, s5, s6, s7, rfl⟩ := len8 h8
    exact ⟨s0, s1, s2, s3, s4, s5, s6, s7, rfl, hx⟩)
theorem OA.start (w W : World) (a : Option Addr) (c : Nat) (l : List Animal) (hW : ((((w.alloc (.cells #[.slice a l.length c] 139)).alloc (.cells #[.pointer none] 165)).alloc (.cells #[.int .i64 0] 35)).alloc (.map #[] 0)).alloc (.cells #[.slice a l.length c, .map (some (w.heap.size + 1 + 1 + 1)), .slice none 0 0, .slice none 0 0] 172) = W) : OA w a c l 0 (.slice none 0 0) W := by
  have e1 : ((((w.alloc (.cells #[.slice a l.length c] 139)).alloc (.cells #[.pointer none] 165)).alloc (.cells #[.int .i64 0] 35))).heap.size = w.heap.size + 1 + 1 + 1 := by simp
  have hm := OMapIs.made (((w.alloc (.cells #[.slice a l.length c] 139)).alloc (.cells #[.pointer none] 165)).alloc (.cells #[.int .i64 0] 35))
  rw [e1] at hm
  subst hW
  refine ⟨((((Ext.refl w).alloc _).alloc _).alloc _).alloc _ |>.alloc _, ?_, ?_, ?_, alloc_at _ _ _ (by simp), hm.ext ((Ext.refl _).alloc _), [], rfl, Owns.nil _ _ _ _⟩
  · exact ((((Ext.refl _).alloc _).alloc _).alloc _ |>.alloc _).heap (heap_alloc_new w _)
  · exact (((Ext.refl _).alloc _).alloc _ |>.alloc _).heap (alloc_at _ _ _ (by simp))
  · exact ((Ext.refl _).alloc _ |>.alloc _).heap (alloc_at _ _ _ (by simp))
set_option maxRecDepth 100000 in
set_option maxHeartbeats 8000000 in
theorem openH_any {w : World} {a : Option Addr} {c : Nat} {l : List Animal} (hok : HerdOk l) (hla : AnimalsAt w a l.length l) (hcc : l.length ≤ c ∧ c ≤ maxLen) : Calls Tryz.prog 108 #[.slice a l.length c] w (OpenPost l w) := by
  have hlen := hok.len
  have hla' : ∀ V, Ext w V → AnimalsAt V a l.length l := fun V e => hla.ext e
  have Hla' := Lib.hid hla'
  clear hla'
  clear hla
  refine (callsIn_wide (n := 3)).1 ?_
  refine callsIn_of_wp_marks Tryz.func108 rfl trivial ?_ rfl
  simp only [Tryz.ntmps108, List.size_toArray, List.length_cons, List.length_nil, Nat.reduceAdd, Nat.reduceSub, Array.replicate_succ, Array.replicate_zero, List.push_toArray, List.append_toArray, List.nil_append, List.cons_append]
  refine wpIn_wide.2 ?_
  have hmm := @run_makeMap Tryz.prog
  go_upto_region 5 with fail
  have hst := OA.start w _ a c l rfl
  clear hmm
  generalize ((((w.alloc (.cells #[.slice a l.length c] 139)).alloc (.cells #[.pointer none] 165)).alloc (.cells #[.int .i64 0] 35)).alloc (.map #[] 0)).alloc (.cells #[.slice a l.length c, .map (some (w.heap.size + 1 + 1 + 1)), .slice none 0 0, .slice none 0 0] 172) = W0 at *
  have Hst := Lib.hid hst
  clear hst
  go_loopw [26] (fun i V => ∃ (k : Nat) (v : Value), i = .int .i64 k ∧ k ≤ l.length ∧ OA w a c l k v V) (fun i _ => l.length - (intOf i).toNat)
  case atStart => exact ⟨0, _, rfl, Nat.zero_le _, Hst.out⟩
  case round =>
    obtain ⟨k, v, rfl, hk, hS⟩ := hrel
    by_cases hlt : k < l.length
    · have hltB : decide ((k : Int) < (l.length : Int)) = true := by simp; omega
      obtain ⟨b, off, x, ka, kn, kc, rfl, hxk, hbs, c0, c1, c2, c3, c4, q1, q2, hm⟩ := (Hla'.out _ hS.ext).get k hlt
      have hak := hok.each k x hxk
      have hid1 : inB x.id 0 9999 = true := by have := hak.id; simp [inB]; omega
      have hid2 : spanOk x.born (-100000) 100000 = true := by have := hak.born; simp [spanOk]; omega
      have hmk := hak.marks
      obtain ⟨hp0, hp1⟩ := place_take hxk hak.at'
      have e1 : (placeV (l.take k) x.id).getD (.int .i64 0) = .int .i64 0 := by rw [hp0]; rfl
      have e2 : (placeV (l.take k) x.id).isSome = false := by rw [hp0]; rfl
      have hlk := fun (Vq : World) (hV : Ext wr Vq) => (run_lookup_int (P := Tryz.prog) (hS.map.ext hV) Tryz.underlying169 Tryz.underlying3 (z := .int .i64 0) (by kernel_rfl) x.id).1
      rw [e1, e2] at hlk
      clear hp0 e1 e2 hak
      obtain ⟨id, mo, ⟨b0, b1⟩, ms⟩ := x
      simp only at c0 c1 c2 c3 hid1 hid2 hmk hp1 hlk hm
      have hbs' := hbs
      have HS := Lib.hid hS
      have Hid1 := Lib.hid hid1
      have Hid2 := Lib.hid hid2
      have Hmk := Lib.hid hmk
      have Hp1 := Lib.hid hp1
      have Hlk := Lib.hid hlk
      have Hm := Lib.hid hm
      clear hS hid1 hid2 hmk hp1 hlk hm
      clear hxk
      go_upto_region 7 with fail
      have hx4 : Ext wr (wr.alloc (.cells #[.int .i64 id, .int .i64 mo, .int .i64 b0, .int .i64 b1, .slice ka kn kc] 180)) := (Ext.refl wr).alloc _
      have hp4 := heap_alloc_new wr (.cells #[.int .i64 id, .int .i64 mo, .int .i64 b0, .int .i64 b1, .slice ka kn kc] 180)
      generalize wr.alloc (.cells #[.int .i64 id, .int .i64 mo, .int .i64 b0, .int .i64 b1, .slice ka kn kc] 180) = W4 at *
      generalize hp5 : wr.heap.size = p6 at *
      obtain ⟨y4, _⟩ := (Ext.refl W4).box hp4
      have Hx4 := Lib.hid hx4
      have Hp4 := Lib.hid hp4
      clear hx4 hp4
      clear c0 c1 c2 c3 c4 hbs hbs'
      go_upto_region 8 with (go_at_call 128; refine (signed8 (⟨id, mo, ⟨b0, b1⟩, ms⟩ : Animal) ka kn kc _ (Hm.out.ext Hx4.out) q1 q2 Hmk.out).mono ?_; rintro e w5 ⟨s0, s1, s2, s3, s4, s5, s6, s7, rfl, hx5⟩)
      have hx6 := (Hx4.out.trans hx5).alloc (.cells #[.int .i64 s0, .int .i64 s1, .int .i64 s2, .int .i64 s3, .int .i64 s4, .int .i64 s5, .int .i64 s6, .int .i64 s7] 196)
      have hp6 := (hx5.alloc (.cells #[.int .i64 s0, .int .i64 s1, .int .i64 s2, .int .i64 s3, .int .i64 s4, .int .i64 s5, .int .i64 s6, .int .i64 s7] 196)).heap Hp4.out
      have hp7 := heap_alloc_new w5 (.cells #[.int .i64 s0, .int .i64 s1, .int .i64 s2, .int .i64 s3, .int .i64 s4, .int .i64 s5, .int .i64 s6, .int .i64 s7] 196)
      generalize w5.alloc (.cells #[.int .i64 s0, .int .i64 s1, .int .i64 s2, .int .i64 s3, .int .i64 s4, .int .i64 s5, .int .i64 s6, .int .i64 s7] 196) = W6 at *
      have hp67 : p6 < w5.heap.size := by have := hx5.size; have := heap_lt Hp4.out; omega
      have hp56 : wr.heap.size = p6 := hp5
      generalize w5.heap.size = p7 at *
      have hn6 : ¬(p6 = w.heap.size + 1 + 1 + 1) := fun e => by have := heap_lt HS.out.box; omega
      have hn7 : ¬(p7 = w.heap.size + 1 + 1 + 1) := fun e => by have := heap_lt HS.out.box; have := hp67; omega
      have hS6 := HS.out.more hx6
      have Hn6 := Lib.hid hn6
      have Hn7 := Lib.hid hn7
      clear hn6 hn7
      have hlk6 := fun (Vq : World) (hV : Ext W6 Vq) => Hlk.out Vq (hx6.trans hV)
      clear Hx4 Hp4 HS Hlk hx5 hx6 Hm y4
      have HS6 := Lib.hid hS6
      have Hlk6 := Lib.hid hlk6
      have Hp6 := Lib.hid hp6
      have Hp7 := Lib.hid hp7
      clear hS6 hlk6 hp6 hp7
      refine wp_region_ext (by kernel_rfl) (by kernel_rfl) (fun f hf hs => ?_)
      have f0 := fun q => ((hf q).box Hp6.out).1
      have f1 := fun q => ((hf q).box HS6.out.box).1
      have f2 := fun q => Hlk6.out _ (hf q)
      clear hf hs
      repeat (go_big_quiet_step (fail))
      refine wpQuiet_nil ?_
      intro W8 hW8
      clear f0 f1 f2
      have hS8 := HS6.out.more hW8
      have hp68 := hW8.heap Hp6.out
      have hp78 := hW8.heap Hp7.out
      obtain ⟨y6, _⟩ := (Ext.refl W8).box hp68
      clear HS6 hW8 Hp6 Hp7 Hlk6
      have HS8 := Lib.hid hS8
      have Hp68 := Lib.hid hp68
      have Hp78 := Lib.hid hp78
      clear hS8 hp68 hp78
      go_upto_region 11 with (first
        | (go_at_call 129; refine (fromB1 (alloc_at _ _ _ (by simp)) Hid1.out).mono ?_; rintro e v1 ⟨rfl, hx1⟩; have hv1 := ((Ext.refl W8).alloc _).trans hx1; clear y6; obtain ⟨y6, _⟩ := (Ext.refl v1).box (hv1.heap Hp68.out))
        | (go_at_call 130; refine (ordB1 (alloc_at _ _ _ (by simp)) Hid2.out).mono ?_; rintro e v2 ⟨rfl, hx2⟩; have hv2 := (hv1.alloc _).trans hx2))
      have hS9 := HS8.out.more hv2
      have hp69 := hv2.heap Hp68.out
      have hp79 := hv2.heap Hp78.out
      clear HS8 hv1 hv2 hx1 hx2 Hp68 Hp78 y6
      have HS9 := Lib.hid hS9
      have Hp69 := Lib.hid hp69
      have Hp79 := Lib.hid hp79
      clear hS9 hp69 hp79
      refine wp_region_plan (.take [0, 1, 2, 3, 4, 5, 6] (.fin (.one 7 .done))) [7] (Ext v2) _ (by kernel_rfl) (by kernel_rfl) rfl (EC.ext v2) ((Ext.refl _).drew) ?_
      simp only [planOf, treeOf, oneOp, twoOp, opsOf, consOp, callOC, oneOC, twoOC, List.getElem?_toArray, List.getElem?_cons_succ, List.getElem?_cons_zero]
      intro ι _ f hf
      have f0 := fun q => ((hf q).box Hp69.out).1
      have f1 := fun q => ((hf q).box HS9.out.box).1
      clear hf
      repeat (go_big_quiet_step (fail))
      refine wpQuiet_nil ?_
      clear f0 f1
      intro W10 hW10
      refine wpOT_one ?_
      obtain ⟨W11, hrun, hm11, hg11⟩ := run_mapUpdate_int (P := Tryz.prog) (HS9.out.map.ext hW10) Tryz.underlying169 Tryz.underlying3 id (.int .i64 (k : Int))
      rw [← Hp1.out] at hm11
      obtain ⟨x11, b11, b12, b13, bb11, m11, R, hRl, hown⟩ := (HS9.out.more hW10).mapped hg11 hm11
      have hp611 := (but_block hg11).block _ _ (hW10.heap Hp69.out) Hn6.out
      have hp711 := (but_block hg11).block _ _ (hW10.heap Hp79.out) Hn7.out
      clear hg11 hm11
      have hRr : (signRows R).length = k := by unfold signRows; rw [List.length_map, hRl]
      obtain ⟨va, vc, rfl, _, _, _, _⟩ := hown.slAt
      rw [hRr] at bb11 hown
      have X11 := Lib.hid x11
      have B11 := Lib.hid b11
      have B12 := Lib.hid b12
      have B13 := Lib.hid b13
      have Bb11 := Lib.hid bb11
      have M11 := Lib.hid m11
      have Hp611 := Lib.hid hp611
      have Hp711 := Lib.hid hp711
      have Hown := Lib.hid hown
      have HRl := Lib.hid hRl
      clear x11 b11 b12 b13 bb11 m11 hp611 hp711 hown hRl
      clear HS9 Hp69 Hp79 hW10 Hp1
      go_wp2_with fail
      refine wpOT_done ?_
      clear hrun
      go_upto_region 12 with fail
      refine wp_region_plan (.take [1, 2, 3, 4, 5] (.free [0] (.one 6 (.fin (.one 7 (.take [8, 9] (.one 10 .done))))))) [7, 8, 9, 10] (Ext W11) _ (by kernel_rfl) (by kernel_rfl) rfl (EC.ext W11) ((Ext.refl _).drew) ?_
      simp only [planOf, treeOf, oneOp, twoOp, opsOf, consOp, callOC, oneOC, twoOC, List.getElem?_toArray, List.getElem?_cons_succ, List.getElem?_cons_zero]
      intro ι _ f hf
      have f0 := fun q => ((hf q).box Bb11.out).1
      have f1 := fun q => ((hf q).box Hp711.out).1
      clear hf
      repeat (go_big_quiet_step (fail))
      refine wpQuiet_nil ?_
      clear f0 f1
      refine wpOC_free ?_
      repeat (go_big_quiet_step (fail))
      refine wpQuiet_nil ?_
      intro W12 hW12
      go_wp2_with fail
      have hx13 := hW12.alloc (.cells #[.int .i64 s0, .int .i64 s1, .int .i64 s2, .int .i64 s3, .int .i64 s4, .int .i64 s5, .int .i64 s6, .int .i64 s7] 196)
      have hp13 := heap_alloc_new W12 (.cells #[.int .i64 s0, .int .i64 s1, .int .i64 s2, .int .i64 s3, .int .i64 s4, .int .i64 s5, .int .i64 s6, .int .i64 s7] 196)
      generalize W12.alloc (.cells #[.int .i64 s0, .int .i64 s1, .int .i64 s2, .int .i64 s3, .int .i64 s4, .int .i64 s5, .int .i64 s6, .int .i64 s7] 196) = W13 at *
      generalize W12.heap.size = p13 at *
      refine ⟨fun V => Ext W11 V ∧ V.heap[p13]? = some (.cells #[.int .i64 s0, .int .i64 s1, .int .i64 s2, .int .i64 s3, .int .i64 s4, .int .i64 s5, .int .i64 s6, .int .i64 s7] 196 (0, 0)), (EC.ext W11).and (EC.heap p13 _), fun _ h => h.1, ⟨hx13, hp13⟩, ?_⟩
      clear hW12 hx13 hp13 W12 W13
      rintro W14 ⟨hx14, hp14⟩
      have hown13 := Hown.out.ext hx14
      have hsrc13 : SlAt W14 8 (some ⟨p13, 0, none⟩) 1 (fun k => (signRows [[s0, s1, s2, s3, s4, s5, s6, s7]]).getD k []) := sign_src (S := [s0, s1, s2, s3, s4, s5, s6, s7]) hp14
      have hb13 := hx14.but (fun b => (Value.slice va k vc).ownBlock = some b)
      have hsz13 : w.heap.size + 1 + 1 + 1 + 1 + 1 ≤ W14.heap.size := by have := heap_lt Bb11.out; have := hx14.size; omega
      have hne : ¬((Value.slice va k vc).ownBlock = some (w.heap.size + 1 + 1 + 1 + 1)) := fun e => by have := (Hown.out.lt _ e).1; omega
      clear hx14 hp14
      have hl6 : (signRows (R ++ [[s0, s1, s2, s3, s4, s5, s6, s7]])).length = k + 1 := by unfold signRows; rw [List.length_map, List.length_append, HRl.out]; rfl
      have Hown13 := Lib.hid hown13
      have Hsrc13 := Lib.hid hsrc13
      have Hb13 := Lib.hid hb13
      have Hne := Lib.hid hne
      have HRr := Lib.hid hRr
      have Hsz13 := Lib.hid hsz13
      have Hl6 := Lib.hid hl6
      clear hown13 hsrc13 hb13 hne hRr hsz13 hl6
      refine wpOT_one ?_
      go_wp2_with (at_builtin; refine wpList_app elem139 _ rfl (.tmp 76) (.tmp 78) rfl (w.heap.size + 1 + 1 + 1 + 1 + 1) (.slice va k vc) (signRows R) rfl Hown13.out (some ⟨p13, 0, none⟩) 1 1 (signRows [[s0, s1, s2, s3, s4, s5, s6, s7]]) rfl rfl Hsrc13.out (signRows_row (by simp)) (by rw [HRr.out]; omega) Hsz13.out ?_; intro v6 w6 ho6 hg6 _; have hb6 := Hb13.out.trans (but_grownI hg6); clear hg6; rw [← signRows_append] at ho6; obtain ⟨a6, c6, e6, _, _, _, _⟩ := ho6.slAt; rw [Hl6.out] at e6; subst e6; have Ho6 := Lib.hid ho6; have Hb6 := Lib.hid hb6; clear ho6 hb6)
      have hS12 := OA.put X11 B11 B12 B13 Bb11 M11 HRl.out Hown.out Hb6.out Ho6.out
      obtain ⟨z6, z7⟩ := (Ext.refl w6).box (Hb6.out.block _ _ Bb11.out Hne.out)
      have hlt6 := heap_lt (Hb6.out.block _ _ Bb11.out Hne.out)
      have HS12 := Lib.hid hS12
      clear hS12
      clear Hb6 Ho6 Hb13 Hsrc13 Hown13
      refine wpOT_take ?_
      repeat (go_big_quiet_step (fail))
      refine wpQuiet_nil ?_
      refine wpOT_one ?_
      go_wp2_with fail
      refine wpOT_done ?_
      generalize w6.setCell ⟨w.heap.size + 1 + 1 + 1 + 1, 3, none⟩ (.slice a6 (k + 1) c6) = W15 at *
      go_wp2_with fail
      go_roundw
      case rel => exact ⟨k + 1, _, by go_num, by omega, HS12.out⟩
      case measure => simp [intOf]; omega
    · have hltB : decide ((k : Int) < (l.length : Int)) = false := by simp; omega
      obtain rfl : k = l.length := by omega
      have hOB : OB w (w.heap.size + 1 + 1 + 1 + 1) (w.heap.size + 1 + 1 + 1) a c v l 0 (.slice none 0 0) wr := ⟨hS.ext, hS.b1, hS.b2, hS.b3, hS.box, by have := hS.map; rwa [List.take_length] at this, Owns.nil _ _ _ _⟩
      obtain ⟨y1, _⟩ := (Ext.refl wr).box hS.b1
      have HOB := Lib.hid hOB
      clear hOB
      clear hS
      go_upto_if 27 with fail
      iterate 6 go_step
      exact openMoms hok Hla'.out hcc HOB.out (by omega) (by omega)
end Go.Proofs.YtcoelhpmkhimpaaGreatDoor

namespace Go.Proofs.YtcoelhpmkhimpaaGreatDoor
open Go.RowKit
set_option linter.unusedVariables false
set_option linter.unusedSimpArgs false
theorem and32 : ∀ n : Nat, n ≤ 30 → bits BinOp.and IntKind.u64 (n : Int) 4294967295 = (n : Int) := fun n h => by
  have key : (List.range 31).all (fun n => bits BinOp.and IntKind.u64 (n : Int) 4294967295 == (n : Int)) = true := by kernel_rfl
  have := List.all_eq_true.1 key n (List.mem_range.2 (by omega))
  simpa using this
theorem wrapN : ∀ n : Nat, n ≤ 30 → IntKind.u64.wrap (n : Int) = (n : Int) := fun n h => by
  have key : (List.range 31).all (fun n => IntKind.u64.wrap (n : Int) == (n : Int)) = true := by kernel_rfl
  have := List.all_eq_true.1 key n (List.mem_range.2 (by omega))
  simpa using this
theorem mul64I (n : Nat) (hn : n ≤ 30) (w : World) : Calls Tryz.prog 145 #[.int .u64 1, .int .u64 (n : Int)] w fun e w' => e = .returned (.tuple #[.int .u64 0, .int .u64 (n : Int)]) ∧ w' = w := by
  have b1 : bits BinOp.and IntKind.u64 1 4294967295 = 1 := by kernel_rfl
  have b2 := and32 n hn
  have b3 : bits BinOp.and IntKind.u64 0 4294967295 = 0 := by kernel_rfl
  go_enter Tryz.func145, Tryz.ntmps145
  have d1 : (n : Int) / 4294967296 = 0 := by omega
  have d2 : IntKind.u64.wrap 0 = 0 := by kernel_rfl
  have d3 : IntKind.u64.wrap (n : Int) = (n : Int) := wrapN n hn
  go_wp2_with fail
  go_ret2
  simp [d1, d2, d3]
theorem mulI (n : Nat) (hn : n ≤ 30) (w : World) : Calls Tryz.prog 142 #[.int .u64 1, .int .u64 (n : Int)] w fun e w' => e = .returned (.tuple #[.int .u64 0, .int .u64 (n : Int)]) ∧ w' = w := by
  go_enter Tryz.func142, Tryz.ntmps142
  go_wp2_with (go_at_call 145; refine (mul64I n hn _).mono ?_; rintro e w1 ⟨rfl, rfl⟩)
  go_ret2
  exact ⟨rfl, rfl⟩
end Go.Proofs.YtcoelhpmkhimpaaGreatDoor

namespace Go.Proofs.YtcoelhpmkhimpaaGreatDoor
open Go.RowKit
set_option linter.unusedVariables false
set_option linter.unusedSimpArgs false
theorem made_ints (m : Nat) : madeCells (Value.int .i64 0).cells m = Array.replicate m (.int .i64 0) := by
  apply Array.ext
  · simp [size_madeCells]
  · intro i h1 h2
    have h2' : i < m := by simpa using h2
    simp [madeCells, Value.cells, Nat.mod_one]
theorem mk34 (m : Nat) (hm : m ≤ 1000000) (w : World) : (Instr.makeSlice 29 (.int .i64 m) (.int .i64 m)).run Tryz.prog w = .ok (.slice (some ⟨w.heap.size, 0, none⟩) m m) (w.alloc (.cells (Array.replicate m (.int .i64 0)) 3)) := by
  obtain ⟨i, h1, h2, h3, h4⟩ := info_parts infoI3
  have := run_makeSlice (P := Tryz.prog) w 29 3 i (.int .i64 0) Tryz.underlying29 h1 h2 .i64 .i64 m m (by omega) (Int.le_refl _) (by rw [h3]; simp; omega) (by rw [h4]; omega) (by omega)
  rw [h3, Int.toNat_natCast, Nat.mul_one, made_ints] at this
  exact this
theorem rep_zero (x : Int) (N : Nat) : (Array.replicate N (.int .i64 0) : Array Value) = (repCells [.int .i64 x] [.int .i64 0] 0 N).toArray := by
  unfold repCells
  simp
theorem rep_all (x : Int) (N : Nat) : (repCells [.int .i64 x] [.int .i64 0] N N).toArray = ivs (List.replicate N x) := by
  unfold repCells ivs
  simp
set_option maxRecDepth 100000 in
set_option maxHeartbeats 4000000 in
theorem repeatN (b : Nat) (x : Int) (N : Nat) (hN : 1 ≤ N ∧ N ≤ 30) (w : World) (hb : w.heap[b]? = some (.cells #[.int .i64 x] 3 (0, 0))) : Calls Tryz.prog 136 #[.slice (some ⟨b, 0, none⟩) 1 1, .int .i64 N] w fun e w' => ∃ g, e = .returned (.slice (some ⟨g, 0, none⟩) N N) ∧ Ext w w' ∧ w.heap.size ≤ g ∧ w'.heap[g]? = some (.cells (ivs (List.replicate N x)) 3 (0, 0)) := by
  obtain ⟨hN1, hN30⟩ := hN
  have hmk := mk34 N (by omega)
  have hml := mulI N hN30
  have hwr := wrapN N hN30
  obtain ⟨C, hC⟩ : ∃ C : List Value, [Value.int .i64 x] = C := ⟨_, rfl⟩
  obtain ⟨Z, hZ⟩ : ∃ Z : List Value, [Value.int .i64 0] = Z := ⟨_, rfl⟩
  have hr0 := rep_zero x N
  have hrn := rep_all x N
  rw [hC, hZ] at hr0 hrn
  rw [hr0] at hmk
  have hml' : C.length = 1 := by rw [← hC]; rfl
  have hzl' : Z.length = 1 := by rw [← hZ]; rfl
  have hone : ∀ v ∈ C, v.oneCell' = true := fun v hv => by
    rw [← hC] at hv
    simp at hv
    subst hv
    rfl
  have hbC : w.heap[b]? = some (.cells C.toArray 3 (0, 0)) := by rw [← hC]; exact hb
  clear hC hZ hb hr0
  have hx1 : Ext w (w.alloc (.cells (repCells C Z 0 N).toArray 3)) := (Ext.refl _).alloc _
  have hg1 := heap_alloc_new w (.cells (repCells C Z 0 N).toArray 3)
  have hb1 := hx1.heap hbC
  have hcell : ∀ j v, C[j]? = some v → (w.alloc (.cells (repCells C Z 0 N).toArray 3)).cell? ⟨b, 0 + j, none⟩ = some v := fun j v hv => by
    rw [cell_of_row _ b _ _ 3 (0, 0) hb1, Nat.zero_add, List.getElem?_toArray]
    exact hv
  have hst1 : ((repCells C Z 0 N).toArray.toList.take 0 ++ C ++ (repCells C Z 0 N).toArray.toList.drop (0 + C.length)).toArray = (repCells C Z 1 N).toArray := by
    have := repCells_step (c := C) (z := Z) (k := 1) (n := 0) (m := 1) (t := N) hml' hzl' (by omega)
    simp only [List.replicate_one, List.flatten_singleton, Nat.zero_mul, Nat.zero_add] at this
    rw [List.toList_toArray, ← this, Nat.zero_add]
  have hfit : 0 + C.length ≤ (repCells C Z 0 N).toArray.size := by
    rw [List.size_toArray, repCells_len (k := 1) hml' hzl' (by omega), hml']
    omega
  have hx2 : Ext w ((w.alloc (.cells (repCells C Z 0 N).toArray 3)).setRow w.heap.size (repCells C Z 1 N).toArray) := below_setRow hx1 (Nat.le_refl _) _
  have hg2 := setRow_heap (w.alloc (.cells (repCells C Z 0 N).toArray 3)) w.heap.size _ (repCells C Z 1 N).toArray 3 (0, 0) hg1
  have hmn : Nat.min 1 N = 1 := by
    have : Nat.min 1 N = min 1 N := rfl
    omega
  have hcn : C.length = Nat.min 1 N * 1 := by rw [hmn, hml']
  have Hx1 := Lib.hid hx1
  have Hg1 := Lib.hid hg1
  have Hb1 := Lib.hid hb1
  have Hcell := Lib.hid hcell
  have Hone := Lib.hid hone
  have Hml' := Lib.hid hml'
  have Hzl' := Lib.hid hzl'
  have Hst1 := Lib.hid hst1
  have Hfit := Lib.hid hfit
  have Hx2 := Lib.hid hx2
  have Hg2 := Lib.hid hg2
  have Hml := Lib.hid hml
  have Hrn := Lib.hid hrn
  have Hmn := Lib.hid hmn
  have Hcn := Lib.hid hcn
  clear hx1 hg1 hb1 hcell hone hml' hzl' hst1 hfit hx2 hg2 hml hrn hmn hcn
  clear hbC
  have gg1 := trivial
  go_enter Tryz.func136, Tryz.ntmps136
  go_wp2_with (first | (go_at_call 142; refine (Hml.out _).mono ?_; rintro e w1 ⟨rfl, rfl⟩) | (have q := gg1; clear q gg1; refine wpList_copy_rows rfl (.tmp 31) (.tmp 32) 29 29 rfl 3 1 Tryz.underlying29 (by kernel_rfl) w1.heap.size 0 N N b 0 1 1 rfl rfl _ 3 Hg1.out C Hcn.out Hcell.out Hfit.out Hone.out ?_; rw [Hst1.out, Hmn.out]))
  generalize hgw : w1.heap.size = g at *
  have Hgw := Lib.hid hgw
  clear hgw
  go_loopw [8] (fun i wr => ∃ n : Nat, i = .int .i64 n ∧ 1 ≤ n ∧ n ≤ N ∧ Ext w1 wr ∧ wr.heap[g]? = some (.cells (repCells C Z n N).toArray 3 (0, 0))) (fun i _ => N - (intOf i).toNat)
  case atStart => exact ⟨1, rfl, by omega, by omega, Hx2.out, Hg2.out⟩
  case round =>
    clear Hx2 Hg2 Hg1 Hx1 Hst1 Hfit hwr hmk
    obtain ⟨n, rfl, hn1, hn60, hx, hg⟩ := hrel
    by_cases hlt : n < N
    · have hltB : decide ((n : Int) < (N : Int)) = true := by simp; omega
      have hgd : wr.drew.heap[g]? = some (.cells (repCells C Z n N).toArray 3 (0, 0)) := ((Ext.refl wr).drew).heap hg
      obtain ⟨k, hk⟩ : ∃ k, Nat.min n (N - n) = k := ⟨_, rfl⟩
      have hk2 : n + k ≤ N ∧ k ≤ n ∧ 1 ≤ k := by
        have : Nat.min n (N - n) = min n (N - n) := rfl
        omega
      have hcl : (List.replicate k C).flatten.length = k * 1 := flat_len k Hml'.out
      have hnn : (List.replicate k C).flatten.length = Nat.min n (N - n) * 1 := by rw [hk, hcl]
      have hsrc : ∀ j v, (List.replicate k C).flatten[j]? = some v → wr.drew.cell? ⟨g, 0 + j, none⟩ = some v := fun j v hv => by
        rw [cell_of_row _ g _ _ 3 (0, 0) hgd, Nat.zero_add, List.getElem?_toArray]
        exact repCells_pre (r := 0) hk2.2.1 hv
      have hfi : n + (List.replicate k C).flatten.length ≤ (repCells C Z n N).toArray.size := by
        rw [List.size_toArray, repCells_len (k := 1) Hml'.out Hzl'.out (by omega), hcl]
        omega
      have hon : ∀ v ∈ (List.replicate k C).flatten, v.oneCell' = true := fun v hv => by
        obtain ⟨r, hr, hvr⟩ := List.mem_flatten.1 hv
        rw [(List.mem_replicate.1 hr).2] at hvr
        exact Hone.out v hvr
      have hstk : ((repCells C Z n N).toArray.toList.take n ++ (List.replicate k C).flatten ++ (repCells C Z n N).toArray.toList.drop (n + (List.replicate k C).flatten.length)).toArray = (repCells C Z (n + k) N).toArray := by
        have := repCells_step (k := 1) (n := n) Hml'.out Hzl'.out hk2.1
        rw [Nat.mul_one] at this
        rw [List.toList_toArray, this]
      have hxs : Ext w1 (wr.drew.setRow g (repCells C Z (n + k) N).toArray) := below_setRow hx.drew (by rw [Hgw.out]; exact Nat.le_refl _) _
      have hgs := setRow_heap wr.drew g _ (repCells C Z (n + k) N).toArray 3 (0, 0) hgd
      have Hg := Lib.hid hg
      have Hx := Lib.hid hx
      have Hgd := Lib.hid hgd
      have Hnn := Lib.hid hnn
      have Hsrc := Lib.hid hsrc
      have Hfi := Lib.hid hfi
      have Hon := Lib.hid hon
      have Hstk := Lib.hid hstk
      have Hxs := Lib.hid hxs
      have Hgs := Lib.hid hgs
      have Hk := Lib.hid hk
      clear hg hx hgd hnn hsrc hfi hon hstk hxs hgs hk
      clear hcl
      go_upto_region 9 with fail
      refine wp_region_tree (.take [0, 1, 2, 3, 4, 5, 6] (.one 7 (.take [8] (.one 9 .done)))) (Ext w1) _ (by kernel_rfl) (by kernel_rfl) rfl (Hx.out.drew) ?_
      intro ι _ f hf hs
      have HS := Lib.hid hs
      clear hf hs
      simp only [treeOf, oneOp, twoOp, opsOf, consOp, List.getElem?_toArray, List.getElem?_cons_succ, List.getElem?_cons_zero]
      refine wpOT_take ?_
      repeat (go_big_quiet_step (fail))
      refine wpQuiet_nil ?_
      refine wpOT_one ?_
      go_wp2_with (refine wpList_copy_rows rfl (.tmp 41) (.tmp 44) 29 29 rfl 3 1 Tryz.underlying29 (by kernel_rfl) g n (N - n) (N - n) g 0 n N rfl rfl _ 3 Hgd.out (List.replicate k C).flatten Hnn.out Hsrc.out Hfi.out Hon.out ?_; rw [Hstk.out, Hk.out])
      refine ⟨HS.out _ Hxs.out, ?_⟩
      refine wpOT_take ?_
      repeat (go_big_quiet_step (fail))
      refine wpQuiet_nil ?_
      refine wpOT_one ?_
      go_wp2_with fail
      refine ⟨HS.out _ Hxs.out, ?_⟩
      refine wpOT_done ?_
      clear HS
      go_wp2_with fail
      go_roundw
      case rel => exact ⟨n + k, by go_num, by omega, by omega, Hxs.out, Hgs.out⟩
      case measure => simp [intOf]; omega
    · obtain rfl : n = N := by omega
      have hltB : decide ((n : Int) < (n : Int)) = false := by simp
      have hgf := hg
      rw [Hrn.out] at hgf
      have Hgf := Lib.hid hgf
      have Hx := Lib.hid hx
      clear hgf hx
      clear hg
      go_wp2_with fail
      go_ret
      exact ⟨g, rfl, Hx.out, by rw [Hgw.out]; exact Nat.le_refl _, Hgf.out⟩
end Go.Proofs.YtcoelhpmkhimpaaGreatDoor

namespace Go.Proofs.YtcoelhpmkhimpaaGreatDoor
open Go.RowKit
set_option linter.unusedVariables false
set_option linter.unusedSimpArgs false
theorem meets_of_block {w : World} {b : Nat} {l : List Meet} (h : RowBlock w b 145 4 (meetRows l)) : MeetsAt w (some ⟨b, 0, none⟩) l.length l := by
  have := h.slAt
  rw [meetRows_len] at this
  exact ⟨rfl, this.congr fun i hi => by simp [meetRows, List.getD, List.getElem?_map, List.getElem?_eq_getElem hi]⟩
theorem but_more {O O' : Nat → Prop} {A B : World} (h : But O A B) (hO : ∀ b, O b → O' b) : But O' A B := ⟨h.os, h.tape, h.output, h.size, fun b o hb hn => h.block b o hb (fun q => hn (hO b q))⟩
theorem meets_nil {w : World} {a : Option Addr} : MeetsAt w a 0 [] := ⟨rfl, fun h => absurd h (Nat.lt_irrefl 0)⟩
theorem insSort_none (a : Option Addr) (cap : Nat) (w : World) : Calls Tryz.prog 140 #[.slice a 0 cap, .int .i64 0, .int .i64 0, .func (.func 116) #[] #[]] w fun e w' => (∃ v, e = .returned v) ∧ w' = w := by
  go_enter Tryz.func140, Tryz.ntmps140
  go_upto_region 1 with fail
  go_loopw [8] (fun i wr => i = .int .i64 1 ∧ wr = w) (fun _ _ => 0)
  case atStart => exact ⟨rfl, rfl⟩
  case round =>
    obtain ⟨rfl, rfl⟩ := hrel
    go_wp2_with fail
    go_end0
    exact ⟨⟨_, rfl⟩, rfl⟩
/-- sorted in place: what is not in the slice's block lies as it lay -/
def SortPost (a : Option Addr) (n : Nat) (L : List Meet) (w : World) (e : Ending) (w' : World) : Prop := (∃ v, e = .returned v) ∧ MeetsAt w' a n (sortM L) ∧ But (fun b => ∃ x, a = some x ∧ x.block = b) w w'
theorem insOwn_any (B : Nat) (a : Option Addr) (n c : Nat) (L : List Meet) (w : World) (ho : Owns w B 145 4 (.slice a n c) (meetRows L)) (hn : n < 20) : Calls Tryz.prog 140 #[.slice a n c, .int .i64 0, .int .i64 n, .func (.func 116) #[] #[]] w (SortPost a n L w) := by
  rcases Nat.eq_zero_or_pos n with h0 | h0
  · subst h0
    have hL : L = [] := by
      obtain ⟨_, _, e, _, _, _, h⟩ := ho.slAt
      simp only [Value.slice.injEq, meetRows_len] at e
      exact List.length_eq_zero_iff.1 e.2.1.symm
    subst hL
    exact (insSort_none a c w).mono fun e w' h => ⟨h.1, meets_nil, by rw [h.2]; exact But.refl _ _⟩
  · have hl : (meetRows L).length = n := by
      obtain ⟨_, _, e, _, _, _, h⟩ := ho.slAt
      simp only [Value.slice.injEq] at e
      exact e.2.1.symm
    obtain ⟨g, c', e, h1, h2, h3, hB⟩ := ho.block (by omega)
    simp only [Value.slice.injEq] at e
    obtain ⟨rfl, hn', rfl⟩ := e
    have hl' : L.length = n := by rw [← meetRows_len]; exact hl
    refine (insSort_any g n c L w hB hl' h0 (by omega) (by omega)).mono fun e w' h => ⟨h.1, ?_, but_more h.2.2 fun b hb => ⟨_, rfl, hb.symm⟩⟩
    have := meets_of_block h.2.1
    rw [sortM_len, hl'] at this
    exact this
set_option maxRecDepth 100000 in
theorem stableCmp_any (B : Nat) (a : Option Addr) (n c : Nat) (L : List Meet) (w : World) (ho : Owns w B 145 4 (.slice a n c) (meetRows L)) (hn : n < 20) : Calls Tryz.prog 134 #[.slice a n c, .int .i64 n, .func (.func 116) #[] #[]] w (SortPost a n L w) := by
  have hi := insOwn_any B a n c L w ho hn
  have h1 : decide (20 ≤ (n : Int)) = false := decide_eq_false (by omega)
  have h2 : decide (20 < (n : Int)) = false := decide_eq_false (by omega)
  have Hi := Lib.hid hi
  clear hi
  clear ho
  go_enter Tryz.func134, Tryz.ntmps134
  go_upto_region 2 with fail
  go_loopw [7, 8] (fun i j wr => i = .int .i64 0 ∧ j = .int .i64 20 ∧ wr = w) (fun _ _ _ => 0)
  case atStart => exact ⟨rfl, rfl, rfl⟩
  case round =>
    obtain ⟨rfl, rfl, rfl⟩ := hrel
    go_upto_region 7 with (go_at_call 140; refine Hi.out.mono ?_; rintro e v1 ⟨⟨v, rfl⟩, hm, hb⟩; have HM := Lib.hid hm; have HBu := Lib.hid hb; clear hm hb)
    go_loopw [6] (fun i wr => i = .int .i64 20 ∧ wr = v1) (fun _ _ => 0)
    case atStart => exact ⟨rfl, rfl⟩
    case round =>
      obtain ⟨rfl, rfl⟩ := hrel
      go_wp2_with fail
      go_end0
      exact ⟨⟨_, rfl⟩, HM.out, HBu.out⟩
theorem stable_any (B : Nat) (a : Option Addr) (n c : Nat) (L : List Meet) (w : World) (ho : Owns w B 145 4 (.slice a n c) (meetRows L)) (hn : n < 20) : Calls Tryz.prog 115 #[.slice a n c, .func (.func 116) #[] #[]] w (SortPost a n L w) := by
  have hi := stableCmp_any B a n c L w ho hn
  have Hi := Lib.hid hi
  clear hi
  clear ho
  go_enter Tryz.func115, Tryz.ntmps115
  go_wp2_with (go_at_call 134; refine Hi.out.mono ?_; rintro e v1 ⟨⟨v, rfl⟩, hm, hb⟩; have HM := Lib.hid hm; have HBu := Lib.hid hb; clear hm hb)
  go_end0
  exact ⟨⟨_, rfl⟩, HM.out, HBu.out⟩
end Go.Proofs.YtcoelhpmkhimpaaGreatDoor

namespace Go.Proofs.YtcoelhpmkhimpaaGreatDoor
open Go.RowKit
set_option linter.unusedVariables false
set_option linter.unusedSimpArgs false
theorem info74 : (Tryz.prog.info? 145).map (fun i => (i.zero, i.size, i.bytes)) = some (some (.agg #[.int .i64 0, .int .i64 0, .int .i64 0, .bool false]), 4, 32) := by kernel_rfl
theorem elem66 : Elem Tryz.prog 146 145 4 := by
  obtain ⟨i, h1, h2, h3, h4⟩ := info_parts info74
  exact ⟨Tryz.underlying146, ⟨i, _, _, h1, h2, h3, h4, rfl, by decide⟩, by decide⟩
theorem meetRows_row (l : List Meet) : ∀ r ∈ meetRows l, r.length = 4 ∧ ∀ u ∈ r, u.oneCell' = true := by
  intro r hr
  obtain ⟨t, _, rfl⟩ := List.mem_map.1 hr
  refine ⟨rfl, fun u hu => ?_⟩
  simp only [Meet.cells, List.mem_cons, List.not_mem_nil, or_false] at hu
  rcases hu with rfl | rfl | rfl | rfl <;> rfl
theorem MeetsAt.src {w : World} {a : Option Addr} {n : Nat} {l : List Meet} (h : MeetsAt w a n l) : SlAt w 4 a n (fun k => (meetRows l).getD k []) :=
  h.2.congr fun k hk => by
    have := h.1
    simp only [meetRows, List.getD, List.getElem?_map, List.getElem?_eq_getElem (show k < l.length by omega), Option.map_some, Option.getD_some]
theorem Owns.emptyM {w : World} {base b cap : Nat} {e : TypeId} {sz : Nat} {cur : Array Value} (hb : w.heap[b]? = some (.cells cur e (0, 0))) (hB : base ≤ b) (hc : cur.size = cap * sz) (hm : cap ≤ maxLen) : Owns w base e sz (.slice (some ⟨b, 0, none⟩) 0 cap) [] :=
  ⟨⟨by simp, .inr ⟨b, cap, cur, rfl, hB, hb, Nat.zero_le _, hm, hc, by simp⟩⟩, by simp⟩
def OwnMeets (B : Nat) (l : List Meet) (e : Ending) (w w' : World) : Prop := ∃ a c, e = .returned (.slice a l.length c) ∧ Ext w w' ∧ Owns w' B 145 4 (.slice a l.length c) (meetRows l)
set_option maxRecDepth 100000 in
theorem cloneM_any (a : Option Addr) (n cap : Nat) (l : List Meet) (w : World) (hl : MeetsAt w a n l) (hn : n ≤ 100000) (ha : a = none → n = 0 ∧ cap = 0) (hoff : ∀ x, a = some x → ∃ b o, x = ⟨b, o, none⟩) : Calls Tryz.prog 114 #[.slice a n cap] w fun e w' => OwnMeets w.heap.size l e w w' := by
  have hll := hl.1
  cases a with
  | none =>
    obtain ⟨rfl, rfl⟩ := ha rfl
    have hL : l = [] := List.length_eq_zero_iff.1 hll
    subst hL
    have heq : (binOp .eql 146 (.slice none 0 0) (.slice none 0 0)).run Tryz.prog w = .ok (.bool true) w := by
      have := Go.Lib.run_eql_slice_nil (P := Tryz.prog) w 146 145 none 0 0 0 0 Tryz.underlying146
      simpa using this
    clear hl
    go_enter Tryz.func114, Tryz.ntmps114
    go_wp2_with fail
    go_ret
    exact ⟨none, 0, rfl, Ext.refl _, Owns.nil _ _ _ _⟩
  | some x =>
    obtain ⟨b, o, rfl⟩ := hoff _ rfl
    have hrl : (meetRows l).length = n := by rw [meetRows_len]; exact hll
    have hsl := hl.src
    have heq : (binOp .eql 146 (.slice (some ⟨b, o, none⟩) n cap) (.slice none 0 0)).run Tryz.prog w = .ok (.bool false) w := by
      have := Go.Lib.run_eql_slice_nil (P := Tryz.prog) w 146 145 (some ⟨b, o, none⟩) n cap 0 0 Tryz.underlying146
      simpa using this
    have Hrl := Lib.hid hrl
    have Hsl := Lib.hid hsl
    have Hl := Lib.hid hl
    clear hrl hsl hl
    go_enter Tryz.func114, Tryz.ntmps114
    go_wp2_with (at_builtin; refine wpList_app elem66 _ rfl (.tmp 5) (.tmp 6) rfl w.heap.size _ (meetRows []) rfl (Owns.emptyM (alloc_at _ _ _ rfl) (Nat.le_refl _) rfl (by decide)) (some ⟨b, o, none⟩) n cap (meetRows l) rfl Hrl.out (Hsl.out.ext ((Ext.refl _).alloc _)) (meetRows_row _) ?_ ?_ ?_)
    · show 0 + n ≤ 1000000000
      omega
    · simp
    intro v4 w4 ho4 hg4 _
    rw [show meetRows [] ++ meetRows l = meetRows l from rfl] at ho4
    have hx4 : Ext w w4 := ((Ext.refl w).alloc _).app (Owns.emptyM (sz := 4) (cap := 0) (alloc_at _ _ _ rfl) (Nat.le_refl _) rfl (by decide)) hg4
    obtain ⟨a4, c4, e4, _, _, _, _⟩ := ho4.slAt
    rw [meetRows_len] at e4
    subst e4
    have Ho4 := Lib.hid ho4
    have Hx4 := Lib.hid hx4
    clear ho4 hx4
    clear hg4
    go_wp2_with fail
    go_ret
    exact ⟨a4, c4, rfl, Hx4.out, Ho4.out⟩
end Go.Proofs.YtcoelhpmkhimpaaGreatDoor

namespace Go.Proofs.YtcoelhpmkhimpaaGreatDoor
open Go.RowKit
set_option linter.unusedVariables false
set_option linter.unusedSimpArgs false
theorem ivs_at {W : World} {g : Nat} {S : List Int} {t : TypeId} (h : W.heap[g]? = some (.cells (ivs S) t (0, 0))) {k : Nat} (hk : k < S.length) : W.cell? ⟨g, k, none⟩ = some (.int .i64 (S.getD k 0)) := by
  rw [cell_of_row _ _ _ _ _ _ h]
  exact ivs_get hk
structure SpSt (w : World) (g N : Nat) (S : List Int) (W : World) : Prop where
  len : S.length = N
  ext : Ext w W
  box : W.heap[g]? = some (.cells (ivs S) 3 (0, 0))
theorem SpSt.more {w W W' : World} {g N : Nat} {S : List Int} (h : SpSt w g N S W) (e : Ext W W') : SpSt w g N S W' := ⟨h.len, h.ext.trans e, e.heap h.box⟩
theorem SpSt.put {w W : World} {g N : Nat} {S : List Int} (h : SpSt w g N S W) (hg : w.heap.size ≤ g) (k : Nat) (v : Int) : SpSt w g N (S.set k v) (W.setCell ⟨g, k, none⟩ (.int .i64 v)) :=
  ⟨by rw [List.length_set]; exact h.len, h.ext.setCell (p := ⟨g, k, none⟩) hg _, by rw [heap_setCell_box, h.box]; exact congrArg (fun x => some (Obj.cells x 3 (0, 0))) (ivs_set S k v)⟩
theorem SpSt.at {w W : World} {g N : Nat} {S : List Int} (h : SpSt w g N S W) {k : Nat} (hk : k < N) : W.cell? ⟨g, k, none⟩ = some (.int .i64 (S.getD k 0)) := ivs_at h.box (by rw [h.len]; exact hk)
def setZero (s : List Int) (i : Int) : List Int := s.set i.toNat 0
/-- behind so many of the two ways of a meeting -/
def ways (wait : Int) (m : Meet) (s : List Int) : Nat → List Int
  | 0 => s
  | 1 => passOn wait m.a m.b m.day s
  | _ => passOn wait m.b m.a m.day (passOn wait m.a m.b m.day s)
theorem dropM_at {α : Type} {l : List α} {j : Nat} {m : α} (h : l[j]? = some m) : l.drop j = m :: l.drop (j + 1) := by
  obtain ⟨h1, rfl⟩ := List.getElem?_eq_some_iff.1 h
  exact List.drop_eq_getElem_cons h1
theorem ways_pass {wait : Int} {m : Meet} {S : List Int} {A B : Nat} (hA : m.a = A) (hB : m.b = B) : ways wait m S 1 = passOn wait A B m.day S ∧ ways wait m S 2 = passOn wait B A m.day (ways wait m S 1) := by
  simp only [ways, hA, hB]
  exact ⟨trivial, trivial⟩
theorem pass_yes {wait day : Int} {P Q : Nat} {S : List Int} (h : S.getD P 0 ≤ day) : passOn wait P Q day S = S.set Q (if day + wait < S.getD Q 0 then day + wait else S.getD Q 0) := by
  unfold passOn getI
  simp only [Int.toNat_natCast]
  rw [if_pos h]
  congr 1
  omega
theorem pass_no {wait day : Int} {P Q : Nat} {S : List Int} (h : ¬S.getD P 0 ≤ day) : passOn wait P Q day S = S := by
  unfold passOn getI
  simp only [Int.toNat_natCast]
  rw [if_neg h]
theorem run_min2 (a b : Int) (w : World) : (Builtin.min_ #[3, 3] 3 #[.int .i64 a, .int .i64 b]).run Tryz.prog w = .ok (.int .i64 (if b < a then b else a)) w := by
  simp [Builtin.min_, Builtin.min2]
def SpreadPost (N : Nat) (S : List Int) (w : World) (e : Ending) (w' : World) : Prop := ∃ g, e = .returned (.slice (some ⟨g, 0, none⟩) N N) ∧ Ext w w' ∧ w.heap.size ≤ g ∧ w'.heap[g]? = some (.cells (ivs S) 3 (0, 0)) ∧ S.length = N
set_option maxRecDepth 100000 in
set_option maxHeartbeats 4000000 in
theorem spread_any (N : Nat) (hN : 1 ≤ N ∧ N ≤ 30) (a1 : Option Addr) (n1 c1 : Nat) (first : List Int) (a2 : Option Addr) (n2 c2 : Nat) (l : List Meet) (wait last : Int) (w : World) (h1 : IntsAt .i64 w a1 n1 first) (hf : ∀ i ∈ first, 0 ≤ i ∧ i < N) (hn1 : n1 ≤ 1000)
    (h2 : MeetsAt w a2 n2 l) (hl : ∀ m ∈ l, MeetOk N m) (hn2 : n2 ≤ 1000) (hw : 1 ≤ wait ∧ wait ≤ 60) : Calls Tryz.prog 118 #[.int .i64 N, .slice a1 n1 c1, .slice a2 n2 c2, .int .i64 wait, .int .i64 last] w (SpreadPost N (spreadOf N first l wait last) w) := by
  have hrep := fun (b : Nat) (W : World) (hb : W.heap[b]? = some (.cells #[.int .i64 100061] 3 (0, 0))) => repeatN b 100061 N hN W hb
  have hx0 : Ext w (w.alloc (.cells #[.int .i64 100061] 3)) := (Ext.refl _).alloc _
  have hl1 := h1.1
  have hl2 := h2.1
  have Hrep := Lib.hid hrep
  have Hx0 := Lib.hid hx0
  have H1 := Lib.hid h1
  have H2 := Lib.hid h2
  have Hf := Lib.hid hf
  have Hl := Lib.hid hl
  clear hrep hx0 h1 h2 hf hl
  go_enter Tryz.func118, Tryz.ntmps118
  go_wp2_with fail
  go_step3
  go_wp2_with (go_at_call 136; refine (Hrep.out _ _ (alloc_at _ _ _ (by simp))).mono ?_; rintro e w1 ⟨g, rfl, hx1, hg1, hb1⟩)
  have st0 : SpSt w g N (List.replicate N 100061) w1 := ⟨by simp, Hx0.out.trans hx1, hb1⟩
  have hgw : w.heap.size ≤ g := Nat.le_trans (by simp) hg1
  clear hx1 hg1 hb1 Hx0 Hrep
  have St0 := Lib.hid st0
  clear st0
  go_loopw [22] (fun i V => ∃ k : Nat, i = .int .i64 k ∧ k ≤ n1 ∧ SpSt w g N ((first.take k).foldl setZero (List.replicate N 100061)) V) (fun i _ => n1 - (intOf i).toNat)
  case atStart => exact ⟨0, rfl, Nat.zero_le _, St0.out⟩
  case round =>
    obtain ⟨k, rfl, hk, st⟩ := hrel
    by_cases hlt : k < n1
    · have hltB : decide ((k : Int) < (n1 : Int)) = true := by simp; omega
      obtain ⟨b, off, x, rfl, hxk, hbs, c0⟩ := (H1.out.ext st.ext).get k hlt
      have hx := Hf.out x (List.mem_of_getElem? hxk)
      obtain ⟨X, rfl⟩ : ∃ X : Nat, x = (X : Int) := ⟨x.toNat, by omega⟩
      have hXN : X < N := by omega
      have hXB : decide ((X : Int) < (N : Int)) = true := by simp; omega
      have c1 := st.at hXN
      have fz := fun q => ((Ext.refl wr).box st.box).2 q
      have hgl := heap_lt st.box
      have hnext := st.put hgw X 0
      have htk : (first.take (k + 1)).foldl setZero (List.replicate N 100061) = ((first.take k).foldl setZero (List.replicate N 100061)).set X 0 := by
        rw [List.take_add_one, hxk]
        simp [setZero]
      rw [← htk] at hnext
      clear htk hx hxk st
      have Hnext := Lib.hid hnext
      clear hnext
      go_wp2_with fail
      go_roundw
      case rel => exact ⟨k + 1, by go_num, by omega, Hnext.out⟩
      case measure => simp [intOf]; omega
    · have hltB : decide ((k : Int) < (n1 : Int)) = false := by simp; omega
      obtain rfl : k = n1 := by omega
      have hs : (first.take k).foldl setZero (List.replicate N 100061) = sickAt N first := by
        rw [List.take_of_length_le (by omega)]
        rfl
      rw [hs] at st
      clear hs hlt
      have hgoal : spreadL wait last (l.drop 0) (sickAt N first) = spreadOf N first l wait last := rfl
      generalize spreadOf N first l wait last = G at *
      generalize sickAt N first = S0 at *
      have St := Lib.hid st
      have Hgoal := Lib.hid hgoal
      clear st hgoal
      clear St0
      go_wp2_with fail
      go_step3
      go_wp2_with fail
      go_loopw [32] (fun i V => ∃ (j : Nat) (S : List Int), i = .int .i64 j ∧ j ≤ n2 ∧ SpSt w g N S V ∧ spreadL wait last (l.drop j) S = G) (fun i _ => n2 - (intOf i).toNat)
      case atStart => exact ⟨0, S0, rfl, Nat.zero_le _, St.out, Hgoal.out⟩
      case round =>
        obtain ⟨j, S, rfl, hj, st, hsp⟩ := hrel
        by_cases hlt : j < n2
        · have hltB : decide ((j : Int) < (n2 : Int)) = true := by simp; omega
          obtain ⟨b2, o2, m, rfl, hmk, hbs, c0, c1, c2', c3⟩ := H2.out.get j hlt
          obtain ⟨e1, e2, e3, e4⟩ := Hl.out m (List.mem_of_getElem? hmk)
          obtain ⟨A, hA⟩ : ∃ A : Nat, m.a = A := ⟨m.a.toNat, by omega⟩
          obtain ⟨B, hB⟩ : ∃ B : Nat, m.b = B := ⟨m.b.toNat, by omega⟩
          have hdrop := dropM_at hmk
          have hway := ways_pass (wait := wait) (S := S) hA hB
          have hAN : A < N := by omega
          have hBN : B < N := by omega
          have i0 : ∀ w, (Instr.index 202 (.agg #[.int .i64 A, .int .i64 B, .int .i64 B, .int .i64 A]) (.int .i64 0)).run Tryz.prog w = .ok (.agg #[.int .i64 A, .int .i64 B]) w := fun _ => by kernel_rfl
          have i1 : ∀ w, (Instr.index 202 (.agg #[.int .i64 A, .int .i64 B, .int .i64 B, .int .i64 A]) (.int .i64 1)).run Tryz.prog w = .ok (.agg #[.int .i64 B, .int .i64 A]) w := fun _ => by kernel_rfl
          rw [hA] at c0
          rw [hB] at c1
          obtain ⟨md, hmd⟩ : ∃ md, m.day = md := ⟨_, rfl⟩
          rw [hmd] at c2' e4 hway
          rw [hdrop] at hsp
          unfold spreadL at hsp
          rw [hmd] at hsp
          have hfin : (if last < md then S else spreadL wait last (l.drop (j + 1)) (ways wait m S 2)) = G := by
            rw [← hsp]
            simp only [ways, hmd]
          clear hsp hdrop hmk hA hB hmd e1 e2 e3 c3 hbs
          obtain ⟨ed1, ed2⟩ := e4
          obtain ⟨hw1, hw2⟩ := hw
          have St := Lib.hid st
          have Hway := Lib.hid hway
          have Hfin := Lib.hid hfin
          have I0 := Lib.hid i0
          have I1 := Lib.hid i1
          have C0 := Lib.hid c0
          have C1 := Lib.hid c1
          have C2' := Lib.hid c2'
          clear st hway hfin i0 i1 c0 c1 c2'
          go_upto_region 11 with fail
          refine wp_region_ext (by kernel_rfl) (by kernel_rfl) (fun f hf hs => ?_)
          have f0 := fun q => (hf q).cell (St.out.ext.cell C0.out)
          have f1 := fun q => (hf q).cell (St.out.ext.cell C1.out)
          clear hf hs
          repeat (go_big_quiet_step (fail))
          refine wpQuiet_nil ?_
          intro W1 hW1
          clear f0 f1
          have st1 := St.out.more hW1
          have St1 := Lib.hid st1
          clear st1
          clear hW1 St C0 C1
          go_upto_region 11 with fail
          go_loopw [58] (fun i V => ∃ d : Nat, i = .int .i64 d ∧ d ≤ 2 ∧ SpSt w g N (ways wait m S d) V ∧ (1 ≤ d → ¬last < md)) (fun i _ => 2 - (intOf i).toNat)
          case atStart => exact ⟨0, rfl, by omega, St1.out, fun h => by omega⟩
          case round =>
            obtain ⟨d, rfl, hd, st, hla⟩ := hrel
            have hd3 : d = 0 ∨ d = 1 ∨ d = 2 := by omega
            rcases hd3 with rfl | rfl | rfl
            · rw [show ((0 : Nat) : Int) = 0 from rfl]
              have hltB2 : decide ((0 : Int) < 2) = true := by simp
              have ix := I0.out
              have hnx : ways wait m S (0 + 1) = passOn wait A B md (ways wait m S 0) := Hway.out.1
              obtain ⟨T, hT⟩ : ∃ T, ways wait m S 0 = T := ⟨_, rfl⟩
              rw [hT] at hnx st
              have hcP := st.at (k := A) hAN
              have hcQ := st.at (k := B) hBN
              obtain ⟨tP, htP⟩ : ∃ tP, T.getD A 0 = tP := ⟨_, rfl⟩
              obtain ⟨tQ, htQ⟩ : ∃ tQ, T.getD B 0 = tQ := ⟨_, rfl⟩
              rw [htP] at hcP
              rw [htQ] at hcQ
              have hPB : decide ((A : Int) < (N : Int)) = true := by simp; omega
              have hQB : decide ((B : Int) < (N : Int)) = true := by simp; omega
              have hgl := heap_lt st.box
              have hcD := st.ext.cell C2'.out
              have St := Lib.hid st
              have HcP := Lib.hid hcP
              have HcQ := Lib.hid hcQ
              have HcD := Lib.hid hcD
              have Hnx := Lib.hid hnx
              have HT := Lib.hid hT
              have HtP := Lib.hid htP
              have HtQ := Lib.hid htQ
              clear st hcP hcQ hcD hnx hT htP htQ
              go_upto_region 13 with fail
              have hx13 := (Ext.refl wr).alloc (.cells #[.int .i64 A, .int .i64 B] 128)
              have b13 := heap_alloc_new wr (.cells #[.int .i64 A, .int .i64 B] 128)
              generalize wr.alloc (.cells #[.int .i64 A, .int .i64 B] 128) = W13 at *
              generalize wr.heap.size = p16 at *
              have cD := hx13.cell HcD.out
              have cP := hx13.cell HcP.out
              have cQ := hx13.cell HcQ.out
              have st3 := St.out.more hx13
              have CD := Lib.hid cD
              have B13 := Lib.hid b13
              have CP := Lib.hid cP
              have CQ := Lib.hid cQ
              have St3 := Lib.hid st3
              clear b13 cP cQ st3
              clear hx13 ix HcP HcQ HcD St
              by_cases hlm : last < md
              · have hlD : decide (last < md) = true := decide_eq_true hlm
                have hG := Hfin.out
                rw [if_pos hlm] at hG
                have st4 := St3.out
                rw [← HT.out] at st4
                simp only [ways] at st4
                rw [hG] at st4
                have hbx := st4.box
                have hle4 := st4.len
                have hxe := st4.ext
                have Hbx := Lib.hid hbx
                have Hle4 := Lib.hid hle4
                have Hxe := Lib.hid hxe
                clear hbx hle4 hxe
                clear hG st4 hlm St3 B13 CP CQ CD
                go_wp2_with fail
                go_ret
                exact ⟨g, rfl, Hxe.out, hgw, Hbx.out, Hle4.out⟩
              · have hlD : decide (last < md) = false := decide_eq_false hlm
                go_upto_region 14 with fail
                refine wp_region_ext (by kernel_rfl) (by kernel_rfl) (fun f hf hs => ?_)
                have fB := fun q => ((hf q).box B13.out).1
                have fP := fun q => (hf q).cell CP.out
                have fD := fun q => (hf q).cell CD.out
                clear hf hs
                repeat (go_big_quiet_step (fail))
                refine wpQuiet_nil ?_
                intro W14 hW14
                clear fB fP fD
                have st4 := St3.out.more hW14
                have b14 := hW14.heap B13.out
                have cQ4 := hW14.cell CQ.out
                have cD4 := hW14.cell CD.out
                have St4 := Lib.hid st4
                have B14 := Lib.hid b14
                have CQ4 := Lib.hid cQ4
                have CD4 := Lib.hid cD4
                clear st4 b14 cQ4 cD4
                clear cD hW14 St3 B13 CP CQ CD
                by_cases hle : tP ≤ md
                · have hleB : decide (tP ≤ md) = true := decide_eq_true hle
                  have hnx2 := Hnx.out.trans (pass_yes (wait := wait) (Q := B) (by rw [HtP.out]; exact hle))
                  rw [HtQ.out] at hnx2
                  obtain ⟨v, hv⟩ : ∃ v, (if md + wait < tQ then md + wait else tQ) = v := ⟨_, rfl⟩
                  have hmn := fun W => run_min2 tQ (md + wait) W
                  simp only [hv] at hmn
                  rw [hv] at hnx2
                  clear hv
                  have Hnx2 := Lib.hid hnx2
                  clear hnx2
                  go_upto_region 15 with fail
                  refine wp_region_plan (.take [0, 1, 2, 3, 4, 5, 6, 7, 8, 9, 10, 11, 12, 13, 14, 15, 16] (.fin (.one 17 .done))) [17] (Ext W14) _ (by kernel_rfl) (by kernel_rfl) rfl (EC.ext W14) ((Ext.refl _).drew) ?_
                  simp only [planOf, treeOf, oneOp, twoOp, opsOf, consOp, callOC, oneOC, twoOC, List.getElem?_toArray, List.getElem?_cons_succ, List.getElem?_cons_zero]
                  intro ι _ f hf
                  have fB := fun q => ((hf q).box B14.out).1
                  have fQ := fun q => (hf q).cell CQ4.out
                  have fD := fun q => (hf q).cell CD4.out
                  clear hf
                  repeat (go_big_quiet_step (fail))
                  refine wpQuiet_nil ?_
                  clear fB fQ fD
                  intro W15 hW15
                  refine wpOT_one ?_
                  have st5 := St4.out.more hW15
                  have fz := fun q => ((Ext.refl W15).box st5.box).2 q
                  have hgl5 := heap_lt st5.box
                  have cQ5 := hW15.cell CQ4.out
                  have st6 := st5.put hgw B v
                  rw [← Hnx2.out] at st6
                  have St6 := Lib.hid st6
                  clear st6
                  clear Hnx2 Hnx B14 CQ4 CD4 St4
                  go_wp2_with fail
                  refine wpOT_done ?_
                  go_wp2_with fail
                  go_roundw
                  case rel => exact ⟨0 + 1, by go_num, by omega, St6.out, fun _ => by omega⟩
                  case measure => simp [intOf]
                · have hleB : decide (tP ≤ md) = false := decide_eq_false hle
                  have hnx2 := Hnx.out.trans (pass_no (wait := wait) (Q := B) (by rw [HtP.out]; exact hle))
                  have st6 := St4.out
                  rw [← hnx2] at st6
                  have St6 := Lib.hid st6
                  clear st6
                  clear hnx2 Hnx B14 CQ4 CD4 St4
                  go_wp2_with fail
                  go_roundw
                  case rel => exact ⟨0 + 1, by go_num, by omega, St6.out, fun _ => by omega⟩
                  case measure => simp [intOf]
            · rw [show ((1 : Nat) : Int) = 1 from rfl]
              have hltB2 : decide ((1 : Int) < 2) = true := by simp
              have ix := I1.out
              have hnx : ways wait m S (1 + 1) = passOn wait B A md (ways wait m S 1) := Hway.out.2
              obtain ⟨T, hT⟩ : ∃ T, ways wait m S 1 = T := ⟨_, rfl⟩
              rw [hT] at hnx st
              have hcP := st.at (k := B) hBN
              have hcQ := st.at (k := A) hAN
              obtain ⟨tP, htP⟩ : ∃ tP, T.getD B 0 = tP := ⟨_, rfl⟩
              obtain ⟨tQ, htQ⟩ : ∃ tQ, T.getD A 0 = tQ := ⟨_, rfl⟩
              rw [htP] at hcP
              rw [htQ] at hcQ
              have hPB : decide ((B : Int) < (N : Int)) = true := by simp; omega
              have hQB : decide ((A : Int) < (N : Int)) = true := by simp; omega
              have hgl := heap_lt st.box
              have hcD := st.ext.cell C2'.out
              have St := Lib.hid st
              have HcP := Lib.hid hcP
              have HcQ := Lib.hid hcQ
              have HcD := Lib.hid hcD
              have Hnx := Lib.hid hnx
              have HT := Lib.hid hT
              have HtP := Lib.hid htP
              have HtQ := Lib.hid htQ
              clear st hcP hcQ hcD hnx hT htP htQ
              go_upto_region 13 with fail
              have hx13 := (Ext.refl wr).alloc (.cells #[.int .i64 B, .int .i64 A] 128)
              have b13 := heap_alloc_new wr (.cells #[.int .i64 B, .int .i64 A] 128)
              generalize wr.alloc (.cells #[.int .i64 B, .int .i64 A] 128) = W13 at *
              generalize wr.heap.size = p16 at *
              have cD := hx13.cell HcD.out
              have cP := hx13.cell HcP.out
              have cQ := hx13.cell HcQ.out
              have st3 := St.out.more hx13
              have CD := Lib.hid cD
              have B13 := Lib.hid b13
              have CP := Lib.hid cP
              have CQ := Lib.hid cQ
              have St3 := Lib.hid st3
              clear b13 cP cQ st3
              clear hx13 ix HcP HcQ HcD St
              have hlm := hla (by omega)
              have hlD : decide (last < md) = false := decide_eq_false hlm
              go_upto_region 14 with fail
              refine wp_region_ext (by kernel_rfl) (by kernel_rfl) (fun f hf hs => ?_)
              have fB := fun q => ((hf q).box B13.out).1
              have fP := fun q => (hf q).cell CP.out
              have fD := fun q => (hf q).cell CD.out
              clear hf hs
              repeat (go_big_quiet_step (fail))
              refine wpQuiet_nil ?_
              intro W14 hW14
              clear fB fP fD
              have st4 := St3.out.more hW14
              have b14 := hW14.heap B13.out
              have cQ4 := hW14.cell CQ.out
              have cD4 := hW14.cell CD.out
              have St4 := Lib.hid st4
              have B14 := Lib.hid b14
              have CQ4 := Lib.hid cQ4
              have CD4 := Lib.hid cD4
              clear st4 b14 cQ4 cD4
              clear cD hW14 St3 B13 CP CQ CD
              by_cases hle : tP ≤ md
              · have hleB : decide (tP ≤ md) = true := decide_eq_true hle
                have hnx2 := Hnx.out.trans (pass_yes (wait := wait) (Q := A) (by rw [HtP.out]; exact hle))
                rw [HtQ.out] at hnx2
                obtain ⟨v, hv⟩ : ∃ v, (if md + wait < tQ then md + wait else tQ) = v := ⟨_, rfl⟩
                have hmn := fun W => run_min2 tQ (md + wait) W
                simp only [hv] at hmn
                rw [hv] at hnx2
                clear hv
                have Hnx2 := Lib.hid hnx2
                clear hnx2
                go_upto_region 15 with fail
                refine wp_region_plan (.take [0, 1, 2, 3, 4, 5, 6, 7, 8, 9, 10, 11, 12, 13, 14, 15, 16] (.fin (.one 17 .done))) [17] (Ext W14) _ (by kernel_rfl) (by kernel_rfl) rfl (EC.ext W14) ((Ext.refl _).drew) ?_
                simp only [planOf, treeOf, oneOp, twoOp, opsOf, consOp, callOC, oneOC, twoOC, List.getElem?_toArray, List.getElem?_cons_succ, List.getElem?_cons_zero]
                intro ι _ f hf
                have fB := fun q => ((hf q).box B14.out).1
                have fQ := fun q => (hf q).cell CQ4.out
                have fD := fun q => (hf q).cell CD4.out
                clear hf
                repeat (go_big_quiet_step (fail))
                refine wpQuiet_nil ?_
                clear fB fQ fD
                intro W15 hW15
                refine wpOT_one ?_
                have st5 := St4.out.more hW15
                have fz := fun q => ((Ext.refl W15).box st5.box).2 q
                have hgl5 := heap_lt st5.box
                have cQ5 := hW15.cell CQ4.out
                have st6 := st5.put hgw A v
                rw [← Hnx2.out] at st6
                have St6 := Lib.hid st6
                clear st6
                clear Hnx2 Hnx B14 CQ4 CD4 St4
                go_wp2_with fail
                refine wpOT_done ?_
                go_wp2_with fail
                go_roundw
                case rel => exact ⟨1 + 1, by go_num, by omega, St6.out, fun _ => by omega⟩
                case measure => simp [intOf]
              · have hleB : decide (tP ≤ md) = false := decide_eq_false hle
                have hnx2 := Hnx.out.trans (pass_no (wait := wait) (Q := A) (by rw [HtP.out]; exact hle))
                have st6 := St4.out
                rw [← hnx2] at st6
                have St6 := Lib.hid st6
                clear st6
                clear hnx2 Hnx B14 CQ4 CD4 St4
                go_wp2_with fail
                go_roundw
                case rel => exact ⟨1 + 1, by go_num, by omega, St6.out, fun _ => by omega⟩
                case measure => simp [intOf]
            · rw [show ((2 : Nat) : Int) = 2 from rfl]
              have hlm := hla (by omega)
              have hG := Hfin.out
              rw [if_neg hlm] at hG
              have St := Lib.hid st
              have HG := Lib.hid hG
              clear st hG
              go_wp2_with fail
              go_roundw
              case rel => exact ⟨j + 1, _, by go_num, by omega, St.out, HG.out⟩
              case measure => simp [intOf]; omega
        · have hltB : decide ((j : Int) < (n2 : Int)) = false := by simp; omega
          have hG : S = G := by
            rw [List.drop_of_length_le (by omega)] at hsp
            exact hsp
          subst hG
          have hbx := st.box
          have hle4 := st.len
          have hxe := st.ext
          have Hbx := Lib.hid hbx
          have Hle4 := Lib.hid hle4
          have Hxe := Lib.hid hxe
          clear hbx hle4 hxe
          clear st hsp
          go_wp2_with fail
          rw [Exit.noGoto_ret]
          go_ret
          exact ⟨g, rfl, Hxe.out, hgw, Hbx.out, Hle4.out⟩
end Go.Proofs.YtcoelhpmkhimpaaGreatDoor

namespace Go.Proofs.YtcoelhpmkhimpaaGreatDoor
open Go.RowKit
set_option linter.unusedVariables false

/-! ### over meet, closure 66 -/
set_option maxHeartbeats 400000 in
theorem indexFunc_meet66 (a : Option Addr) (n cap q0 : Nat) (l : List Meet) (p : Meet → Bool) (w : World) (hl : MeetsAt w a n l) (hn : n ≤ 1000000000)
    (hp : ∀ o, o ∈ l → ∀ W, Ext w W → Calls Tryz.prog 112 #[o.val, .pointer (some ⟨q0, 0, none⟩)] W fun e W' => e = .returned (.bool (p o)) ∧ Ext W W') :
    Calls Tryz.prog 133 #[.slice a n cap, .func (.func 112) #[] #[.pointer (some ⟨q0, 0, none⟩)]] w fun e w' =>
      e = .returned (.int .i64 (idxI p l)) ∧ Ext w w' := by
  have Hp := Lib.hid hp
  have Hl := Lib.hid hl
  clear hp hl
  go_enter Tryz.func133, Tryz.ntmps133
  go_wp2_with fail
  go_loopw [5, 8] (fun i5 i8 wr => ∃ k : Nat, k ≤ n ∧ i8 = .int .i64 k ∧ Ext w wr ∧ ∀ (j : Nat) (y : Meet), j < k → l[j]? = some y → p y = false) (fun _ i8 _ => n - (intOf i8).toNat)
  case atStart => exact ⟨0, Nat.zero_le _, rfl, Ext.refl _, fun j y h => by omega⟩
  case round =>
    obtain ⟨k, hk, rfl, hx, hall⟩ := hrel
    have Hall := Lib.hid hall
    clear hall
    by_cases hlt : k < n
    · obtain ⟨b, off, x, rfl, hxk, hb, c0, c1, c2, c3⟩ := (Hl.out.ext hx).get k hlt
      have Hxk := Lib.hid hxk
      clear hxk
      have hc := Hp.out x (List.mem_of_getElem? Hxk.out) wr hx
      have Hc := Lib.hid hc
      clear hc
      cases hpx : p x with
      | true =>
        have Hpx := Lib.hid hpx
        rw [hpx] at Hc
        clear hpx
        go_wp2_with (go_at_call 112; refine Hc.out.mono ?_; rintro e w' ⟨rfl, hb⟩)
        go_ret
        exact ⟨ret_int (idxI_some Hxk.out Hpx.out Hall.out).symm, hx.trans (by assumption)⟩
      | false =>
        have Hpx := Lib.hid hpx
        rw [hpx] at Hc
        clear hpx
        go_wp2_with (go_at_call 112; refine Hc.out.mono ?_; rintro e w' ⟨rfl, hb⟩)
        go_roundw
        case rel => exact ⟨k + 1, by omega, by go_num, hx.trans (by assumption), fun j y hj hy => by
            rcases Nat.lt_or_ge j k with h | h
            · exact Hall.out j y h hy
            · have e : j = k := by omega
              subst e
              have := Hxk.out
              rw [hy] at this
              cases this
              exact Hpx.out⟩
        case measure => simp [intOf]; omega
    · go_wp2_with fail
      go_ret
      refine ⟨ret_int ?_, hx⟩
      refine (idxI_none (fun j y hy => Hall.out j y ?_ hy)).symm
      have h1 := Hl.out.1
      rcases Nat.lt_or_ge j l.length with h | h
      · omega
      · simp [List.getElem?_eq_none h] at hy

theorem contains_meet66 (a : Option Addr) (n cap q0 : Nat) (l : List Meet) (p : Meet → Bool) (w : World) (hl : MeetsAt w a n l) (hn : n ≤ 1000000000)
    (hp : ∀ o, o ∈ l → ∀ W, Ext w W → Calls Tryz.prog 112 #[o.val, .pointer (some ⟨q0, 0, none⟩)] W fun e W' => e = .returned (.bool (p o)) ∧ Ext W W') :
    Calls Tryz.prog 113 #[.slice a n cap, .func (.func 112) #[] #[.pointer (some ⟨q0, 0, none⟩)]] w fun e w' =>
      e = .returned (.bool (l.any p)) ∧ Ext w w' := by
  have Hc := Lib.hid (indexFunc_meet66 a n cap q0 l p w hl hn hp)
  clear hp hl
  go_enter Tryz.func113, Tryz.ntmps113
  go_wp2_with (go_at_call 133; refine Hc.out.mono ?_; rintro e w' ⟨rfl, hb⟩)
  go_ret
  exact ⟨ret_bool (idxI_ge p l), by assumption⟩


/-! ### over meet, closure 74 -/
set_option maxHeartbeats 400000 in
theorem indexFunc_meet74 (a : Option Addr) (n cap : Nat) (l : List Meet) (p : Meet → Bool) (w : World) (hl : MeetsAt w a n l) (hn : n ≤ 1000000000)
    (hp : ∀ o, o ∈ l → ∀ W, Ext w W → Calls Tryz.prog 120 #[o.val] W fun e W' => e = .returned (.bool (p o)) ∧ Ext W W') :
    Calls Tryz.prog 133 #[.slice a n cap, .func (.func 120) #[] #[]] w fun e w' =>
      e = .returned (.int .i64 (idxI p l)) ∧ Ext w w' := by
  have Hp := Lib.hid hp
  have Hl := Lib.hid hl
  clear hp hl
  go_enter Tryz.func133, Tryz.ntmps133
  go_wp2_with fail
  go_loopw [5, 8] (fun i5 i8 wr => ∃ k : Nat, k ≤ n ∧ i8 = .int .i64 k ∧ Ext w wr ∧ ∀ (j : Nat) (y : Meet), j < k → l[j]? = some y → p y = false) (fun _ i8 _ => n - (intOf i8).toNat)
  case atStart => exact ⟨0, Nat.zero_le _, rfl, Ext.refl _, fun j y h => by omega⟩
  case round =>
    obtain ⟨k, hk, rfl, hx, hall⟩ := hrel
    have Hall := Lib.hid hall
    clear hall
    by_cases hlt : k < n
    · obtain ⟨b, off, x, rfl, hxk, hb, c0, c1, c2, c3⟩ := (Hl.out.ext hx).get k hlt
      have Hxk := Lib.hid hxk
      clear hxk
      have hc := Hp.out x (List.mem_of_getElem? Hxk.out) wr hx
      have Hc := Lib.hid hc
      clear hc
      cases hpx : p x with
      | true =>
        have Hpx := Lib.hid hpx
        rw [hpx] at Hc
        clear hpx
        go_wp2_with (go_at_call 120; refine Hc.out.mono ?_; rintro e w' ⟨rfl, hb⟩)
        go_ret
        exact ⟨ret_int (idxI_some Hxk.out Hpx.out Hall.out).symm, hx.trans (by assumption)⟩
      | false =>
        have Hpx := Lib.hid hpx
        rw [hpx] at Hc
        clear hpx
        go_wp2_with (go_at_call 120; refine Hc.out.mono ?_; rintro e w' ⟨rfl, hb⟩)
        go_roundw
        case rel => exact ⟨k + 1, by omega, by go_num, hx.trans (by assumption), fun j y hj hy => by
            rcases Nat.lt_or_ge j k with h | h
            · exact Hall.out j y h hy
            · have e : j = k := by omega
              subst e
              have := Hxk.out
              rw [hy] at this
              cases this
              exact Hpx.out⟩
        case measure => simp [intOf]; omega
    · go_wp2_with fail
      go_ret
      refine ⟨ret_int ?_, hx⟩
      refine (idxI_none (fun j y hy => Hall.out j y ?_ hy)).symm
      have h1 := Hl.out.1
      rcases Nat.lt_or_ge j l.length with h | h
      · omega
      · simp [List.getElem?_eq_none h] at hy

theorem contains_meet74 (a : Option Addr) (n cap : Nat) (l : List Meet) (p : Meet → Bool) (w : World) (hl : MeetsAt w a n l) (hn : n ≤ 1000000000)
    (hp : ∀ o, o ∈ l → ∀ W, Ext w W → Calls Tryz.prog 120 #[o.val] W fun e W' => e = .returned (.bool (p o)) ∧ Ext W W') :
    Calls Tryz.prog 113 #[.slice a n cap, .func (.func 120) #[] #[]] w fun e w' =>
      e = .returned (.bool (l.any p)) ∧ Ext w w' := by
  have Hc := Lib.hid (indexFunc_meet74 a n cap l p w hl hn hp)
  clear hp hl
  go_enter Tryz.func113, Tryz.ntmps113
  go_wp2_with (go_at_call 133; refine Hc.out.mono ?_; rintro e w' ⟨rfl, hb⟩)
  go_ret
  exact ⟨ret_bool (idxI_ge p l), by assumption⟩

end Go.Proofs.YtcoelhpmkhimpaaGreatDoor

namespace Go.Proofs.YtcoelhpmkhimpaaGreatDoor
open Go.RowKit
set_option linter.unusedVariables false
set_option linter.unusedSimpArgs false
theorem odd_any (N : Nat) (hN : 1 ≤ N ∧ N ≤ 30) (m : Meet) (hm : MeetOk N m) (q0 : Nat) (w : World) (hq : w.heap[q0]? = some (.cells #[.int .i64 N] 3 (0, 0))) : Calls Tryz.prog 112 #[m.val, .pointer (some ⟨q0, 0, none⟩)] w fun e w' => e = .returned (.bool false) ∧ Ext w w' := by
  obtain ⟨ma, mb, md, mc⟩ := m
  obtain ⟨h1, h2, h3, h4⟩ := hm
  unfold Meet.val
  simp only at h1 h2 h3 h4 ⊢
  have i1 : (inB ma 0 ((N : Int) - 1) && inB mb 0 ((N : Int) - 1)) = true := by
    simp [inB]
    omega
  have i2 : inB md 0 100000 = true := by
    simp [inB]
    omega
  have i3 : (ma == mb) = false := by simpa using h3
  have hx6 : Ext w (w.alloc (.cells #[.int .i64 ma, .int .i64 mb, .int .i64 md, .bool mc] 145)) := (Ext.refl _).alloc _
  have hp6 := heap_alloc_new w (.cells #[.int .i64 ma, .int .i64 mb, .int .i64 md, .bool mc] 145)
  obtain ⟨y6, _⟩ := (Ext.refl _).box hp6
  have c0 := ((Ext.refl w).box hq).1 0
  have hql := heap_lt hq
  have Hx6 := Lib.hid hx6
  have Hp6 := Lib.hid hp6
  have I1 := Lib.hid i1
  have I2 := Lib.hid i2
  have Hq := Lib.hid hq
  clear hx6 hp6 i1 i2 hq
  clear h1 h2 h3 h4
  go_enter Tryz.func112, Tryz.ntmps112
  go_wp2_with (first
    | (have q := hx1; clear q; go_at_call 98; refine (fromC1 (alloc_at _ _ _ (by simp)) I2.out).mono ?_; rintro e v2 ⟨rfl, hx2⟩)
    | (go_at_call 98; refine (fromC2 (alloc_at _ _ _ (by simp)) I1.out).mono ?_; rintro e v1 ⟨rfl, hx1⟩; have hv1 := ((Ext.refl (w.alloc (.cells #[.int .i64 ma, .int .i64 mb, .int .i64 md, .bool mc] 145))).alloc _).trans hx1; clear y6; obtain ⟨y6, _⟩ := (Ext.refl v1).box (hv1.heap Hp6.out); have hl6 := heap_lt (hv1.heap Hp6.out)))
  go_ret
  exact ⟨rfl, Hx6.out.trans ((hv1.alloc _).trans hx2)⟩
theorem far_any (m : Meet) (hm : m.close = true) (w : World) : Calls Tryz.prog 120 #[m.val] w fun e w' => e = .returned (.bool false) ∧ Ext w w' := by
  obtain ⟨ma, mb, md, mc⟩ := m
  simp only at hm
  subst hm
  unfold Meet.val
  simp only
  go_enter Tryz.func120, Tryz.ntmps120
  go_wp2_with fail
  go_ret
  exact ⟨rfl, (Ext.refl _).alloc _⟩
theorem idxI_no {α : Type} (l : List α) : idxI (fun _ => false) l = -1 := by
  apply idxI_none
  intro j y hy
  rfl
theorem delete_any (a : Option Addr) (n c : Nat) (l : List Meet) (hc : ∀ m ∈ l, m.close = true) (w : World) (hl : MeetsAt w a n l) (hn : n ≤ 1000000000) : Calls Tryz.prog 119 #[.slice a n c, .func (.func 120) #[] #[]] w fun e w' => e = .returned (.slice a n c) ∧ Ext w w' := by
  have h := indexFunc_meet74 a n c l (fun _ => false) w hl hn (fun o ho W hW => far_any o (hc o ho) W)
  rw [idxI_no] at h
  have H := Lib.hid h
  clear h
  clear hl hc
  go_enter Tryz.func119, Tryz.ntmps119
  go_wp2_with (go_at_call 133; refine H.out.mono ?_; rintro e w1 ⟨rfl, hx1⟩)
  go_ret
  exact ⟨rfl, hx1⟩
end Go.Proofs.YtcoelhpmkhimpaaGreatDoor

namespace Go.Proofs.YtcoelhpmkhimpaaGreatDoor
open Go.RowKit
set_option linter.unusedVariables false
set_option linter.unusedSimpArgs false
theorem infoU8 : (Tryz.prog.info? 5).map (fun i => (i.zero, i.size, i.bytes)) = some (some (.int .u8 0), 1, 1) := by kernel_rfl
theorem made_u8 (m : Nat) : madeCells (Value.int .u8 0).cells m = Array.replicate m (.int .u8 0) := by
  apply Array.ext
  · simp [size_madeCells]
  · intro i h1 h2
    have h2' : i < m := by simpa using h2
    simp [madeCells, Value.cells, Nat.mod_one]
def kvs (S : List Int) : Array Value := (S.map (Value.int .u8)).toArray
theorem kvs_zero (m : Nat) : Array.replicate m (Value.int .u8 0) = kvs (List.replicate m 0) := by
  unfold kvs
  simp
theorem mk75 (m : Nat) (hm : m ≤ 1000000) (w : World) : (Instr.makeSlice 141 (.int .i64 m) (.int .i64 m)).run Tryz.prog w = .ok (.slice (some ⟨w.heap.size, 0, none⟩) m m) (w.alloc (.cells (kvs (List.replicate m 0)) 5)) := by
  obtain ⟨i, h1, h2, h3, h4⟩ := info_parts infoU8
  have := run_makeSlice (P := Tryz.prog) w 141 5 i (.int .u8 0) Tryz.underlying141 h1 h2 .i64 .i64 m m (by omega) (Int.le_refl _) (by rw [h3]; simp; omega) (by rw [h4]; omega) (by omega)
  rw [h3, Int.toNat_natCast, Nat.mul_one, made_u8, kvs_zero] at this
  exact this
theorem kvs_set (S : List Int) (k : Nat) (v : Int) : (kvs S).setIfInBounds k (.int .u8 v) = kvs (S.set k v) := by
  unfold kvs
  rw [List.setIfInBounds_toArray, List.map_set]
/-- so many are known -/
structure KnSt (w : World) (g N : Nat) (F : Nat → Int) (k : Nat) (V : World) : Prop where
  ext : Ext w V
  box : ∃ S : List Int, V.heap[g]? = some (.cells (kvs S) 5 (0, 0)) ∧ S.length = N ∧ ∀ i, i < N → S.getD i 0 = if i < k then F i else 0
theorem KnSt.put {w V : World} {g N : Nat} {F : Nat → Int} {k : Nat} (h : KnSt w g N F k V) (hg : w.heap.size ≤ g) (hk : k < N) : KnSt w g N F (k + 1) (V.setCell ⟨g, k, none⟩ (.int .u8 (F k))) := by
  obtain ⟨h1, S, h2, h3, h4⟩ := h
  refine ⟨h1.setCell (p := ⟨g, k, none⟩) hg _, S.set k (F k), ?_, by rw [List.length_set, h3], fun i hi => ?_⟩
  · rw [heap_setCell_box, h2]
    exact congrArg (fun x => some (Obj.cells x 5 (0, 0))) (kvs_set S k _)
  · rw [List.getD_eq_getElem?_getD, List.getElem?_set]
    by_cases e : k = i
    · subst e
      rw [if_pos rfl, if_pos (by omega), if_pos (by omega)]
      rfl
    · rw [if_neg e, ← List.getD_eq_getElem?_getD, h4 i hi]
      by_cases e2 : i < k
      · rw [if_pos e2, if_pos (by omega)]
      · rw [if_neg e2, if_neg (by omega)]
theorem KnSt.skip {w V : World} {g N : Nat} {F : Nat → Int} {k : Nat} (h : KnSt w g N F k V) (h0 : F k = 0) : KnSt w g N F (k + 1) V := by
  obtain ⟨h1, S, h2, h3, h4⟩ := h
  refine ⟨h1, S, h2, h3, fun i hi => ?_⟩
  rw [h4 i hi]
  by_cases e : i < k
  · rw [if_pos e, if_pos (by omega)]
  · by_cases e2 : i = k
    · subst e2
      rw [if_neg (by omega), if_pos (by omega), h0]
    · rw [if_neg e, if_neg (by omega)]
theorem KnSt.fin {w V : World} {g N : Nat} {F : Nat → Int} (h : KnSt w g N F N V) : Ext w V ∧ IntsAt .u8 V (some ⟨g, 0, none⟩) N ((List.range N).map F) := by
  obtain ⟨h1, S, h2, h3, h4⟩ := h
  refine ⟨h1, by simp, fun hn => ⟨g, 0, rfl, fun k hk j v hv => ?_⟩⟩
  cases j with
  | zero =>
    cases hv
    rw [cell_of_row V g _ _ 5 (0, 0) h2]
    unfold kvs
    rw [List.getElem?_toArray, List.getElem?_map]
    have e := h4 k hk
    rw [if_pos hk] at e
    have e2 : S[k]? = some (S.getD k 0) := by simp [List.getD, h3, hk]
    rw [show 0 + k * 1 + 0 = k by omega, e2, e]
    simp [List.getD, hk]
  | succ j => simp at hv
/-- meetings that Mange takes, here -/
structure MangeIn (N : Nat) (first : List Int) (l : List Meet) (s : Span) (day : Int) : Prop where
  n : 1 ≤ N ∧ N ≤ 30
  wait : 1 ≤ s.lo ∧ s.lo ≤ s.hi ∧ s.hi ≤ 60
  day : 0 ≤ day ∧ day ≤ 100000
  first : first.length ≤ 30 ∧ ∀ i ∈ first, 0 ≤ i ∧ i < N
  meets : l.length < 20 ∧ ∀ m ∈ l, MeetOk N m
  close : ∀ m ∈ l, m.close = true
def MangePost (N : Nat) (first : List Int) (l : List Meet) (s : Span) (day : Int) (w : World) (e : Ending) (w' : World) : Prop := ∃ g, e = .returned (.tuple #[.slice (some ⟨g, 0, none⟩) N N, .int .i64 0]) ∧ Ext w w' ∧ w.heap.size ≤ g ∧ IntsAt .u8 w' (some ⟨g, 0, none⟩) N (mangeOf N first l s day)
theorem Owns.shape {w : World} {B : Nat} {e : TypeId} {sz : Nat} {a : Option Addr} {n c : Nat} {rows : List (List Value)} (h : Owns w B e sz (.slice a n c) rows) : (a = none → n = 0 ∧ c = 0) ∧ (∀ x, a = some x → ∃ b o, x = ⟨b, o, none⟩) ∧ ∀ x, a = some x → B ≤ x.block := by
  obtain ⟨ho, hr⟩ := h
  rcases ho.2 with ⟨h1, h0⟩ | ⟨g, cap, cur, h1, hg, _⟩
  · cases h1
    exact ⟨fun _ => ⟨rfl, rfl⟩, fun x hx => by (cases hx), fun x hx => by (cases hx)⟩
  · cases h1
    exact ⟨fun hx => by (cases hx), fun x hx => by cases hx; exact ⟨_, _, rfl⟩, fun x hx => by cases hx; exact hg⟩
theorem meets_owned {w : World} {B : Nat} {a : Option Addr} {n c : Nat} {l : List Meet} (h : Owns w B 145 4 (.slice a n c) (meetRows l)) : MeetsAt w a n l := by
  obtain ⟨a', c', e, h1, h2, h3, h4⟩ := h.slAt
  cases e
  rw [meetRows_len] at h4 ⊢
  exact ⟨rfl, h4.congr fun i hi => by simp [meetRows, List.getD, List.getElem?_map, List.getElem?_eq_getElem hi]⟩
theorem closeM_all {l : List Meet} (h : ∀ m ∈ l, m.close = true) : closeM l = l := by
  unfold closeM
  rw [List.filter_eq_self]
  exact h
set_option maxRecDepth 100000 in
set_option maxHeartbeats 8000000 in
theorem mange_any (N : Nat) (a1 : Option Addr) (n1 c1 : Nat) (first : List Int) (a2 : Option Addr) (n2 c2 : Nat) (l : List Meet) (wl wh : Int) (day : Int) (w : World) (h1 : IntsAt .i64 w a1 n1 first) (h2 : MeetsAt w a2 n2 l)
    (ha : a2 = none → n2 = 0 ∧ c2 = 0) (hoff : ∀ x, a2 = some x → ∃ b o, x = ⟨b, o, none⟩) (hi : MangeIn N first l ⟨wl, wh⟩ day) : Calls Tryz.prog 81 #[.int .i64 N, .slice a1 n1 c1, .slice a2 n2 c2, .agg #[.int .i64 wl, .int .i64 wh], .int .i64 day] w (MangePost N first l ⟨wl, wh⟩ day w) := by
  obtain ⟨⟨hn1, hn2⟩, ⟨hw1, hw2, hw3⟩, ⟨hd1, hd2⟩, ⟨hf1, hf2⟩, ⟨hm1, hm2⟩, hcl⟩ := hi
  simp only at hw1 hw2 hw3
  have hl1 := h1.1
  have hl2 := h2.1
  have hx0 : Ext w ((w.alloc (.cells #[.int .i64 N] 3)).alloc (.cells #[.int .i64 wl, .int .i64 wh] 23)) := ((Ext.refl w).alloc _).alloc _
  have g5 : ((w.alloc (.cells #[.int .i64 N] 3)).alloc (.cells #[.int .i64 wl, .int .i64 wh] 23)).heap[w.heap.size]? = some (.cells #[.int .i64 N] 3 (0, 0)) := ((Ext.refl _).alloc _).heap (heap_alloc_new w _)
  have g8 : ((w.alloc (.cells #[.int .i64 N] 3)).alloc (.cells #[.int .i64 wl, .int .i64 wh] 23)).heap[w.heap.size + 1]? = some (.cells #[.int .i64 wl, .int .i64 wh] 23 (0, 0)) := alloc_at _ _ _ (by simp)
  have i1 : inB (N : Int) 1 30 = true := by simp [inB]; omega
  have i2 : spanOk ⟨wl, wh⟩ 1 60 = true := by simp [spanOk]; omega
  have i3 : inB day 0 100000 = true := by simp [inB]; omega
  have hfa : (first.all fun x => inB x 0 ((N : Int) - 1)) = true := by
    rw [List.all_eq_true]
    intro x hx
    have := hf2 x hx
    simp [inB]
    omega
  have hfr : ∀ V, Ext w V → Calls Tryz.prog 98 #[.int .i64 0, .int .i64 ((N : Int) - 1), .slice a1 n1 c1] V fun e w' => e = .returned (.bool true) ∧ Ext V w' := fun V hV => by
    have := fromC_any 0 ((N : Int) - 1) a1 n1 c1 first V (h1.ext hV) (by omega)
    rw [hfa] at this
    exact this
  have hcn : ∀ V, Ext w V → V.heap[w.heap.size]? = some (.cells #[.int .i64 N] 3 (0, 0)) → Calls Tryz.prog 113 #[.slice a2 n2 c2, .func (.func 112) #[] #[.pointer (some ⟨w.heap.size, 0, none⟩)]] V fun e w' => e = .returned (.bool false) ∧ Ext V w' := fun V hV hq => by
    have := contains_meet66 a2 n2 c2 w.heap.size l (fun _ => false) V (h2.ext hV) (by omega) (fun o ho W hW => odd_any N ⟨hn1, hn2⟩ o (hm2 o ho) w.heap.size W (hW.heap hq))
    rw [show l.any (fun _ => false) = false from by simp] at this
    exact this
  have hc1 := fun (V : World) (hV : Ext w V) => cloneM_any a2 n2 c2 l V (h2.ext hV) (by omega) ha hoff
  have hso := fun (V : World) (B : Nat) (a : Option Addr) (n c : Nat) (ho : Owns V B 145 4 (.slice a n c) (meetRows l)) (hn : n < 20) => stable_any B a n c l V ho hn
  have hsp := fun (V : World) (hV : Ext w V) (a : Option Addr) (n c : Nat) (wt : Int) (hm : MeetsAt V a n (sortM l)) (hn : n ≤ 1000) (hw : 1 ≤ wt ∧ wt ≤ 60) => spread_any N ⟨hn1, hn2⟩ a1 n1 c1 first a n c (sortM l) wt day V (h1.ext hV) hf2 (by omega) hm (fun m h => hm2 m (sortM_mem.1 h)) hn hw
  have hc2 := fun (V : World) (a : Option Addr) (n c : Nat) (hm : MeetsAt V a n (sortM l)) (hn : n ≤ 100000) (h3 : a = none → n = 0 ∧ c = 0) (h4 : ∀ x, a = some x → ∃ b o, x = ⟨b, o, none⟩) => cloneM_any a n c (sortM l) V hm hn h3 h4
  have hde := fun (V : World) (a : Option Addr) (n c : Nat) (hm : MeetsAt V a n (sortM l)) (hn : n ≤ 1000000000) => delete_any a n c (sortM l) (fun m h => hcl m (sortM_mem.1 h)) V hm hn
  have hmk := mk75 N (by omega)
  have hcs : closeM (sortM l) = sortM l := closeM_all fun m h => hcl m (sortM_mem.1 h)
  have hres : mangeOf N first l ⟨wl, wh⟩ day = (List.range N).map (knownAt (spreadOf N first (sortM l) wl day) (spreadOf N first (sortM l) wh day) day) := by
    unfold mangeOf
    rw [hcs]
  have hf30 : decide (30 < (n1 : Int)) = false := decide_eq_false (by omega)
  have hm200 : decide (200 < (n2 : Int)) = false := decide_eq_false (by omega)
  have hsl := sortM_len l
  have Hx0 := Lib.hid hx0
  have G5 := Lib.hid g5
  have G8 := Lib.hid g8
  have I1 := Lib.hid i1
  have I2 := Lib.hid i2
  have I3 := Lib.hid i3
  have Hfr := Lib.hid hfr
  have Hcn := Lib.hid hcn
  have Hc1 := Lib.hid hc1
  have Hso := Lib.hid hso
  have Hsp := Lib.hid hsp
  have Hc2 := Lib.hid hc2
  have Hde := Lib.hid hde
  have Hres := Lib.hid hres
  have Hsl := Lib.hid hsl
  clear hx0 g5 g8 i1 i2 i3 hfr hcn hc1 hso hsp hc2 hde hres hsl
  clear hfa hcs h1 h2 ha hoff hf2 hm2 hcl
  go_enter Tryz.func81, Tryz.ntmps81
  go_upto_region 1 with fail
  generalize (w.alloc (.cells #[.int .i64 N] 3)).alloc (.cells #[.int .i64 wl, .int .i64 wh] 23) = W0 at *
  obtain ⟨y5, _⟩ := (Ext.refl W0).box G5.out
  obtain ⟨y8, _⟩ := (Ext.refl W0).box G8.out
  have hl8 := heap_lt G8.out
  go_upto_region 6 with (first
    | (have q := hx2; clear q; go_at_call 98; refine (fromC1 (alloc_at _ _ _ (by simp)) I3.out).mono ?_; rintro e v3 ⟨rfl, hx3⟩; have hv3 := (hv2.alloc _).trans hx3)
    | (have q := hx1; clear q; go_at_call 68; refine (ordC1 (alloc_at _ _ _ (by simp)) I2.out).mono ?_; rintro e v2 ⟨rfl, hx2⟩; have hv2 := (hv1.alloc _).trans hx2)
    | (go_at_call 98; refine (fromC1 (alloc_at _ _ _ (by simp)) I1.out).mono ?_; rintro e v1 ⟨rfl, hx1⟩; have hv1 := ((Ext.refl W0).alloc _).trans hx1; clear y8; obtain ⟨y8, _⟩ := (Ext.refl v1).box (hv1.heap G8.out); have hl81 := heap_lt (hv1.heap G8.out)))
  have g5 := hv3.heap G5.out
  have g8 := hv3.heap G8.out
  have hxw := Hx0.out.trans hv3
  clear hx1 hx2 hx3 hv1 hv2 hv3 y5 y8 G5 G8 Hx0 I1 I2 I3 hl8 hl81
  obtain ⟨y5, _⟩ := (Ext.refl v3).box g5
  obtain ⟨y8, _⟩ := (Ext.refl v3).box g8
  have hl5 := heap_lt g5
  have hl8 := heap_lt g8
  have G5 := Lib.hid g5
  have G8 := Lib.hid g8
  have Hxw := Lib.hid hxw
  clear g5 g8 hxw
  go_upto_region 8 with (first
    | (go_at_call 98; refine (Hfr.out _ Hxw.out).mono ?_; rintro e v4 ⟨rfl, hx4⟩; have g54 := hx4.heap G5.out; have hxw4 := Hxw.out.trans hx4; have G54 := Lib.hid g54; have Hxw4 := Lib.hid hxw4; clear g54 hxw4)
    | (go_at_call 113; refine (Hcn.out _ Hxw4.out G54.out).mono ?_; rintro e v5 ⟨rfl, hx5⟩))
  have g55 := hx5.heap G54.out
  have g85 := hx5.heap (hx4.heap G8.out)
  have hxw5 := Hxw4.out.trans hx5
  clear hx4 hx5 y5 y8 hl5 hl8 G5 G8 Hxw G54 Hxw4 Hfr Hcn
  have hc := Hc1.out v5 hxw5
  have G55 := Lib.hid g55
  have G85 := Lib.hid g85
  have Hxw5 := Lib.hid hxw5
  have Hc := Lib.hid hc
  clear g55 g85 hxw5 hc
  clear Hc1
  go_upto_region 9 with (go_at_call 114; refine Hc.out.mono ?_; rintro e v6 ⟨a6, c6, rfl, hx6, ho6⟩)
  rw [hl2] at ho6
  have hsh := ho6.shape
  have hs := Hso.out v6 _ a6 n2 c6 ho6 (by omega)
  have Hx6 := Lib.hid hx6
  have Hs := Lib.hid hs
  have Hsh := Lib.hid hsh
  clear hx6 hs hsh
  clear ho6 Hso Hc
  go_upto_region 10 with (go_at_call 115; refine Hs.out.mono ?_; rintro e v7 ⟨⟨v, rfl⟩, hm7, hb7⟩)
  have hx7 : Ext v5 v7 := But.ext Hx6.out hb7 (fun b => by rintro ⟨x, hx, rfl⟩; exact Hsh.out.2.2 x hx)
  have g57 := hx7.heap G55.out
  have g87 := hx7.heap G85.out
  have hxw7 := Hxw5.out.trans hx7
  have hp := Hsp.out v7 hxw7 a6 n2 c6 wl hm7 (by omega) ⟨hw1, by omega⟩
  obtain ⟨y5, _⟩ := (Ext.refl v7).box g57
  obtain ⟨y8, _⟩ := (Ext.refl v7).box g87
  have hl5 := heap_lt g57
  have hl8 := heap_lt g87
  have G57 := Lib.hid g57
  have G87 := Lib.hid g87
  have Hxw7 := Lib.hid hxw7
  have Hp := Lib.hid hp
  have Hm7 := Lib.hid hm7
  clear g57 g87 hxw7 hp hm7
  clear hx7 hb7 Hx6 Hs G55 G85 Hxw5
  go_upto_region 11 with (go_at_call 118; refine Hp.out.mono ?_; rintro e v8 ⟨g14, rfl, hx8, hg14, hb14, hn14⟩)
  have g58 := hx8.heap G57.out
  have g88 := hx8.heap G87.out
  have hxw8 := Hxw7.out.trans hx8
  have hm8 := Hm7.out.ext hx8
  have hc := Hc2.out v8 a6 n2 c6 hm8 (by omega) Hsh.out.1 Hsh.out.2.1
  have hge14 := Nat.le_trans hxw8.size (Nat.le_refl _)
  have hgw14 : w.heap.size ≤ g14 := Nat.le_trans Hxw7.out.size hg14
  have G58 := Lib.hid g58
  have G88 := Lib.hid g88
  have Hxw8 := Lib.hid hxw8
  have Hc := Lib.hid hc
  have Hb14 := Lib.hid hb14
  have Hn14 := Lib.hid hn14
  clear g58 g88 hxw8 hc hb14 hn14
  clear hx8 Hm7 Hp G57 G87 Hc2 y5 y8 hl5 hl8 hg14 hge14 hm8
  go_upto_region 12 with (first
    | (go_at_call 114; refine Hc.out.mono ?_; rintro e v9 ⟨a9, c9, rfl, hx9, ho9⟩; have hs9 := Hsl.out; rw [hl2] at hs9; rw [hs9] at ho9; have hmr := meets_owned ho9; have hd := Hde.out v9 a9 n2 c9 hmr (by omega); have Hd := Lib.hid hd; have Hmr := Lib.hid hmr; rw [hs9]; clear ho9 hs9 hmr hd)
    | (go_at_call 119; refine Hd.out.mono ?_; rintro e v10 ⟨rfl, hx10⟩))
  have hx11 := hx9.trans hx10
  have hp := Hsp.out v10 (Hxw8.out.trans hx11) a9 n2 c9 wh (Hmr.out.ext hx10) (by omega) ⟨by omega, by omega⟩
  have g50 := hx11.heap G58.out
  have g80 := hx11.heap G88.out
  have hb14 := hx11.heap Hb14.out
  have hxw10 := Hxw8.out.trans hx11
  obtain ⟨y5, _⟩ := (Ext.refl v10).box g50
  obtain ⟨y8, _⟩ := (Ext.refl v10).box g80
  have hl5 := heap_lt g50
  have hl8 := heap_lt g80
  have G50 := Lib.hid g50
  have G80 := Lib.hid g80
  have Hxw10 := Lib.hid hxw10
  have Hp := Lib.hid hp
  have Hb14 := Lib.hid hb14
  clear g50 g80 hxw10 hp hb14
  clear hx9 hx10 hx11 Hsp G58 G88 Hxw8 Hd Hmr Hc
  go_upto_region 13 with (go_at_call 118; refine Hp.out.mono ?_; rintro e v11 ⟨g16, rfl, hx11, hg16, hb16, hn16⟩)
  have g51 := hx11.heap G50.out
  have hb14 := hx11.heap Hb14.out
  have hxw11 := Hxw10.out.trans hx11
  obtain ⟨y5, _⟩ := (Ext.refl v11).box g51
  have hl5 := heap_lt g51
  have hgw16 : w.heap.size ≤ g16 := Nat.le_trans Hxw10.out.size hg16
  have Hb14 := Lib.hid hb14
  have Hb16 := Lib.hid hb16
  have Hxw11 := Lib.hid hxw11
  clear hb14 hb16 hxw11
  clear hx11 y8 hl8 hg16 g51 G50 G80 Hxw10 Hp
  go_upto_region 15 with fail
  have hb14 := ((Ext.refl v11).alloc (.cells (kvs (List.replicate N 0)) 5)).heap Hb14.out
  have hb16 := ((Ext.refl v11).alloc (.cells (kvs (List.replicate N 0)) 5)).heap Hb16.out
  have hst : KnSt w v11.heap.size N (knownAt (spreadOf N first (sortM l) wl day) (spreadOf N first (sortM l) wh day) day) 0 (v11.alloc (.cells (kvs (List.replicate N 0)) 5)) := ⟨Hxw11.out.alloc _, _, heap_alloc_new v11 _, by simp, fun i hi => by simp [List.getD, hi]⟩
  have hne14 := heap_lt Hb14.out
  have hne16 := heap_lt Hb16.out
  have hgw17 := Hxw11.out.size
  have hn14 := Hn14.out
  generalize spreadOf N first (sortM l) wl day = Ea at *
  generalize spreadOf N first (sortM l) wh day = La at *
  generalize v11.alloc (.cells (kvs (List.replicate N 0)) 5) = V0 at *
  generalize v11.heap.size = g17 at *
  have Hst := Lib.hid hst
  have Hb14 := Lib.hid hb14
  have Hb16 := Lib.hid hb16
  have Hne14 := Lib.hid hne14
  have Hne16 := Lib.hid hne16
  have Hgw17 := Lib.hid hgw17
  have Hn14 := Lib.hid hn14
  have Hn16 := Lib.hid hn16
  have Hgw14 := Lib.hid hgw14
  have Hgw16 := Lib.hid hgw16
  clear hst hb14 hb16 hne14 hne16 hgw17 hn14 hn16 hgw14 hgw16
  clear y5 hl5 hmk
  go_loopw [79] (fun i V => ∃ k : Nat, i = .int .i64 k ∧ k ≤ N ∧ KnSt w g17 N (knownAt Ea La day) k V ∧ V.heap[g14]? = some (.cells (ivs Ea) 3 (0, 0)) ∧ V.heap[g16]? = some (.cells (ivs La) 3 (0, 0))) (fun i _ => N - (intOf i).toNat)
  case atStart => exact ⟨0, rfl, Nat.zero_le _, Hst.out, Hb14.out, Hb16.out⟩
  case round =>
    obtain ⟨k, rfl, hk, st, b14, b16⟩ := hrel
    by_cases hlt : k < N
    · have hltB : decide ((k : Int) < (N : Int)) = true := by simp; omega
      obtain ⟨eE, hE⟩ : ∃ eE, Ea.getD k 0 = eE := ⟨_, rfl⟩
      obtain ⟨eL, hL⟩ : ∃ eL, La.getD k 0 = eL := ⟨_, rfl⟩
      have c14 := ivs_at b14 (k := k) (by rw [Hn14.out]; exact hlt)
      have c16 := ivs_at b16 (k := k) (by rw [Hn16.out]; exact hlt)
      have l14 := heap_lt b14
      have l16 := heap_lt b16
      rw [hE] at c14
      rw [hL] at c16
      have hF : knownAt Ea La day k = if eL ≤ day then 2 else if eE ≤ day then 1 else 0 := by
        unfold knownAt
        rw [hE, hL]
      obtain ⟨S, hSb, hSl, -⟩ := st.box
      have c17 : wr.cell? ⟨g17, k, none⟩ = some (.int .u8 (S.getD k 0)) := by
        rw [cell_of_row _ _ _ _ _ _ hSb]
        unfold kvs
        rw [List.getElem?_toArray, List.getElem?_map]
        simp [List.getD, hSl, hlt]
      have fz := fun q => ((Ext.refl wr).box hSb).2 q
      have l17 := heap_lt hSb
      have hput := st.put Hgw17.out hlt
      have hn1 := fun v => (Below.heap_setCell wr ⟨g17, k, none⟩ v g14 (by have := Hne14.out; simp only; omega)).trans b14
      have hn2 := fun v => (Below.heap_setCell wr ⟨g17, k, none⟩ v g16 (by have := Hne16.out; simp only; omega)).trans b16
      clear hSb hE hL
      generalize S.getD k 0 = old at *
      have Hput := Lib.hid hput
      have Hn1 := Lib.hid hn1
      have Hn2 := Lib.hid hn2
      have B14 := Lib.hid b14
      have B16 := Lib.hid b16
      clear hput hn1 hn2 b14 b16
      by_cases hle : eL ≤ day
      · have hleB : decide (eL ≤ day) = true := decide_eq_true hle
        rw [if_pos hle] at hF
        rw [hF] at Hput
        have HF := Lib.hid hF
        have St := Lib.hid st
        clear hF st
        go_wp2_with fail
        go_roundw
        case rel => exact ⟨k + 1, by go_num, by omega, Hput.out, Hn1.out _, Hn2.out _⟩
        case measure => simp [intOf]; omega
      · have hleB : decide (eL ≤ day) = false := decide_eq_false hle
        rw [if_neg hle] at hF
        by_cases hle2 : eE ≤ day
        · have hleB2 : decide (eE ≤ day) = true := decide_eq_true hle2
          rw [if_pos hle2] at hF
          rw [hF] at Hput
          have HF := Lib.hid hF
          have St := Lib.hid st
          clear hF st
          go_wp2_with fail
          go_roundw
          case rel => exact ⟨k + 1, by go_num, by omega, Hput.out, Hn1.out _, Hn2.out _⟩
          case measure => simp [intOf]; omega
        · have hleB2 : decide (eE ≤ day) = false := decide_eq_false hle2
          rw [if_neg hle2] at hF
          have hskip := st.skip hF
          have HF := Lib.hid hF
          have St := Lib.hid st
          have Hskip := Lib.hid hskip
          clear hF st hskip
          go_wp2_with fail
          go_roundw
          case rel => exact ⟨k + 1, by go_num, by omega, Hskip.out, B14.out, B16.out⟩
          case measure => simp [intOf]; omega
    · have hltB : decide ((k : Int) < (N : Int)) = false := by simp; omega
      obtain rfl : k = N := by omega
      have hf := st.fin
      rw [← Hres.out] at hf
      have Hf := Lib.hid hf
      clear hf
      clear st b14 b16
      go_wp2_with fail
      go_ret2
      exact ⟨g17, rfl, Hf.out.1, Hgw17.out, Hf.out.2⟩
end Go.Proofs.YtcoelhpmkhimpaaGreatDoor

namespace Go.Proofs.YtcoelhpmkhimpaaGreatDoor
open Go.RowKit
set_option linter.unusedVariables false
set_option linter.unusedSimpArgs false
attribute [local go_sem] Oper.semAt_some
theorem wpListIn_app {F : Fence} {n : Nat} {P : Program} {T e : TypeId} {sz : Nat} (E : Elem P T e sz) (w : World) {ops : Array Oper} {rest : List Oper} {o : Oper} {a : Act} {Q : Exit → Act → World → Prop} (hgd : o.guard = none) (s x : Operand)
    (ho : o.op = .call { callee := .builtin .append, args := #[s, x], argTypes := #[T, T] })
    (base : Nat) (v : Value) (rows : List (List Value)) (hs : a.eval s = v) (hown : Owns w base e sz v rows)
    (xa : Option Addr) (m c : Nat) (news : List (List Value)) (hx : a.eval x = .slice xa m c) (h0 : 0 < m) (hm : news.length = m) (hsrc : SlAt w sz xa m (fun k => news.getD k []))
    (hrow : ∀ r ∈ news, r.length = sz ∧ ∀ u ∈ r, u.oneCell' = true) (hlen : rows.length + m ≤ 1000000000) (hbase : base ≤ w.heap.size)
    (h : ∀ v' w', Owns w' base e sz v' (rows ++ news) → w.grownBy w' v.ownBlock → wpListIn F n P ops Q rest (a.put o.dst v') w') :
    wpListIn F n P ops Q (o :: rest) a w := by
  obtain ⟨i, z, bytes, hi, hz, h1, h2, h3, h4⟩ := E.hi
  obtain ⟨b, off, rfl, hc⟩ := hsrc (by omega)
  refine wpListIn_append_own w hgd s x T ho base e i z sz bytes E.ht hi hz h1 h2 h3 E.hsz v rows.length rows.flatten hs hown.1 ⟨b, off, none⟩ m c news.flatten hx ?_ ?_ ?_ ?_ ?_ hbase ?_
  · rw [flatten_length (fun r hr => (hrow r hr).1), hm]
  · intro j u hu
    obtain ⟨k, j', r, rfl, hj', hr, hu'⟩ := flatten_inv (fun r hr => (hrow r hr).1) j u hu
    have hk : k < m := by
      rcases Nat.lt_or_ge k news.length with h | h
      · omega
      · simp [List.getElem?_eq_none h] at hr
    have := hc k hk j' u (by simp only [List.getD, hr, Option.getD_some]; exact hu')
    rw [addr_add', ← Nat.add_assoc]
    exact this
  · intro u hu
    obtain ⟨r, hr, hu'⟩ := List.mem_flatten.1 hu
    exact (hrow r hr).2 u hu'
  · unfold maxLen; omega
  · have : (rows.length + m) * bytes ≤ 1000000000 * 4096 := Nat.mul_le_mul hlen h4
    omega
  · intro v' w' o1 o2 _
    refine h v' w' ⟨by rw [List.length_append, List.flatten_append, hm]; exact o1, fun r hr => ?_⟩ o2
    rcases List.mem_append.1 hr with hr | hr
    · exact hown.2 r hr
    · exact (hrow r hr).1
def natsI (L : List Nat) : List Int := L.map fun (x : Nat) => (x : Int)
theorem Owns.butFI {O : Nat → Prop} {lo B : Nat} {e : TypeId} {sz : Nat} {v : Value} {rows : List (List Value)} {A C : World} (h : Owns A B e sz v rows) (k : ButF O lo A C) (hn : ∀ b, v.ownBlock = some b → ¬O b) : Owns C B e sz v rows := by
  refine ⟨⟨h.1.1, ?_⟩, h.2⟩
  rcases h.1.2 with q | ⟨g, cap, cur, e1, e2, e3, e4⟩
  · exact .inl q
  · exact .inr ⟨g, cap, cur, e1, e2, k.cells e3 (hn g (by rw [e1]; rfl)), e4⟩
structure ColI (w : World) (p2 pi : Nat) (pre : List Nat) (X : World) : Prop where
  keep : ButF (fun b => b = pi) w.heap.size w X
  all : ∃ v, X.heap[p2]? = some (.cells #[v] 29 (0, 0)) ∧ Owns X (p2 + 1) 3 1 v (intRows .i64 (natsI pre))
theorem ColI.f {w A B : World} {p2 pi lo : Nat} {pre : List Nat} (h : ColI w p2 pi pre A) (hlo : w.heap.size ≤ lo) (hp : pi < w.heap.size) (hp2 : w.heap.size ≤ p2) (k : ButF (fun b => b = pi) lo A B) : ColI w p2 pi pre B := by
  obtain ⟨v, h1, h2⟩ := h.all
  refine ⟨⟨k.os.trans h.keep.os, k.tape.trans h.keep.tape, k.output.trans h.keep.output, Nat.le_trans h.keep.size k.size, fun b o hb hn hc => k.block b o (h.keep.block b o hb hn hc) hn (.inr (by have := heap_lt hb; omega))⟩, v, k.cells h1 (fun e => by have : p2 = pi := e; omega), h2.butFI k fun b hb e => by have := (h2.lt b hb).1; have : b = pi := e; omega⟩
/-- a turn of the loop -/
theorem ColI.next {w X V : World} {p2 pi : Nat} {pre : List Nat} {x : Nat} {v v' : Value} (h : ColI w p2 pi pre X) (hp2 : w.heap.size ≤ p2) (hp : pi < w.heap.size) (hv : X.heap[p2]? = some (.cells #[v] 29 (0, 0))) (ho : Owns X (p2 + 1) 3 1 v (intRows .i64 (natsI pre))) (hb : But (fun b => v.ownBlock = some b) X V) (ho' : Owns V (p2 + 1) 3 1 v' (intRows .i64 (natsI (pre ++ [x])))) :
    KeepsOthers X (V.setCell ⟨p2, 0, none⟩ v') ∧ KpO (fun b => w.heap.size ≤ b) X (V.setCell ⟨p2, 0, none⟩ v') ∧ ColI w p2 pi (pre ++ [x]) (V.setCell ⟨p2, 0, none⟩ v') := by
  have hlt := fun b e => ho.lt b e
  have k1 : KeepsOthers X V := ⟨hb.size, fun b o hk hc => hb.block b o hk fun e => by
    have e : v.ownBlock = some b := e
    rcases ho.1.2 with q | ⟨g, cap, cur, e1, e2, e3, e4⟩
    · rcases q with ⟨rfl, _⟩
      cases e
    · rw [e1] at e
      cases e
      rw [e3] at hk
      cases hk
      cases hc⟩
  have hc2 := hb.block _ _ hv (fun e => by have := (hlt p2 e).1; omega)
  refine ⟨k1.trans (KeepsOthers.setCell _ _ _), ⟨by simp only [World.setCell]; have := hb.size; simpa using this, fun b o hk hc hn => ?_⟩, ⟨hb.os.trans h.keep.os, hb.tape.trans h.keep.tape, hb.output.trans h.keep.output, by have := hb.size; have := h.keep.size; simp only [World.setCell]; simp; omega, fun b o hk hn hc => ?_⟩, v', ?_, owns_setO ho' (by omega)⟩
  · have hn : ¬w.heap.size ≤ b := hn
    exact (Below.heap_setCell _ _ _ _ (by simp only; omega)).trans (hb.block b o hk fun e => by have := (hlt b e).1; omega)
  · have := heap_lt hk
    exact (Below.heap_setCell _ _ _ _ (by simp only; omega)).trans (hb.block b o (h.keep.block b o hk hn hc) fun e => by have := (hlt b e).1; omega)
  · rw [heap_setCell_box, hc2]
    rfl
def CollPost (L : List Nat) (pi : Nat) (w : World) (e : Ending) (w' : World) : Prop := ∃ a c, e = .returned (.slice a L.length c) ∧ IntsAt .i64 w' a L.length (natsI L) ∧ L.length ≤ c ∧ c ≤ maxLen ∧ (∀ x, a = some x → w.heap.size ≤ x.block) ∧ But (fun b => b = pi) w w'
set_option maxRecDepth 100000 in
set_option maxHeartbeats 4000000 in
theorem appendSeq_any {pi ph m : Nat} {L : List Nat} {w : World} (hpi : pi < w.heap.size) (hL : L.length ≤ 16)
    (hseq : SeqStopsB Fence.wide 2 Tryz.prog 132 #[.pointer (some ⟨pi, 0, none⟩), .pointer (some ⟨ph, 0, none⟩)] (fun x : {x : Nat // x < m} => natEnc x.1) (KpO (fun b => w.heap.size ≤ b)) (fun xs => xs.map (·.1) = L) (fun pre => pre.map (·.1) <+: L) L.length (fun b => b = pi) w) :
    Calls Tryz.prog 131 #[.slice none 0 0, .func (.func 132) #[] #[.pointer (some ⟨pi, 0, none⟩), .pointer (some ⟨ph, 0, none⟩)]] w (CollPost L pi w) := by
  have Hseq := Lib.hid hseq
  clear hseq
  refine (callsIn_wide (n := 3)).1 ?_
  refine callsIn_of_wp_marks Tryz.func131 rfl trivial ?_ rfl
  simp only [Tryz.ntmps131, List.size_toArray, List.length_cons, List.length_nil, Nat.reduceAdd, Nat.reduceSub, Array.replicate_succ, Array.replicate_zero, List.push_toArray, List.append_toArray, List.nil_append, List.cons_append]
  refine wpIn_wide.2 ?_
  have hst : ColI w w.heap.size pi [] (w.alloc (.cells #[.slice none 0 0] 29)) := ⟨(((Ext.refl w).alloc _).but _).f _, _, heap_alloc_new w _, Owns.nil _ _ _ _⟩
  have hx4 : Ext w (w.alloc (.cells #[.slice none 0 0] 29)) := (Ext.refl w).alloc _
  have hsz : (w.alloc (.cells #[.slice none 0 0] 29)).heap.size = w.heap.size + 1 := by simp
  have Hst := Lib.hid hst
  have Hx4 := Lib.hid hx4
  clear hst hx4
  go_wp2_with fail
  generalize w.alloc (.cells #[.slice none 0 0] 29) = W4 at *
  refine (wpIn_wide (n := 3)).1 (wpIn_rangeFunc_but rfl (by omega) (gf := 132) (lb := #[.pointer (some ⟨pi, 0, none⟩), .pointer (some ⟨ph, 0, none⟩)]) rfl trivial (enters_of Tryz.func132 (by kernel_rfl) rfl) Hseq.out kpO_t kpO_b Hx4.out (fun b hb => by have : b = pi := hb; omega) (fun _ => rfl)
    (fun (pre : List {x : Nat // x < m}) X => ColI w w.heap.size pi (pre.map (·.1)) X) (fun _ _ _ => False)
    (fun (q : List {x : Nat // x < m}) A B h k => ColI.f (pre := q.map (·.1)) h (by omega) hpi (by omega) k)
    (fun c q A B h k => h.elim)
    Hst.out ?a1 ?assign ?body ?done ?stop)
  case assign =>
    intro y x X K hK
    gi_wp2
    simp [natEnc]
    exact hK
  case body =>
    rintro y pre0 ⟨x, hxm⟩ X hI hpre
    obtain ⟨pre, hpre0⟩ : ∃ pre, pre0.map (·.1) = pre := ⟨_, rfl⟩
    have hpl : pre0.length = pre.length := by rw [← hpre0]; simp
    have hfin : (pre0 ++ [(⟨x, hxm⟩ : {x : Nat // x < m})]).map (·.1) = pre ++ [x] := by rw [← hpre0]; simp
    rw [hpl] at hpre
    have hI : ColI w w.heap.size pi pre X := by rw [← hpre0]; exact hI
    clear hpre0
    obtain ⟨v, h1, h2⟩ := hI.all
    obtain ⟨va, vc, rfl, _, _, _, _⟩ := ints_of_owns h2
    have hnl : (natsI pre).length = pre.length := by simp [natsI]
    have hrl : (intRows .i64 (natsI pre)).length = pre.length := by simp [intRows, natsI]
    have hl6 : (natsI (pre ++ [x])).length = pre.length + 1 := by simp [natsI]
    have hap : intRows .i64 (natsI pre) ++ intRows .i64 [(x : Int)] = intRows .i64 (natsI (pre ++ [x])) := by rw [← intRows_append]; simp [natsI]
    rw [hnl] at h1 h2
    obtain ⟨y0, y1⟩ := (Ext.refl X).box h1
    have hpx := heap_lt h1
    have hown := h2.alloc (.cells #[.int .i64 (x : Int)] 3)
    have hsrc := one_int X (x : Int) 3
    have hbx := ((Ext.refl X).alloc (.cells #[.int .i64 (x : Int)] 3)).but (fun b => (Value.slice va pre.length vc).ownBlock = some b)
    have hne : ¬((Value.slice va pre.length vc).ownBlock = some w.heap.size) := fun e => by have := (h2.lt _ e).1; omega
    have HI := Lib.hid hI
    have H2 := Lib.hid h2
    have Hown := Lib.hid hown
    have Hsrc := Lib.hid hsrc
    have Hbx := Lib.hid hbx
    have Hne := Lib.hid hne
    have Hap := Lib.hid hap
    have Hl6 := Lib.hid hl6
    have Hrl := Lib.hid hrl
    have Hfin := Lib.hid hfin
    clear hI h2 hown hsrc hbx hne hap hl6 hrl hfin
    have H1 := Lib.hid h1
    clear h1 hnl
    gi_wp2_with (gi_at_builtin; refine wpListIn_app elemI34 _ rfl (.tmp 8) (.tmp 10) rfl (w.heap.size + 1) (.slice va pre.length vc) (intRows .i64 (natsI pre)) rfl Hown.out (some ⟨X.heap.size, 0, none⟩) 1 1 (intRows .i64 [(x : Int)]) rfl (by omega) rfl Hsrc.out (intRows_row _ _) (by rw [Hrl.out]; omega) (by simp; omega) ?_; intro v6 w6 ho6 hg6; rw [Hap.out] at ho6; obtain ⟨a6, c6, e6, _, _, _, _⟩ := ints_of_owns ho6; rw [Hl6.out] at e6; subst e6; have hb6 := Hbx.out.trans (but_grownI hg6); clear hg6 y0 y1; obtain ⟨y0, y1⟩ := (Ext.refl w6).box (hb6.block _ _ H1.out Hne.out); have hlt6 := heap_lt (hb6.block _ _ H1.out Hne.out); have Ho6 := Lib.hid ho6; have Hb6 := Lib.hid hb6; clear ho6 hb6)
    have := HI.out.next (by omega) hpi H1.out H2.out Hb6.out Ho6.out
    rw [← Hfin.out] at this
    exact this
  case done =>
    intro D xs0 X hD hxs hI hK
    obtain ⟨xs, hxs0⟩ : ∃ xs, xs0.map (·.1) = xs := ⟨_, rfl⟩
    have hI : ColI w w.heap.size pi xs X := by rw [← hxs0]; exact hI
    have hxs : xs = L := by rw [← hxs0]; exact hxs
    clear hxs0
    subst hxs
    obtain ⟨v, h1, h2⟩ := hI.all
    obtain ⟨va, vc, rfl, f1, f2, f3, f4⟩ := ints_of_owns h2
    have hnl : (natsI xs).length = xs.length := by simp [natsI]
    rw [hnl] at h1 f2 f4
    obtain ⟨y0, y1⟩ := (Ext.refl X).box h1
    have hh : Hung (w.heap.size + 1) [{ target := .collected D, args := #[] }] X := ⟨⟨D, rfl, by omega, hK, by simp⟩, trivial⟩
    have hkp := hI.keep
    have Hh := Lib.hid hh
    have Hkp := Lib.hid hkp
    have F1 := Lib.hid f1
    have F4 := Lib.hid f4
    clear hh hkp f1 f4
    clear hI h1 h2 hK
    go_wp2_with fail
    refine marks_rets Hh.out fun w' ht => ?_
    refine ⟨.slice va xs.length vc, by simp [results, Tryz.f131, go_sem], va, vc, rfl, F4.out.took ht, f2, f3, fun x hx => ?_, ?_⟩
    · have := F1.out x hx
      omega
    · exact ⟨ht.os.trans Hkp.out.os, ht.tape.trans Hkp.out.tape, ht.output.trans Hkp.out.output, by rw [ht.size]; exact Hkp.out.size, fun b o hb hn => by
        have hl := heap_lt hb
        exact (ht.block b (by omega)).trans (Hkp.out.block b o hb hn (.inr hl))⟩
  case stop =>
    intro D c pre X _ _ h
    exact h.elim
theorem collect_any {pi ph m : Nat} {L : List Nat} {w : World} (hpi : pi < w.heap.size) (hL : L.length ≤ 16)
    (hseq : SeqStopsB Fence.wide 2 Tryz.prog 132 #[.pointer (some ⟨pi, 0, none⟩), .pointer (some ⟨ph, 0, none⟩)] (fun x : {x : Nat // x < m} => natEnc x.1) (KpO (fun b => w.heap.size ≤ b)) (fun xs => xs.map (·.1) = L) (fun pre => pre.map (·.1) <+: L) L.length (fun b => b = pi) w) :
    Calls Tryz.prog 109 #[.func (.func 132) #[] #[.pointer (some ⟨pi, 0, none⟩), .pointer (some ⟨ph, 0, none⟩)]] w (CollPost L pi w) := by
  have Hseq := Lib.hid hseq
  clear hseq
  go_enter Tryz.func109, Tryz.ntmps109
  go_wp2_with (go_at_call 131; refine (appendSeq_any hpi hL Hseq.out).mono ?_; rintro e w1 ⟨a, c, rfl, h1, h2, h3, h4, h5⟩)
  go_ret
  exact ⟨a, c, rfl, h1, h2, h3, h4, h5⟩
/-- the first place of a number -/
def idxOf (l : List Int) (x : Int) : Int := match l.findIdx? (fun y => x == y) with | some d => (d : Int) | none => -1
theorem idx_none {l : List Int} {x : Int} (h : ∀ (j : Nat) (y : Int), l[j]? = some y → (x == y) = false) : idxOf l x = -1 := by
  unfold idxOf
  have : l.findIdx? (fun y => x == y) = none := by
    rw [List.findIdx?_eq_none_iff]
    intro y hy
    obtain ⟨j, hj, rfl⟩ := List.mem_iff_getElem.1 hy
    exact h j _ (List.getElem?_eq_getElem hj)
  rw [this]
theorem idx_some {l : List Int} {x : Int} {k : Nat} (hk : l[k]? = some x) (h : ∀ (j : Nat) (y : Int), j < k → l[j]? = some y → (x == y) = false) : idxOf l x = k := by
  unfold idxOf
  have : l.findIdx? (fun y => x == y) = some k := by
    rw [List.findIdx?_eq_some_iff_getElem]
    obtain ⟨hl, he⟩ := List.getElem?_eq_some_iff.1 hk
    refine ⟨hl, by simp [he], fun j hj => ?_⟩
    rw [h j _ hj (List.getElem?_eq_getElem (by omega))]
    simp
  rw [this]
set_option maxRecDepth 100000 in
set_option maxHeartbeats 4000000 in
theorem index_any {a : Option Addr} {n c : Nat} {l : List Int} {w : World} (hl : IntsAt .i64 w a n l) (hn : n ≤ 1000000000) (x : Int) : Calls Tryz.prog 111 #[.slice a n c, .int .i64 x] w fun e w' => e = .returned (.int .i64 (idxOf l x)) ∧ w' = w := by
  have hnl := hl.1
  have Hl := Lib.hid hl
  clear hl
  go_enter Tryz.func111, Tryz.ntmps111
  go_upto_region 2 with fail
  go_loopw [8] (fun i V => ∃ k : Nat, i = .int .i64 k ∧ k ≤ n ∧ V = w ∧ ∀ j y, j < k → l[j]? = some y → (x == y) = false) (fun i _ => n - (intOf i).toNat)
  case atStart => exact ⟨0, rfl, Nat.zero_le _, rfl, fun j y hj => by omega⟩
  case round =>
    obtain ⟨k, rfl, hk, rfl, hno⟩ := hrel
    by_cases hlt : k < n
    · have hltB : decide ((k : Int) < (n : Int)) = true := by simp; omega
      obtain ⟨b, off, y, rfl, hyk, hb, c0⟩ := Hl.out.get k hlt
      by_cases hxy : x = y
      · subst hxy
        have hB : (x == x) = true := by simp
        have hi := idx_some hyk hno
        have Hi := Lib.hid hi
        clear hi
        clear hno hyk
        go_wp2_with fail
        go_ret
        exact ⟨by rw [Hi.out]; rfl, rfl⟩
      · have hB : (x == y) = false := by simpa using hxy
        have hno' : ∀ j z, j < k + 1 → l[j]? = some z → (x == z) = false := fun j z hj hz => by
          by_cases e : j = k
          · subst e
            rw [hyk] at hz
            cases hz
            exact hB
          · exact hno j z (by omega) hz
        have Hno' := Lib.hid hno'
        clear hno'
        clear hno hyk hxy
        go_wp2_with fail
        go_roundw
        case rel => exact ⟨k + 1, by go_num, by omega, trivial, Hno'.out⟩
        case measure => simp [intOf]; omega
    · have hltB : decide ((k : Int) < (n : Int)) = false := by simp; omega
      have hi := idx_none (l := l) (x := x) fun j y hy => hno j y (by have := (List.getElem?_eq_some_iff.1 hy).1; omega) hy
      have Hi := Lib.hid hi
      clear hi
      clear hno
      go_wp2_with fail
      go_ret
      exact ⟨by rw [Hi.out]; rfl, rfl⟩
end Go.Proofs.YtcoelhpmkhimpaaGreatDoor

namespace Go.Proofs.YtcoelhpmkhimpaaGreatDoor
open Go.RowKit
set_option linter.unusedVariables false
set_option linter.unusedSimpArgs false
attribute [local go_sem] Oper.semAt_some
def otherN (i : Nat) (pre : List Nat) : Nat := (pre.filter (fun x => !(x == i))).length
theorem otherN_same (i : Nat) (pre : List Nat) : otherN i (pre ++ [i]) = otherN i pre := by simp [otherN]
theorem otherN_more {i x : Nat} (h : x ≠ i) (pre : List Nat) : otherN i (pre ++ [x]) = otherN i pre + 1 := by simp [otherN, h]
theorem otherN_le (i : Nat) (pre : List Nat) : otherN i pre ≤ pre.length := List.length_filter_le _ _
theorem otherN_line {l : List Animal} (h : HerdOk l) {i : Nat} (hi : i < l.length) : otherN i (lineOf l i) + 1 = (lineOf l i).length := by
  have hL := h.lineIs hi
  have hn := hL.nodup
  generalize lineOf l i = L at *
  have key : ∀ r : List Nat, i ∉ r → otherN i (i :: r) + 1 = (i :: r).length := fun r hr => by
    have : r.filter (fun x => !(x == i)) = r := by
      rw [List.filter_eq_self]
      intro a ha
      have : a ≠ i := fun e => hr (e ▸ ha)
      simp [this]
    simp [otherN, this]
  cases hL with
  | root => exact key [] (by simp)
  | step h' t => exact key _ (List.nodup_cons.1 hn).1
/-- what the loop holds: so many numbers in a slice of its own -/
structure LnI (w : World) (hb i n : Nat) (X : World) : Prop where
  size : w.heap.size + 1 + 1 + 1 + 1 + 1 ≤ X.heap.size
  ext : Ext w X
  b6 : X.heap[w.heap.size]? = some (.cells #[.pointer (some ⟨hb, 0, none⟩)] 165 (0, 0))
  b8 : X.heap[w.heap.size + 1]? = some (.cells #[.int .i64 (i : Int)] 3 (0, 0))
  all : ∃ v ids, X.heap[w.heap.size + 1 + 1]? = some (.cells #[v] 29 (0, 0)) ∧ ids.length = n ∧ Owns X (w.heap.size + 1 + 1 + 1 + 1 + 1) 3 1 v (intRows .i64 ids)
theorem LnI.f {w A B : World} {hb i n : Nat} (h : LnI w hb i n A) (k : ButF (fun q => q = w.heap.size + 1 + 1 + 1 + 1) (w.heap.size + 1 + 1 + 1 + 1 + 1) A B) : LnI w hb i n B := by
  obtain ⟨v, ids, h1, h2, h3⟩ := h.all
  exact ⟨Nat.le_trans h.size k.size, ButF.ext h.ext k (fun b e => by have : b = w.heap.size + 1 + 1 + 1 + 1 := e; omega) (by omega), k.cells h.b6 (fun e => by have : w.heap.size = w.heap.size + 1 + 1 + 1 + 1 := e; omega), k.cells h.b8 (fun e => by have : w.heap.size + 1 = w.heap.size + 1 + 1 + 1 + 1 := e; omega), v, ids, k.cells h1 (fun e => by have : w.heap.size + 1 + 1 = w.heap.size + 1 + 1 + 1 + 1 := e; omega), h2,
    h3.butFI k fun b hb e => by have := (h3.lt b hb).1; have : b = w.heap.size + 1 + 1 + 1 + 1 := e; omega⟩
/-- a turn of the loop -/
theorem LnI.next {w X V : World} {hb i n : Nat} {v v' : Value} {ids ids' : List Int} (h : LnI w hb i n X) (hv : X.heap[w.heap.size + 1 + 1]? = some (.cells #[v] 29 (0, 0))) (ho : Owns X (w.heap.size + 1 + 1 + 1 + 1 + 1) 3 1 v (intRows .i64 ids)) (hb' : But (fun b => v.ownBlock = some b) X V) (hl' : ids'.length = n + 1) (ho' : Owns V (w.heap.size + 1 + 1 + 1 + 1 + 1) 3 1 v' (intRows .i64 ids')) :
    KeepsOthers X (V.setCell ⟨w.heap.size + 1 + 1, 0, none⟩ v') ∧ KpO (fun b => b = w.heap.size + 1 + 1 ∨ w.heap.size + 1 + 1 + 1 + 1 + 1 ≤ b) X (V.setCell ⟨w.heap.size + 1 + 1, 0, none⟩ v') ∧ LnI w hb i (n + 1) (V.setCell ⟨w.heap.size + 1 + 1, 0, none⟩ v') := by
  have hlt := fun b e => ho.lt b e
  have k1 : KeepsOthers X V := ⟨hb'.size, fun b o hk hc => hb'.block b o hk fun e => by
    have e : v.ownBlock = some b := e
    rcases ho.1.2 with q | ⟨g, cap, cur, e1, e2, e3, e4⟩
    · rcases q with ⟨rfl, _⟩
      cases e
    · rw [e1] at e
      cases e
      rw [e3] at hk
      cases hk
      cases hc⟩
  have kp : ∀ b o, X.heap[b]? = some o → b < w.heap.size + 1 + 1 → (V.setCell ⟨w.heap.size + 1 + 1, 0, none⟩ v').heap[b]? = some o := fun b o h1 h2 => (Below.heap_setCell _ _ _ _ (by simp only; omega)).trans (hb'.block b o h1 fun e => by have := (hlt b e).1; omega)
  have hc2 := hb'.block _ _ hv (fun e => by have := (hlt _ e).1; omega)
  refine ⟨k1.trans (KeepsOthers.setCell _ _ _), ⟨by simp only [World.setCell]; have := hb'.size; simpa using this, fun b o hk hc hn => ?_⟩, ⟨by simp only [World.setCell]; have := hb'.size; have := h.size; simp; omega, (But.ext h.ext hb' fun b e => by have := (hlt b e).1; omega).setCell (p := ⟨w.heap.size + 1 + 1, 0, none⟩) (by simp only; omega) _, kp _ _ h.b6 (by omega), kp _ _ h.b8 (by omega), v', ids', ?_, hl', owns_setO ho' (by omega)⟩⟩
  · have hn : ¬(b = w.heap.size + 1 + 1 ∨ w.heap.size + 1 + 1 + 1 + 1 + 1 ≤ b) := hn
    exact (Below.heap_setCell _ _ _ _ (by simp only; omega)).trans (hb'.block b o hk fun e => by have := (hlt b e).1; omega)
  · rw [heap_setCell_box, hc2]
    rfl
def LinePost (n : Nat) (w : World) (e : Ending) (w' : World) : Prop := ∃ a c, e = .returned (.tuple #[.slice a n c, .int .i64 0]) ∧ n ≤ c ∧ c ≤ maxLen ∧ Ext w w'
def E11 (ob : Option Nat) (k : Nat) (w w' : World) : Prop := k ≠ 11 → But (fun b => ob = some b) w w'
theorem E11.read (ob : Option Nat) (k : Nat) (w : World) : E11 ob k w w := fun _ => But.refl _ _
theorem E11.keep {ob : Option Nat} {k : Nat} {w0 w w' : World} (hk : ([0, 1, 2, 3, 4, 5, 6, 7, 8, 9] : List Nat).contains k = true ∨ 12 ≤ k) (hS : But (fun b => ob = some b) w0 w) (h : E11 ob k w w') : But (fun b => ob = some b) w0 w' :=
  hS.trans (h (by rintro rfl; rcases hk with h | h <;> simp at h))
theorem wpIn_region_EI {P : Program} {E : Nat → World → World → Prop} {Q : Exit → Act → World → Prop} {l id : Nat} {l0 : List Oper} {a : Act} {w : World} (hm : P.follows .mixedOrders = true) (hd : l0.toArray.all noDefer = true) (h : Closed l0.toArray (Array.replicate l0.toArray.size false) → wpAnyE P l0.toArray (normalOnly Q) E l0.toArray.size (Array.replicate l0.toArray.size false) a w.drew) : (Code.region id l0.toArray true).wpIn (Fence.wide.inRound l) 0 P Q a w := by
  have key := wpAny_of_E _ _ _ _ (h (closed_none _ _))
  have key2 := wpAnyIn_of_wpAny (l := l) hd (fun ⟨_, _, e⟩ => e) _ _ _ _ key
  exact wpIn_mono (wpIn_region_any (Q := normalOnly Q) hm key2) fun e a w hq => by cases e <;> first | exact hq | exact hq.elim
theorem But.cellI {O : Nat → Prop} {A B : World} (h : But O A B) {x : Addr} {v : Value} (hc : A.cell? x = some v) (hn : ¬O x.block) : B.cell? x = some v := by
  obtain ⟨o, ho, _⟩ := cells_of_cell hc
  exact (World.cell?_of_block ((h.block _ o ho hn).trans ho.symm)).trans hc
end Go.Proofs.YtcoelhpmkhimpaaGreatDoor

namespace Go.Proofs.YtcoelhpmkhimpaaGreatDoor
open Go.RowKit
set_option linter.unusedVariables false
set_option linter.unusedSimpArgs false
attribute [local go_sem] Oper.semAt_some
theorem idx_nats {L : List Nat} {x : Nat} : idxOf (natsI L) (x : Int) = match L.findIdx? (· == x) with | some d => (d : Int) | none => -1 := by
  unfold idxOf natsI
  rw [List.findIdx?_map]
  have e : ((fun y => (x : Int) == y) ∘ fun (z : Nat) => (z : Int)) = fun z : Nat => z == x := by
    funext z
    by_cases h : z = x
    · simp [h]
    · have h' : ¬((x : Int) = (z : Int)) := fun e => h (by omega)
      have b1 : ((x : Int) == (z : Int)) = false := by simpa using h'
      have b2 : (z == x) = false := by simpa using h
      show ((x : Int) == (z : Int)) = (z == x)
      rw [b1, b2]
  rw [e]
  try (cases L.findIdx? (fun z => z == x) <;> rfl)
theorem set_same {W : World} {b : Nat} {v : Value} {t : TypeId} (h : W.heap[b]? = some (.cells #[v] t (0, 0))) : Ext W (W.setCell ⟨b, 0, none⟩ v) :=
  But.ext (Ext.refl W) (O := fun _ => False) ⟨rfl, rfl, rfl, by simp [World.setCell], fun k o hk _ => by
    by_cases e : k = b
    · subst e
      rw [heap_setCell_box, h]
      rw [h] at hk
      exact hk
    · exact (Below.heap_setCell _ _ _ _ (by simp only; omega)).trans hk⟩ (fun _ h => h.elim)
theorem kinF_pre {T : List Nat} {r : List Nat} : ∀ (pre : List Nat) (k : Nat), (∀ y ∈ pre, T.findIdx? (· == y) = none) → kinF T (pre ++ r) k = kinF T r (k + pre.length)
  | [], k, _ => rfl
  | x :: p, k, h => by
    have e := h x (by simp)
    have ih := kinF_pre (r := r) p (k + 1) (fun y hy => h y (by simp [hy]))
    rw [List.cons_append, kinF, e]
    simp only
    rw [ih, List.length_cons]
    congr 1
    omega
theorem kinF_none {T pre : List Nat} (h : ∀ y ∈ pre, T.findIdx? (· == y) = none) : kinF T pre 0 = (0, 0, 6) := by
  have := kinF_pre (r := []) pre 0 h
  rw [List.append_nil] at this
  rw [this]
  rfl
theorem kinF_hit {T pre r : List Nat} {x d : Nat} (h : ∀ y ∈ pre, T.findIdx? (· == y) = none) (hx : T.findIdx? (· == x) = some d) : kinF T (pre ++ x :: r) 0 = ((pre.length : Int), (d : Int), 0) := by
  rw [kinF_pre pre 0 h, kinF, hx]
  simp
theorem IntsAt.butFI {q : IntKind} {O : Nat → Prop} {lo : Nat} {A B : World} {a : Option Addr} {n : Nat} {l : List Int} (h : IntsAt q A a n l) (k : ButF O lo A B) (hn : ∀ x, a = some x → ¬O x.block) : IntsAt q B a n l :=
  ⟨h.1, fun h0 => let ⟨b, off, ha, hc⟩ := h.2 h0; ⟨b, off, ha, fun i hi j v hv => by
    obtain ⟨o, ho, hoc⟩ := cells_of_cell (hc i hi j v hv)
    exact (World.cell?_of_block ((k.block _ o ho (hn ⟨b, off, none⟩ ha) (.inl hoc)).trans ho.symm)).trans (hc i hi j v hv)⟩⟩
/-- what the loop holds -/
structure KnI (w : World) (p14 : Nat) (a2 : Option Addr) (c2 : Nat) (T : List Nat) (n : Nat) (X : World) : Prop where
  ext : Ext w X
  b6 : X.heap[w.heap.size]? = some (.cells #[.int .i64 (n : Int)] 3 (0, 0))
  b7 : ∃ d, X.heap[w.heap.size + 1]? = some (.cells #[.int .i64 d] 3 (0, 0))
  b8 : X.heap[w.heap.size + 1 + 1]? = some (.cells #[.int .i64 0] 35 (0, 0))
  b14 : X.heap[p14]? = some (.cells #[.slice a2 T.length c2] 29 (0, 0))
  their : IntsAt .i64 X a2 T.length (natsI T)
theorem KnI.f {w A B : World} {p14 pi lo : Nat} {a2 : Option Addr} {c2 : Nat} {T : List Nat} {n : Nat} (h : KnI w p14 a2 c2 T n A) (h1 : w.heap.size + 1 + 1 < pi) (h2 : p14 ≠ pi) (h3 : ∀ x, a2 = some x → x.block ≠ pi) (h4 : w.heap.size ≤ lo) (k : ButF (fun q => q = pi) lo A B) : KnI w p14 a2 c2 T n B := by
  obtain ⟨d, hd⟩ := h.b7
  exact ⟨ButF.ext h.ext k (fun b e => by have : b = pi := e; omega) h4, k.cells h.b6 (fun e => by have : w.heap.size = pi := e; omega), ⟨d, k.cells hd (fun e => by have : w.heap.size + 1 = pi := e; omega)⟩, k.cells h.b8 (fun e => by have : w.heap.size + 1 + 1 = pi := e; omega), k.cells h.b14 h2, h.their.butFI k h3⟩
/-- it returns: they are kin -/
structure KnX (w : World) (n : Nat) (d : Int) (X : World) : Prop where
  ext : Ext w X
  b6 : X.heap[w.heap.size]? = some (.cells #[.int .i64 (n : Int)] 3 (0, 0))
  b7 : X.heap[w.heap.size + 1]? = some (.cells #[.int .i64 d] 3 (0, 0))
  b8 : X.heap[w.heap.size + 1 + 1]? = some (.cells #[.int .i64 0] 35 (0, 0))
theorem KnX.f {w A B : World} {pi lo n : Nat} {d : Int} (h : KnX w n d A) (h1 : w.heap.size + 1 + 1 < pi) (h4 : w.heap.size ≤ lo) (k : ButF (fun q => q = pi) lo A B) : KnX w n d B :=
  ⟨ButF.ext h.ext k (fun b e => by have : b = pi := e; omega) h4, k.cells h.b6 (fun e => by have : w.heap.size = pi := e; omega), k.cells h.b7 (fun e => by have : w.heap.size + 1 = pi := e; omega), k.cells h.b8 (fun e => by have : w.heap.size + 1 + 1 = pi := e; omega)⟩
theorem set3 {X : World} {b : Nat} {x y z x' y' z' : Value} {t : TypeId} (h6 : X.heap[b]? = some (.cells #[x] 3 (0, 0))) (h7 : X.heap[b + 1]? = some (.cells #[y] 3 (0, 0))) (h8 : X.heap[b + 1 + 1]? = some (.cells #[z] t (0, 0))) :
    (((X.setCell ⟨b, 0, none⟩ x').setCell ⟨b + 1, 0, none⟩ y').setCell ⟨b + 1 + 1, 0, none⟩ z').heap[b]? = some (.cells #[x'] 3 (0, 0)) ∧ (((X.setCell ⟨b, 0, none⟩ x').setCell ⟨b + 1, 0, none⟩ y').setCell ⟨b + 1 + 1, 0, none⟩ z').heap[b + 1]? = some (.cells #[y'] 3 (0, 0)) ∧ (((X.setCell ⟨b, 0, none⟩ x').setCell ⟨b + 1, 0, none⟩ y').setCell ⟨b + 1 + 1, 0, none⟩ z').heap[b + 1 + 1]? = some (.cells #[z'] t (0, 0)) := by
  refine ⟨?_, ?_, ?_⟩
  · refine (Below.heap_setCell _ _ _ _ (by simp only; omega)).trans ((Below.heap_setCell _ _ _ _ (by simp only; omega)).trans ?_)
    rw [heap_setCell_box, h6]
    rfl
  · refine (Below.heap_setCell _ _ _ _ (by simp only; omega)).trans ?_
    rw [heap_setCell_box, Below.heap_setCell _ _ _ _ (by simp only; omega), h7]
    rfl
  · rw [heap_setCell_box, Below.heap_setCell _ _ _ _ (by simp only; omega), Below.heap_setCell _ _ _ _ (by simp only; omega), h8]
    rfl
theorem KnI.more {w X : World} {p14 : Nat} {a2 : Option Addr} {c2 : Nat} {T : List Nat} {n : Nat} (h : KnI w p14 a2 c2 T n X) (h14 : w.heap.size + 1 + 1 < p14) (ha : ∀ x, a2 = some x → w.heap.size + 1 + 1 < x.block) (d : Int) :
    KeepsOthers X ((X.setCell ⟨w.heap.size + 1, 0, none⟩ (.int .i64 d)).setCell ⟨w.heap.size, 0, none⟩ (.int .i64 ((n : Int) + 1))) ∧ KpO (fun b => b = w.heap.size ∨ b = w.heap.size + 1 ∨ b = w.heap.size + 1 + 1) X ((X.setCell ⟨w.heap.size + 1, 0, none⟩ (.int .i64 d)).setCell ⟨w.heap.size, 0, none⟩ (.int .i64 ((n : Int) + 1)))
      ∧ KnI w p14 a2 c2 T (n + 1) ((X.setCell ⟨w.heap.size + 1, 0, none⟩ (.int .i64 d)).setCell ⟨w.heap.size, 0, none⟩ (.int .i64 ((n : Int) + 1))) := by
  have kp : ∀ b, b ≠ w.heap.size → b ≠ w.heap.size + 1 → ((X.setCell ⟨w.heap.size + 1, 0, none⟩ (.int .i64 d)).setCell ⟨w.heap.size, 0, none⟩ (.int .i64 ((n : Int) + 1))).heap[b]? = X.heap[b]? := fun b h1 h2 => (Below.heap_setCell _ _ _ _ h1).trans (Below.heap_setCell _ _ _ _ h2)
  obtain ⟨d0, hd⟩ := h.b7
  refine ⟨(KeepsOthers.setCell _ _ _).trans (KeepsOthers.setCell _ _ _), ⟨by simp [World.setCell], fun b o hb _ hn => ?_⟩, (h.ext.setCell (p := ⟨w.heap.size + 1, 0, none⟩) (by simp only; omega) _).setCell (p := ⟨w.heap.size, 0, none⟩) (by simp only; omega) _, ?_, ⟨d, ?_⟩, (kp _ (by omega) (by omega)).trans h.b8, (kp _ (by omega) (by omega)).trans h.b14, h.their.1, h.their.2.same fun x hx => kp _ (by have := ha x hx; omega) (by have := ha x hx; omega)⟩
  · have hn : ¬(b = w.heap.size ∨ b = w.heap.size + 1 ∨ b = w.heap.size + 1 + 1) := hn
    exact (kp b (by omega) (by omega)).trans hb
  · rw [heap_setCell_box, Below.heap_setCell _ _ _ _ (by simp only; omega), h.b6]
    rfl
  · refine (Below.heap_setCell _ _ _ _ (by simp only; omega)).trans ?_
    rw [heap_setCell_box, hd]
    rfl
theorem KnX.same {w V : World} {n : Nat} {d : Int} (h : KnX w n d V) : KnX w n d (V.setCell ⟨w.heap.size, 0, none⟩ (.int .i64 (n : Int))) ∧ KnX w n d (V.setCell ⟨w.heap.size + 1, 0, none⟩ (.int .i64 d)) ∧ KnX w n d (V.setCell ⟨w.heap.size + 1 + 1, 0, none⟩ (.int .i64 0)) := by
  have e1 := set_same h.b6
  have e2 := set_same h.b7
  have e3 := set_same h.b8
  exact ⟨⟨h.ext.trans e1, e1.heap h.b6, e1.heap h.b7, e1.heap h.b8⟩, ⟨h.ext.trans e2, e2.heap h.b6, e2.heap h.b7, e2.heap h.b8⟩, ⟨h.ext.trans e3, e3.heap h.b6, e3.heap h.b7, e3.heap h.b8⟩⟩
def KnIn (w : World) (p14 : Nat) (a2 : Option Addr) (c2 : Nat) (T : List Nat) (m : Nat) (pre : List {x : Nat // x < m}) (X : World) : Prop := KnI w p14 a2 c2 T pre.length X ∧ ∀ y ∈ pre.map (·.1), T.findIdx? (· == y) = none
def KnEx (w : World) (T : List Nat) (m : Nat) (e : Code) (pre : List {x : Nat // x < m}) (X : World) : Prop := e = .ret ∧ ∃ pre0 x d, pre.map (·.1) = pre0 ++ [x] ∧ (∀ y ∈ pre0, T.findIdx? (· == y) = none) ∧ T.findIdx? (· == x) = some d ∧ KnX w pre0.length (d : Int) X
def KinPost (r : Int × Int × Int) (w : World) (e : Ending) (w' : World) : Prop := e = .returned (.tuple #[.int .i64 r.1, .int .i64 r.2.1, .int .i64 r.2.2]) ∧ Ext w w'
set_option maxRecDepth 100000 in
set_option maxHeartbeats 4000000 in
theorem kin_any {w : World} {a : Option Addr} {c : Nat} {l : List Animal} (hok : HerdOk l) (hla : AnimalsAt w a l.length l) (hcc : l.length ≤ c ∧ c ≤ maxLen) {ida idb : Int} {i j : Nat} (hia : placeOf l ida = some i) (hjb : placeOf l idb = some j) :
    Calls Tryz.prog 79 #[.slice a l.length c, .int .i64 ida, .int .i64 idb] w (KinPost (kinOf l i j) w) := by
  have hlen := hok.len
  have hi := placeOf_lt hia
  have hj := placeOf_lt hjb
  have hop := fun (V : World) (hV : Ext w V) => openH_any hok (hla.ext hV) hcc
  have hlk := fun (V : World) (mp : Nat) (h : OMapIs V mp (placeV l)) (q : Int) => (run_lookup_int (P := Tryz.prog) h Tryz.underlying169 Tryz.underlying3 (z := .int .i64 0) (by kernel_rfl) q).1
  have e1 : (placeV l ida).getD (.int .i64 0) = .int .i64 (i : Int) := by unfold placeV; rw [hia]; rfl
  have e2 : (placeV l ida).isSome = true := by unfold placeV; rw [hia]; rfl
  have e3 : (placeV l idb).getD (.int .i64 0) = .int .i64 (j : Int) := by unfold placeV; rw [hjb]; rfl
  have e4 : (placeV l idb).isSome = true := by unfold placeV; rw [hjb]; rfl
  clear hia hjb hla
  have Hop := Lib.hid hop
  have Hlk := Lib.hid hlk
  have E1 := Lib.hid e1
  have E2 := Lib.hid e2
  have E3 := Lib.hid e3
  have E4 := Lib.hid e4
  clear hop hlk e1 e2 e3 e4
  refine (callsIn_wide (n := 2)).1 ?_
  refine callsIn_of_wp_marks Tryz.func79 rfl trivial ?_ rfl
  simp only [Tryz.ntmps79, List.size_toArray, List.length_cons, List.length_nil, Nat.reduceAdd, Nat.reduceSub, Array.replicate_succ, Array.replicate_zero, List.push_toArray, List.append_toArray, List.nil_append, List.cons_append]
  refine wpIn_wide.2 ?_
  have hx0 : Ext w (((w.alloc (.cells #[.int .i64 0] 3)).alloc (.cells #[.int .i64 0] 3)).alloc (.cells #[.int .i64 0] 35)) := (((Ext.refl w).alloc _).alloc _).alloc _
  have g6 : (((w.alloc (.cells #[.int .i64 0] 3)).alloc (.cells #[.int .i64 0] 3)).alloc (.cells #[.int .i64 0] 35)).heap[w.heap.size]? = some (.cells #[.int .i64 0] 3 (0, 0)) := (((Ext.refl _).alloc _).alloc _).heap (heap_alloc_new w _)
  have g7 : (((w.alloc (.cells #[.int .i64 0] 3)).alloc (.cells #[.int .i64 0] 3)).alloc (.cells #[.int .i64 0] 35)).heap[w.heap.size + 1]? = some (.cells #[.int .i64 0] 3 (0, 0)) := ((Ext.refl _).alloc _).heap (alloc_at _ _ _ (by simp))
  have g8 : (((w.alloc (.cells #[.int .i64 0] 3)).alloc (.cells #[.int .i64 0] 3)).alloc (.cells #[.int .i64 0] 35)).heap[w.heap.size + 1 + 1]? = some (.cells #[.int .i64 0] 35 (0, 0)) := alloc_at _ _ _ (by simp)
  have Hx0 := Lib.hid hx0
  have G6 := Lib.hid g6
  have G7 := Lib.hid g7
  have G8 := Lib.hid g8
  clear hx0 g6 g7 g8
  have hsz0 : (((w.alloc (.cells #[.int .i64 0] 3)).alloc (.cells #[.int .i64 0] 3)).alloc (.cells #[.int .i64 0] 35)).heap.size = w.heap.size + 1 + 1 + 1 := by simp
  go_upto_region 1 with fail
  generalize ((w.alloc (.cells #[.int .i64 0] 3)).alloc (.cells #[.int .i64 0] 3)).alloc (.cells #[.int .i64 0] 35) = W0 at *
  go_upto_region 4 with (go_at_call 108; refine (Hop.out _ Hx0.out).mono ?_; rintro e w1 ⟨hb, rfl, hhd, hx1⟩; have h81 := hx1.heap G8.out; obtain ⟨y0, y1⟩ := (Ext.refl w1).box h81; have hl1 := heap_lt h81; have H81 := Lib.hid h81; clear h81)
  obtain ⟨a', c', mp, ma, mc, v, hin, hf1, hf2⟩ := hhd
  have hse := set_same H81.out
  have hin1 := hin.ext hse
  have hx1' := hx1.trans hse
  clear y0 y1 hl1 hse H81 hin hx1
  generalize w1.setCell ⟨w.heap.size + 1 + 1, 0, none⟩ (.int .i64 0) = W1 at *
  have g61 := hx1'.heap G6.out
  have g71 := hx1'.heap G7.out
  have g81 := hx1'.heap G8.out
  have hxw1 := Hx0.out.trans hx1'
  have hl1 := Hlk.out W1 mp hin1.map ida
  have hl2 := Hlk.out W1 mp hin1.map idb
  rw [E1.out, E2.out] at hl1
  rw [E3.out, E4.out] at hl2
  obtain ⟨y0, _⟩ := (Ext.refl _).box hin1.box
  have hhb := heap_lt hin1.box
  have Hin1 := Lib.hid hin1
  have G61 := Lib.hid g61
  have G71 := Lib.hid g71
  have G81 := Lib.hid g81
  have Hxw1 := Lib.hid hxw1
  clear hin1 g61 g71 g81 hxw1
  clear Hlk Hop E1 E2 E3 E4 Hx0 G6 G7 G8 hx1'
  go_upto_region 8 with fail
  clear hl1 hl2 y0
  have hma : ∀ x, ma = some x → x.block < W1.heap.size := fun x hx => by
    obtain ⟨b5, o5, _, e5, _, hl5, _⟩ := Hin1.out.moms.get 0 (by omega)
    rw [hx] at e5
    cases e5
    exact hl5
  have hcol : Calls Tryz.prog 109 #[.func (.func 132) #[] #[.pointer (some ⟨W1.heap.size + 1, 0, none⟩), .pointer (some ⟨W1.heap.size, 0, none⟩)]] ((W1.alloc (.cells #[.pointer (some ⟨hb, 0, none⟩)] 165)).alloc (.cells #[.int .i64 j] 3)) (CollPost (lineOf l j) (W1.heap.size + 1) ((W1.alloc (.cells #[.pointer (some ⟨hb, 0, none⟩)] 165)).alloc (.cells #[.int .i64 j] 3))) := by
    have hx : Ext W1 ((W1.alloc (.cells #[.pointer (some ⟨hb, 0, none⟩)] 165)).alloc (.cells #[.int .i64 j] 3)) := ((Ext.refl W1).alloc _).alloc _
    have gh : ((W1.alloc (.cells #[.pointer (some ⟨hb, 0, none⟩)] 165)).alloc (.cells #[.int .i64 j] 3)).heap[W1.heap.size]? = some (.cells #[.pointer (some ⟨hb, 0, none⟩)] 165 (0, 0)) := ((Ext.refl _).alloc _).heap (heap_alloc_new W1 _)
    have gi : ((W1.alloc (.cells #[.pointer (some ⟨hb, 0, none⟩)] 165)).alloc (.cells #[.int .i64 j] 3)).heap[W1.heap.size + 1]? = some (.cells #[.int .i64 j] 3 (0, 0)) := alloc_at _ _ _ (by simp)
    have hsz : ((W1.alloc (.cells #[.pointer (some ⟨hb, 0, none⟩)] 165)).alloc (.cells #[.int .i64 j] 3)).heap.size = W1.heap.size + 1 + 1 := by simp
    generalize (W1.alloc (.cells #[.pointer (some ⟨hb, 0, none⟩)] 165)).alloc (.cells #[.int .i64 j] 3) = W2 at *
    have hin2 := Hin1.out.ext hx
    exact collect_any (by omega) (Nat.le_trans ((hok.lineIs hj).len hj) hlen) (line_stopsF 2 (W1.heap.size + 1) W1.heap.size hb mp a' ma l.length c' mc v l hok j hj (fun b => W2.heap.size ≤ b) W2 gi gh hin2.box hin2.moms hin2.mcap.1 hin2.mcap.2 (by omega) (by omega) (by omega) (fun x hx => by have := hma x hx; omega) ⟨by omega, by omega, fun x hx => by have := hma x hx; omega⟩)
  have Hcol := Lib.hid hcol
  clear hcol
  go_upto_region 9 with (first
    | (go_at_call 110; refine (line_any hb (j : Int) _).mono ?_; rintro e w3 ⟨rfl, rfl⟩)
    | (go_at_call 109; refine Hcol.out.mono ?_; rintro e w5 ⟨a2, c2, rfl, k1, k2, k3, k4, k5⟩))
  have hx5 : Ext W1 w5 := But.ext (((Ext.refl W1).alloc _).alloc _) k5 (fun b e => by omega)
  have hx6 := hx5.alloc (.cells #[.slice a2 (lineOf l j).length c2] 29)
  have g14 := heap_alloc_new w5 (.cells #[.slice a2 (lineOf l j).length c2] 29)
  have k6 := k1.ext ((Ext.refl w5).alloc (.cells #[.slice a2 (lineOf l j).length c2] 29))
  have hsz5 : (w5.alloc (.cells #[.slice a2 (lineOf l j).length c2] 29)).heap.size = w5.heap.size + 1 := by simp
  have hle5 := hx5.size
  clear Hcol k1 k5 hx5
  generalize w5.alloc (.cells #[.slice a2 (lineOf l j).length c2] 29) = W6 at *
  generalize w5.heap.size = p14 at *
  have Hx6 := Lib.hid hx6
  have G14 := Lib.hid g14
  have K6 := Lib.hid k6
  have Hsz5 := Lib.hid hsz5
  clear hx6 g14 k6 hsz5
  go_wp2_with (go_at_call 110; refine (line_any hb (i : Int) _).mono ?_; rintro e w3 ⟨rfl, rfl⟩)
  have hW7 : ∃ W7, (W6.alloc (.cells #[.pointer (some ⟨hb, 0, none⟩)] 165)).alloc (.cells #[.int .i64 i] 3) = W7 := ⟨_, rfl⟩
  have hx7 : Ext W6 ((W6.alloc (.cells #[.pointer (some ⟨hb, 0, none⟩)] 165)).alloc (.cells #[.int .i64 i] 3)) := ((Ext.refl W6).alloc _).alloc _
  have gh : ((W6.alloc (.cells #[.pointer (some ⟨hb, 0, none⟩)] 165)).alloc (.cells #[.int .i64 i] 3)).heap[W6.heap.size]? = some (.cells #[.pointer (some ⟨hb, 0, none⟩)] 165 (0, 0)) := ((Ext.refl _).alloc _).heap (heap_alloc_new W6 _)
  have gi : ((W6.alloc (.cells #[.pointer (some ⟨hb, 0, none⟩)] 165)).alloc (.cells #[.int .i64 i] 3)).heap[W6.heap.size + 1]? = some (.cells #[.int .i64 i] 3 (0, 0)) := alloc_at _ _ _ (by simp)
  have hsz7 : ((W6.alloc (.cells #[.pointer (some ⟨hb, 0, none⟩)] 165)).alloc (.cells #[.int .i64 i] 3)).heap.size = W6.heap.size + 1 + 1 := by simp
  clear hW7
  generalize (W6.alloc (.cells #[.pointer (some ⟨hb, 0, none⟩)] 165)).alloc (.cells #[.int .i64 i] 3) = W7 at *
  have hx17 := Hx6.out.trans hx7
  have hin7 := Hin1.out.ext hx17
  have hle1 := Hx6.out.size
  have hl81 := heap_lt G81.out
  have hsq := line_stopsF 1 (W6.heap.size + 1) W6.heap.size hb mp a' ma l.length c' mc v l hok i hi (fun b => b = w.heap.size ∨ b = w.heap.size + 1 ∨ b = w.heap.size + 1 + 1) W7 gi gh hin7.box hin7.moms hin7.mcap.1 hin7.mcap.2 (by omega) (by omega) (by omega) (fun x hx => by have := hf2 x hx; omega) ⟨by omega, by omega, fun x hx => by have := hma x hx; omega⟩
  have hst : KnI w p14 a2 c2 (lineOf l j) 0 W7 := ⟨Hxw1.out.trans hx17, hx17.heap G61.out, ⟨0, hx17.heap G71.out⟩, hx17.heap G81.out, hx7.heap G14.out, K6.out.ext hx7⟩
  have ha2 : ∀ x, a2 = some x → x.block ≠ W6.heap.size + 1 := fun x hx => by
    obtain ⟨b5, o5, _, e5, _, hl5, _⟩ := K6.out.get 0 (hok.lineIs hj).len_pos
    rw [hx] at e5
    cases e5
    simp only
    omega
  have hTL := (hok.lineIs hj).len hj
  clear hin7 gh gi hx17
  have Hsq := Lib.hid hsq
  have Hst := Lib.hid hst
  have Hx7 := Lib.hid hx7
  clear hsq hst hx7
  obtain ⟨T, hT⟩ : ∃ T, lineOf l j = T := ⟨_, rfl⟩
  have hko : kinOf l i j = kinF T (lineOf l i) 0 := by unfold kinOf; rw [hT]
  rw [hko]
  rw [hT] at Hst hTL
  have Hko := Lib.hid hko
  have HT := Lib.hid hT
  clear hko hT
  refine (wpIn_wide (n := 2)).1 (wpIn_rangeFunc_but rfl (by omega) (gf := 132) (lb := #[.pointer (some ⟨W6.heap.size + 1, 0, none⟩), .pointer (some ⟨W6.heap.size, 0, none⟩)]) rfl trivial (enters_of Tryz.func132 (by kernel_rfl) rfl) Hsq.out kpO_t kpO_b (Ext.refl _) (fun b hb => by have : b = W6.heap.size + 1 := hb; omega) (fun _ => rfl)
    (KnIn w p14 a2 c2 T l.length) (KnEx w T l.length)
    (fun q A B h k => ⟨h.1.f (by omega) (by have := heap_lt G14.out; omega) ha2 (by omega) k, h.2⟩)
    (fun e q A B h k => by
      obtain ⟨h0, pre0, x, d, h1, h2, h3, h4⟩ := h
      exact ⟨h0, pre0, x, d, h1, h2, h3, h4.f (by omega) (by omega) k⟩)
    ⟨Hst.out, by simp⟩ ?a1 ?assign ?body ?done ?stop)
  case assign =>
    intro y x X K hK
    gi_wp2
    simp [natEnc]
    exact hK
  case body =>
    rintro y pre0 ⟨x, hxm⟩ X ⟨hI, hno⟩ hpre
    have hp16 : pre0.length ≤ 16 := by have := (hok.lineIs hi).len hi; omega
    have hidx := index_any (c := c2) hI.their (by omega) (x : Int)
    rw [idx_nats] at hidx
    obtain ⟨d, hd⟩ := hI.b7
    have hb6 := hI.b6
    have hb8 := hI.b8
    have hb14 := hI.b14
    obtain ⟨y0, y1⟩ := (Ext.refl X).box hb6
    obtain ⟨y2, y3⟩ := (Ext.refl X).box hd
    obtain ⟨y6, y7⟩ := (Ext.refl X).box hb14
    have l6 := heap_lt hb6
    have l7 := heap_lt hd
    cases hf : T.findIdx? (· == x) with
    | none =>
      rw [hf] at hidx
      have Hidx := Lib.hid hidx
      have HI := Lib.hid hI
      have Hno := Lib.hid hno
      have Hf := Lib.hid hf
      have Hb6 := Lib.hid hb6
      have Hd := Lib.hid hd
      have Hb8 := Lib.hid hb8
      have Hb14 := Lib.hid hb14
      clear hidx hI hno hf hb6 hd hb8 hb14
      gi_wp2_with (first | (refine ⟨trivial, rfl, ?_⟩; gi_at_call 111; refine (((callsIn_wide (n := 0)).2 Hidx.out).inRound y).mono ?_; rintro e w3 ⟨rfl, rfl⟩) | (refine ⟨trivial, ?_⟩; gi_at_call 111; refine (((callsIn_wide (n := 0)).2 Hidx.out).inRound y).mono ?_; rintro e w3 ⟨rfl, rfl⟩))
      show KeepsOthers _ _ ∧ KpO _ _ _ ∧ KnIn w p14 a2 c2 T l.length (pre0 ++ [(⟨x, hxm⟩ : {x : Nat // x < l.length})]) _
      obtain ⟨m1, m2, m3⟩ := HI.out.more (by omega) (fun q hq => by have := k4 q hq; have e : ((W1.alloc (.cells #[.pointer (some ⟨hb, 0, none⟩)] 165)).alloc (.cells #[.int .i64 j] 3)).heap.size = W1.heap.size + 1 + 1 := by simp
                                                                    omega) (-1)
      refine ⟨m1, m2, by rw [List.length_append]; exact m3, fun z hz => ?_⟩
      rw [List.map_append] at hz
      rcases List.mem_append.1 hz with hz | hz
      · exact Hno.out z hz
      · simp at hz
        rw [hz]
        exact Hf.out
    | some k =>
      rw [hf] at hidx
      have hk0 : decide (0 ≤ (k : Int)) = true := by simp
      have Hidx := Lib.hid hidx
      have HI := Lib.hid hI
      have Hno := Lib.hid hno
      have Hf := Lib.hid hf
      have Hb6 := Lib.hid hb6
      have Hd := Lib.hid hd
      have Hb8 := Lib.hid hb8
      have Hb14 := Lib.hid hb14
      clear hidx hI hno hf hb6 hd hb8 hb14
      gi_wp2_with (first | (refine ⟨trivial, rfl, ?_⟩; gi_at_call 111; refine (((callsIn_wide (n := 0)).2 Hidx.out).inRound y).mono ?_; rintro e w3 ⟨rfl, rfl⟩) | (refine ⟨trivial, ?_⟩; gi_at_call 111; refine (((callsIn_wide (n := 0)).2 Hidx.out).inRound y).mono ?_; rintro e w3 ⟨rfl, rfl⟩))
      have hX0 : KnX w pre0.length (k : Int) (w3.setCell ⟨w.heap.size + 1, 0, none⟩ (.int .i64 (k : Int))) := ⟨HI.out.ext.setCell (p := ⟨w.heap.size + 1, 0, none⟩) (by simp only; omega) _, (Below.heap_setCell _ _ _ _ (by simp only; omega)).trans Hb6.out, by rw [heap_setCell_box, Hd.out]; rfl, (Below.heap_setCell _ _ _ _ (by simp only; omega)).trans Hb8.out⟩
      have hK0 : KeepsOthers w3 (w3.setCell ⟨w.heap.size + 1, 0, none⟩ (.int .i64 (k : Int))) := KeepsOthers.setCell _ _ _
      generalize w3.setCell ⟨w.heap.size + 1, 0, none⟩ (.int .i64 (k : Int)) = W8 at *
      clear y0 y1 y2 y3 y6 y7
      have HX0 := Lib.hid hX0
      have HK0 := Lib.hid hK0
      clear hX0 hK0
      refine wpIn_region_tree (.take [0, 1] (.one 2 (.one 3 (.one 4 .done)))) (fun V => KnX w pre0.length (k : Int) V ∧ KeepsOthers w3 V) _ (by kernel_rfl) (by kernel_rfl) rfl (⟨⟨HX0.out.ext.drew, HX0.out.b6, HX0.out.b7, HX0.out.b8⟩, HK0.out.trans (KeepsOthers.drew _)⟩) ?_
      intro ι _ f hf hs
      have f0 := fun q => ((Ext.refl _).box (hf q).1.b6).1
      have f1 := fun q => ((Ext.refl _).box (hf q).1.b7).1
      have HS := Lib.hid hs
      clear hf hs
      simp only [treeOf, oneOp, twoOp, opsOf, consOp, List.getElem?_toArray, List.getElem?_cons_succ, List.getElem?_cons_zero]
      refine wpOT_take ?_
      repeat (go_big_quiet_step (fail))
      refine wpQuiet_nil ?_
      clear f0 f1
      have hX1 : KnX w pre0.length (k : Int) W8.drew := ⟨HX0.out.ext.drew, HX0.out.b6, HX0.out.b7, HX0.out.b8⟩
      have hK1 : KeepsOthers w3 W8.drew := HK0.out.trans (KeepsOthers.drew _)
      generalize W8.drew = W9 at *
      obtain ⟨y0, y1⟩ := (Ext.refl W9).box hX1.b6
      have l9 := heap_lt hX1.b6
      have hX2 := hX1.same.1
      have hK2 := hK1.trans (KeepsOthers.setCell W9 ⟨w.heap.size, 0, none⟩ (.int .i64 (pre0.length : Int)))
      have HX1 := Lib.hid hX1
      have HX2 := Lib.hid hX2
      have HK2 := Lib.hid hK2
      clear hX1 hX2 hK2
      refine wpOT_one ?_
      go_wp2_with fail
      refine ⟨HS.out _ ⟨HX2.out, HK2.out⟩, ?_⟩
      generalize W9.setCell ⟨w.heap.size, 0, none⟩ (.int .i64 (pre0.length : Int)) = W10 at *
      clear y0 y1 l9
      obtain ⟨y0, y1⟩ := (Ext.refl W10).box HX2.out.b7
      have l9 := heap_lt HX2.out.b7
      have hX3 := HX2.out.same.2.1
      have hK3 := HK2.out.trans (KeepsOthers.setCell W10 ⟨w.heap.size + 1, 0, none⟩ (.int .i64 (k : Int)))
      have HX3 := Lib.hid hX3
      have HK3 := Lib.hid hK3
      clear hX3 hK3
      refine wpOT_one ?_
      go_wp2_with fail
      refine ⟨HS.out _ ⟨HX3.out, HK3.out⟩, ?_⟩
      generalize W10.setCell ⟨w.heap.size + 1, 0, none⟩ (.int .i64 (k : Int)) = W11 at *
      clear y0 y1 l9
      obtain ⟨y0, y1⟩ := (Ext.refl W11).box HX3.out.b8
      have l9 := heap_lt HX3.out.b8
      have hX4 := HX3.out.same.2.2
      have hK4 := HK3.out.trans (KeepsOthers.setCell W11 ⟨w.heap.size + 1 + 1, 0, none⟩ (.int .i64 0))
      have HX4 := Lib.hid hX4
      have HK4 := Lib.hid hK4
      clear hX4 hK4
      refine wpOT_one ?_
      go_wp2_with fail
      refine ⟨HS.out _ ⟨HX4.out, HK4.out⟩, ?_⟩
      refine wpOT_done ?_
      gi_wp2
      exact ⟨HK4.out, rfl, pre0.map (·.1), x, k, by simp, Hno.out, Hf.out, by rw [List.length_map]; exact HX4.out⟩
  case done =>
    rintro D xs0 X hD hxs ⟨hI, hno⟩ hK
    have hxs : xs0.map (·.1) = lineOf l i := hxs
    have hkn := kinF_none hno
    rw [hxs] at hkn
    obtain ⟨d, hd⟩ := hI.b7
    have hb6 := hI.b6
    have hb8 := hI.b8
    have hxI := hI.ext
    obtain ⟨y0, y1⟩ := (Ext.refl X).box hb6
    obtain ⟨y2, y3⟩ := (Ext.refl X).box hd
    obtain ⟨y4, y5⟩ := (Ext.refl X).box hb8
    have l6 := heap_lt hb6
    have l7 := heap_lt hd
    have l8 := heap_lt hb8
    have hDD : w.heap.size ≤ D := by have := Hx7.out.size; omega
    have hh : Hung w.heap.size [{ target := .collected D, args := #[] }] X := ⟨⟨D, rfl, hDD, hK, by simp⟩, trivial⟩
    have hs3 := set3 (x' := .int .i64 0) (y' := .int .i64 0) (z' := .int .i64 6) hb6 hd hb8
    have hx9 := ((hxI.setCell (p := ⟨w.heap.size, 0, none⟩) (by simp only; omega) (.int .i64 0)).setCell (p := ⟨w.heap.size + 1, 0, none⟩) (by simp only; omega) (.int .i64 0)).setCell (p := ⟨w.heap.size + 1 + 1, 0, none⟩) (by simp only; omega) (.int .i64 6)
    have hh9 := ((hh.others (KeepsOthers.setCell X ⟨w.heap.size, 0, none⟩ (.int .i64 0))).others (KeepsOthers.setCell _ ⟨w.heap.size + 1, 0, none⟩ (.int .i64 0))).others (KeepsOthers.setCell _ ⟨w.heap.size + 1 + 1, 0, none⟩ (.int .i64 6))
    clear hI hno hK hh hb6 hd hb8 hxI
    have Hs3 := Lib.hid hs3
    have Hx9 := Lib.hid hx9
    have Hh9 := Lib.hid hh9
    have Hkn := Lib.hid hkn
    clear hs3 hx9 hh9 hkn
    go_wp2_with fail
    generalize ((X.setCell ⟨w.heap.size, 0, none⟩ (.int .i64 0)).setCell ⟨w.heap.size + 1, 0, none⟩ (.int .i64 0)).setCell ⟨w.heap.size + 1 + 1, 0, none⟩ (.int .i64 6) = V2 at *
    refine marks_rets Hh9.out fun w' ht => ?_
    obtain ⟨s6, s7, s8⟩ := Hs3.out
    have c6 := ((Ext.refl w').box (ht.cells _ _ _ _ s6)).1 0
    have c7 := ((Ext.refl w').box (ht.cells _ _ _ _ s7)).1 0
    have c8 := ((Ext.refl w').box (ht.cells _ _ _ _ s8)).1 0
    refine ⟨.tuple #[.int .i64 0, .int .i64 0, .int .i64 6], by simp [results, Tryz.f79, go_sem, c6, c7, c8], ?_, ht.ext Hx9.out (Nat.le_refl _)⟩
    rw [Hko.out, Hkn.out]
  case stop =>
    rintro D e pre X hD hp ⟨rfl, pre0, x, d, h1, h2, h3, h4⟩ hK
    obtain ⟨r, hr⟩ := hp
    have hkn := kinF_hit (r := r) h2 h3
    have hLi : lineOf l i = pre0 ++ x :: r := by
      rw [← hr]
      show pre.map (·.1) ++ r = _
      rw [h1]
      simp
    rw [← hLi] at hkn
    have hDD : w.heap.size ≤ D := by have := Hx7.out.size; omega
    have hh : Hung w.heap.size [{ target := .collected D, args := #[] }] X := ⟨⟨D, rfl, hDD, hK, by simp⟩, trivial⟩
    have Hkn := Lib.hid hkn
    have H4 := Lib.hid h4
    have Hh := Lib.hid hh
    clear hkn h4 hh
    clear h1 h2 h3 hr hLi hK
    refine wpIn_wide.2 ?_
    go_wp2_with fail
    refine marks_rets Hh.out fun w' ht => ?_
    have c6 := ((Ext.refl w').box (ht.cells _ _ _ _ H4.out.b6)).1 0
    have c7 := ((Ext.refl w').box (ht.cells _ _ _ _ H4.out.b7)).1 0
    have c8 := ((Ext.refl w').box (ht.cells _ _ _ _ H4.out.b8)).1 0
    refine ⟨.tuple #[.int .i64 (pre0.length : Int), .int .i64 (d : Int), .int .i64 0], by simp [results, Tryz.f79, go_sem, c6, c7, c8], ?_, ht.ext H4.out.ext (Nat.le_refl _)⟩
    rw [Hkn.out]
end Go.Proofs.YtcoelhpmkhimpaaGreatDoor

namespace Go.Proofs.YtcoelhpmkhimpaaGreatDoor
open Go.RowKit
set_option linter.unusedVariables false
set_option linter.unusedSimpArgs false
theorem rangd_any (a b : Int) (w : World) : Calls Tryz.prog 12 #[.int .i64 a, .int .i64 b] w fun e w' => e = .returned (.agg #[.int .i64 a, .int .i64 b]) ∧ Ext w w' := by
  go_enter Tryz.func12, Tryz.ntmps12
  go_wp2_with fail
  refine bodyPost_ret (results_cell_row rfl _ _ w.heap.size 23 #[.int .i64 a, .int .i64 b] (0, 0) _ rfl (heap_alloc_new w _) Tryz.underlying23 rfl (by kernel_rfl)) rfl ?_
  exact ⟨rfl, (Ext.refl _).alloc _⟩
def familyL : List Animal := [⟨1, -1, ⟨0, 0⟩, []⟩, ⟨2, 1, ⟨1400, 2000⟩, []⟩, ⟨3, 2, ⟨3000, 4000⟩, []⟩, ⟨9, -1, ⟨0, 0⟩, []⟩]
theorem family_ok : HerdOk familyL := by
  have hm : ∀ l : List Mark, l = [] → MarksOk l := fun l h => by subst h; intro k m hm; simp at hm
  have hl : familyL.length = 4 := rfl
  refine ⟨by decide, fun i a h => ?_, fun i hi => ?_⟩
  · have hi : i < 4 := (List.getElem?_eq_some_iff.1 h).1
    have : i = 0 ∨ i = 1 ∨ i = 2 ∨ i = 3 := by omega
    rcases this with rfl | rfl | rfl | rfl <;> (cases h; exact ⟨by decide, by decide, by first | exact .inl rfl | exact .inr ⟨0, by decide⟩ | exact .inr ⟨1, by decide⟩, by decide, hm _ rfl⟩)
  · rw [hl] at hi
    have h0 : Line familyL 0 [0] := .root (by decide)
    have h1 : Line familyL 1 [1, 0] := .step (by decide) h0
    have : i = 0 ∨ i = 1 ∨ i = 2 ∨ i = 3 := by omega
    rcases this with rfl | rfl | rfl | rfl
    · exact ⟨_, h0⟩
    · exact ⟨_, h1⟩
    · exact ⟨_, .step (by decide) h1⟩
    · exact ⟨_, .root (by decide)⟩
theorem family_kin : kinOf familyL 2 0 = (2, 0, 0) := by decide
theorem family_mange : mangeOf 2 [0] [⟨0, 1, 5, true⟩] ⟨3, 4⟩ 9 = [2, 2] := by decide
theorem family_at {V : World} {b : Nat} (h : V.heap[b]? = some (.cells #[.int .i64 1, .int .i64 (-1), .int .i64 0, .int .i64 0, .slice none 0 0, .int .i64 2, .int .i64 1, .int .i64 1400, .int .i64 2000, .slice none 0 0, .int .i64 3, .int .i64 2, .int .i64 3000, .int .i64 4000, .slice none 0 0, .int .i64 9, .int .i64 (-1), .int .i64 0, .int .i64 0, .slice none 0 0] 180 (0, 0))) :
    AnimalsAt V (some ⟨b, 0, none⟩) 4 familyL := by
  refine ⟨rfl, fun _ => ⟨b, 0, rfl, fun k f hf => ?_⟩⟩
  have hk : k < 4 := (List.getElem?_eq_some_iff.1 hf).1
  have : k = 0 ∨ k = 1 ∨ k = 2 ∨ k = 3 := by omega
  rcases this with rfl | rfl | rfl | rfl <;>
  · cases hf
    refine ⟨none, 0, 0, fun j v hv => ?_, by decide, by decide, rfl, fun h => by omega⟩
    have hj : j < 5 := (List.getElem?_eq_some_iff.1 hv).1
    have : j = 0 ∨ j = 1 ∨ j = 2 ∨ j = 3 ∨ j = 4 := by omega
    rw [cell_of_row _ _ _ _ _ _ h]
    rcases this with rfl | rfl | rfl | rfl | rfl <;> (cases hv; rfl)
theorem family_any (w : World) : Calls Tryz.prog 80 #[] w fun e w' => ∃ b, e = .returned (.slice (some ⟨b, 0, none⟩) 4 4) ∧ Ext w w' ∧ AnimalsAt w' (some ⟨b, 0, none⟩) 4 familyL := by
  have hr := rangd_any
  have Hr := Lib.hid hr
  clear hr
  go_enter Tryz.func80, Tryz.ntmps80
  go_wp2_with (go_at_call 12; refine (Hr.out _ _ _).mono ?_; rintro e w1 ⟨rfl, hx1⟩)
  go_ret
  refine ⟨_, rfl, Ext.alloc (Ext.trans (by assumption) (by assumption)) _, family_at (heap_alloc_new _ _)⟩
theorem meets_one {V : World} {b : Nat} {m : Meet} (h : V.heap[b]? = some (.cells #[.int .i64 m.a, .int .i64 m.b, .int .i64 m.day, .bool m.close] 145 (0, 0))) : MeetsAt V (some ⟨b, 0, none⟩) 1 [m] := by
  refine ⟨rfl, fun _ => ⟨b, 0, rfl, fun k hk j v hv => ?_⟩⟩
  obtain rfl : k = 0 := by omega
  rw [cell_of_row _ _ _ _ _ _ h, ← hv]
  simp [Meet.cells]
set_option maxRecDepth 100000 in
theorem alive02_any (w : World) : Calls Tryz.prog 48 #[] w fun e w' => e = .returned (.bool true) ∧ Ext w w' := by
  have hr := rangd_any
  have hf := family_any
  have hk := fun (V : World) (b : Nat) (h : AnimalsAt V (some ⟨b, 0, none⟩) 4 familyL) => kin_any (w := V) (c := 4) (l := familyL) family_ok h (by decide) (ida := 3) (idb := 1) (i := 2) (j := 0) (by decide) (by decide)
  rw [family_kin, show familyL.length = 4 from rfl] at hk
  have hm := fun (V : World) (b1 b2 : Nat) (h1 : V.heap[b1]? = some (.cells #[.int .i64 0] 3 (0, 0))) (h2 : MeetsAt V (some ⟨b2, 0, none⟩) 1 [⟨0, 1, 5, true⟩]) => mange_any 2 (some ⟨b1, 0, none⟩) 1 1 [0] (some ⟨b2, 0, none⟩) 1 1 [⟨0, 1, 5, true⟩] 3 4 9 V (ints_built (l := [0]) h1) h2 (by simp) (fun x hx => by cases hx; exact ⟨_, _, rfl⟩)
    ⟨by decide, by decide, by decide, ⟨by decide, by simp⟩, ⟨by decide, fun m hm => by simp at hm; subst hm; exact ⟨by decide, by decide, by decide, by decide⟩⟩, fun m hm => by simp at hm; subst hm; rfl⟩
  unfold MangePost at hm
  rw [family_mange] at hm
  have Hr := Lib.hid hr
  have Hf := Lib.hid hf
  have Hk := Lib.hid hk
  have Hm := Lib.hid hm
  clear hr hf hk hm
  go_enter Tryz.func48, Tryz.ntmps48
  go_upto_region 2 with (first
    | (have q := hx1; clear q; go_at_call 79; refine (Hk.out _ _ ha1).mono ?_; rintro e w2 ⟨rfl, hx2⟩)
    | (go_at_call 80; refine (Hf.out _).mono ?_; rintro e w1 ⟨b, rfl, hx1, ha1⟩))
  have hxa := hx1.trans hx2
  have Hxa := Lib.hid hxa
  clear hxa
  clear hx1 hx2 ha1 Hf Hk
  go_upto_region 3 with (first
    | (go_at_call 12; refine (Hr.out _ _ _).mono ?_; rintro e w4 ⟨rfl, hx4⟩)
    | (go_at_call 81; refine (Hm.out _ _ _ (hx4.heap (((Ext.refl _).alloc _).heap (heap_alloc_new _ _))) (meets_one (m := ⟨0, 1, 5, true⟩) (hx4.heap (alloc_at _ _ _ (by simp))))).mono ?_; rintro e w5 ⟨g, rfl, hx5, hg5, hi5⟩))
  have hcv : (convert 141 9 (.slice (some ⟨g, 0, none⟩) 2 2)).run Tryz.prog w5 = .ok (.string ⟨#[2, 2]⟩) w5 := by
    refine run_convert_bytes_back w5 141 9 5 ⟨g, 0, none⟩ 2 [2, 2] Tryz.underlying141 Tryz.underlying5 Tryz.underlying9 (fun j hj => ?_)
    obtain ⟨b, off, x, e1, e2, _, e4⟩ := hi5.get j hj
    cases e1
    rw [addr_add', e4]
    have hj2 : j = 0 ∨ j = 1 := by simp at hj; omega
    rcases hj2 with rfl | rfl <;> (cases e2; rfl)
  have hxb := Hxa.out.trans (((Ext.refl w2).alloc _).alloc _ |>.trans hx4 |>.trans hx5)
  have Hxb := Lib.hid hxb
  clear hxb
  clear hx4 hx5 hi5 Hm Hr Hxa
  go_wp2_with fail
  go_ret
  exact ⟨rfl, Hxb.out⟩
end Go.Proofs.YtcoelhpmkhimpaaGreatDoor
