/- Layer 2, in plain words: herds, lines of mothers, kin. No function of the program is named here. -/
import Derived.Test.YtcoelhpmkhimpaaCam
namespace Go.Proofs.Ytcoelhpmkhimpaa
set_option linter.unusedVariables false
structure Mark where
  spot : Int
  sign : Int
  deriving DecidableEq
structure Animal where
  id : Int
  mother : Int
  born : Span
  marks : List Mark
  deriving DecidableEq
/-- the k-th mark of an animal is valid, and no elder one is on its spot -/
def MarkIs (l : List Mark) (k : Nat) : Prop := ∀ m, l[k]? = some m → (0 ≤ m.spot ∧ m.spot ≤ 7) ∧ (1 ≤ m.sign ∧ m.sign ≤ 20) ∧ ∀ j x, j < k → l[j]? = some x → x.spot ≠ m.spot
def MarksOk (l : List Mark) : Prop := ∀ k, MarkIs l k
/-- where the animal with this Id is -/
def placeOf (l : List Animal) (id : Int) : Option Nat := l.findIdx? fun a => a.id == id
def atOf (l : List Animal) (id : Int) : Int := match placeOf l id with | some j => (j : Int) | none => -1
/-- the place of an animal's mother -/
def mom (l : List Animal) (i : Nat) : Option Nat := match l[i]? with | none => none | some a => if a.mother = -1 then none else placeOf l a.mother
def momI (l : List Animal) (i : Nat) : Int := match mom l i with | some j => (j : Int) | none => -1
structure AnimalOk (l : List Animal) (i : Nat) (a : Animal) : Prop where
  id : 0 ≤ a.id ∧ a.id ≤ 9999
  at' : placeOf l a.id = some i
  dam : a.mother = -1 ∨ ∃ j, placeOf l a.mother = some j
  born : -100000 ≤ a.born.lo ∧ a.born.lo ≤ a.born.hi ∧ a.born.hi ≤ 100000
  marks : MarksOk a.marks
/-- an animal, its mother, and so on -/
inductive Line (l : List Animal) : Nat → List Nat → Prop where
  | root {i : Nat} (h : mom l i = none) : Line l i [i]
  | step {i m : Nat} {L : List Nat} (h : mom l i = some m) (t : Line l m L) : Line l i (i :: L)
structure HerdOk (l : List Animal) : Prop where
  len : l.length ≤ 16
  each : ∀ i a, l[i]? = some a → AnimalOk l i a
  line : ∀ i, i < l.length → ∃ L, Line l i L
def lineF (l : List Animal) : Nat → Nat → List Nat
  | 0, _ => []
  | f + 1, i => i :: (match mom l i with | none => [] | some m => lineF l f m)
def lineOf (l : List Animal) (i : Nat) : List Nat := lineF l l.length i
theorem placeOf_lt {l : List Animal} {id : Int} {j : Nat} (h : placeOf l id = some j) : j < l.length := by
  unfold placeOf at h
  rw [List.findIdx?_eq_some_iff_getElem] at h
  exact h.1
theorem placeOf_get {l : List Animal} {id : Int} {j : Nat} (h : placeOf l id = some j) : ∃ a, l[j]? = some a ∧ a.id = id := by
  unfold placeOf at h
  rw [List.findIdx?_eq_some_iff_getElem] at h
  obtain ⟨h1, h2, _⟩ := h
  exact ⟨l[j], List.getElem?_eq_getElem h1, by simpa using h2⟩
theorem placeOf_none {l : List Animal} {id : Int} (h : placeOf l id = none) : ∀ a ∈ l, a.id ≠ id := by
  unfold placeOf at h
  rw [List.findIdx?_eq_none_iff] at h
  intro a ha
  simpa using h a ha
theorem mom_lt {l : List Animal} {i m : Nat} (h : mom l i = some m) : m < l.length := by
  unfold mom at h
  split at h
  · cases h
  · split at h
    · cases h
    · exact placeOf_lt h
theorem Line.len_pos {l : List Animal} {i : Nat} {L : List Nat} (h : Line l i L) : 0 < L.length := by cases h <;> simp
theorem Line.det {l : List Animal} {i : Nat} {L M : List Nat} (h : Line l i L) (k : Line l i M) : L = M := by
  induction h generalizing M with
  | root h =>
    cases k with
    | root => rfl
    | step h' => rw [h] at h'; cases h'
  | step h t ih =>
    cases k with
    | root h' => rw [h] at h'; cases h'
    | step h' t' =>
      rw [h] at h'
      cases h'
      rw [ih t']
/-- what lies on a line has a shorter line of its own -/
theorem Line.sub {l : List Animal} {i : Nat} {L : List Nat} (h : Line l i L) : ∀ x ∈ L, ∃ M, Line l x M ∧ M.length ≤ L.length ∧ (M.length = L.length → x = i) := by
  induction h with
  | root h =>
    intro x hx
    simp at hx
    subst hx
    exact ⟨_, .root h, by simp, fun _ => rfl⟩
  | @step i m L h t ih =>
    intro x hx
    rcases List.mem_cons.1 hx with rfl | hx
    · exact ⟨_, .step h t, Nat.le_refl _, fun _ => rfl⟩
    · obtain ⟨M, h1, h2, h3⟩ := ih x hx
      exact ⟨M, h1, by simp; omega, fun e => by simp at e; omega⟩
theorem Line.nodup {l : List Animal} {i : Nat} {L : List Nat} (h : Line l i L) : L.Nodup := by
  induction h with
  | root h => simp
  | @step i m L h t ih =>
    refine List.nodup_cons.2 ⟨fun hx => ?_, ih⟩
    obtain ⟨M, h1, h2, _⟩ := t.sub i hx
    have e := h1.det (.step h t)
    rw [e] at h2
    simp at h2
    omega
theorem Line.lt {l : List Animal} {i : Nat} {L : List Nat} (h : Line l i L) (hi : i < l.length) : ∀ x ∈ L, x < l.length := by
  induction h with
  | root h => intro x hx; simp at hx; omega
  | @step i m L h t ih =>
    intro x hx
    rcases List.mem_cons.1 hx with rfl | hx
    · exact hi
    · exact ih (mom_lt h) x hx
theorem nodup_len : ∀ (n : Nat) (L : List Nat), L.Nodup → (∀ x ∈ L, x < n) → L.length ≤ n
  | 0, L, _, h => by
    cases L with
    | nil => simp
    | cons x r => exact absurd (h x (by simp)) (by omega)
  | n + 1, L, hd, h => by
    have ih := nodup_len n (L.erase n) (hd.erase n) fun x hx => by
      have h1 := h x (List.mem_of_mem_erase hx)
      have h2 : x ≠ n := fun e => by
        subst e
        exact absurd hx (List.Nodup.not_mem_erase hd)
      omega
    have := List.length_erase (a := n) (l := L)
    split at this <;> omega
theorem Line.len {l : List Animal} {i : Nat} {L : List Nat} (h : Line l i L) (hi : i < l.length) : L.length ≤ l.length := nodup_len _ _ h.nodup (h.lt hi)
theorem lineF_is {l : List Animal} {i : Nat} {L : List Nat} (h : Line l i L) : ∀ f, L.length ≤ f → lineF l f i = L := by
  induction h with
  | @root i h =>
    intro f hf
    cases f with
    | zero => simp at hf
    | succ f => simp [lineF, h]
  | @step i m L h t ih =>
    intro f hf
    cases f with
    | zero => simp at hf
    | succ f =>
      simp only [lineF, h]
      rw [ih f (by simp at hf; omega)]
theorem HerdOk.lineIs {l : List Animal} (h : HerdOk l) {i : Nat} (hi : i < l.length) : Line l i (lineOf l i) := by
  obtain ⟨L, hL⟩ := h.line i hi
  unfold lineOf
  rw [lineF_is hL _ (hL.len hi)]
  exact hL
/-- how two animals are kin: up from the one, down to the other one, and the error -/
def kinF (theirs : List Nat) : List Nat → Nat → Int × Int × Int
  | [], _ => (0, 0, 6)
  | x :: r, up => match theirs.findIdx? (· == x) with | some d => ((up : Int), (d : Int), 0) | none => kinF theirs r (up + 1)
def kinOf (l : List Animal) (i j : Nat) : Int × Int × Int := kinF (lineOf l j) (lineOf l i) 0
theorem kin_from {T : List Nat} : ∀ {L : List Nat} {k : Nat}, (kinF T L k).2.2 = 0 → (kinF T L k).2.1 = 0 → ∃ x ∈ L, T[0]? = some x
  | [], k, h, _ => by simp [kinF] at h
  | x :: r, k, h, h0 => by
    unfold kinF at h h0
    cases e : T.findIdx? (· == x) with
    | none =>
      rw [e] at h h0
      obtain ⟨y, hy, ht⟩ := kin_from h h0
      exact ⟨y, List.mem_cons_of_mem _ hy, ht⟩
    | some d =>
      rw [e] at h0
      simp only at h0
      have hd : d = 0 := by omega
      subst hd
      rw [List.findIdx?_eq_some_iff_getElem] at e
      obtain ⟨h1, h2, _⟩ := e
      exact ⟨x, by simp, by rw [List.getElem?_eq_getElem h1]; simp at h2; rw [h2]⟩
theorem kin_none {T : List Nat} : ∀ {L : List Nat} {k : Nat}, (kinF T L k).2.2 = 6 → ∀ x ∈ L, x ∉ T
  | [], k, _ => by simp
  | x :: r, k, h => by
    unfold kinF at h
    cases e : T.findIdx? (· == x) with
    | none =>
      rw [e] at h
      rw [List.findIdx?_eq_none_iff] at e
      intro y hy
      rcases List.mem_cons.1 hy with rfl | hy
      · intro hT
        have := e _ hT
        simp at this
      · exact kin_none h y hy
    | some d =>
      rw [e] at h
      simp at h
end Go.Proofs.Ytcoelhpmkhimpaa
