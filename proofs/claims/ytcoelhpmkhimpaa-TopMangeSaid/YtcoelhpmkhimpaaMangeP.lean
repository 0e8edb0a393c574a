/- Mange (layer 1), in plain words: meetings in order of their days, and what they pass on. No function of the program is named here. -/
import Derived.Test.YtcoelhpmkhimpaaHerdP
namespace Go.Proofs.Ytcoelhpmkhimpaa
set_option linter.unusedVariables false
structure Meet where
  a : Int
  b : Int
  day : Int
  close : Bool
  deriving DecidableEq
/-- put behind all that are not later (the list is turned round: the latest one first) -/
def insRev : List Meet → Meet → List Meet
  | [], m => [m]
  | x :: r, m => if m.day < x.day then x :: insRev r m else m :: x :: r
def sortRev (l : List Meet) : List Meet := l.foldl insRev []
def sortM (l : List Meet) : List Meet := (sortRev l).reverse
def closeM (l : List Meet) : List Meet := l.filter (·.close)
def getI (s : List Int) (p : Int) : Int := s.getD p.toNat 0
def passOn (wait p q day : Int) (s : List Int) : List Int := if getI s p ≤ day then s.set q.toNat (min (getI s q) (day + wait)) else s
def spreadL (wait last : Int) : List Meet → List Int → List Int
  | [], s => s
  | m :: r, s => if last < m.day then s else spreadL wait last r (passOn wait m.b m.a m.day (passOn wait m.a m.b m.day s))
def sickAt (n : Nat) (first : List Int) : List Int := first.foldl (fun s i => s.set i.toNat 0) (List.replicate n 100061)
def spreadOf (n : Nat) (first : List Int) (l : List Meet) (wait last : Int) : List Int := spreadL wait last l (sickAt n first)
def knownAt (early late : List Int) (day : Int) (i : Nat) : Int := if late.getD i 0 ≤ day then 2 else if early.getD i 0 ≤ day then 1 else 0
def mangeOf (n : Nat) (first : List Int) (l : List Meet) (wait : Span) (day : Int) : List Int :=
  (List.range n).map (knownAt (spreadOf n first (sortM l) wait.lo day) (spreadOf n first (closeM (sortM l)) wait.hi day) day)
structure MeetOk (n : Nat) (m : Meet) : Prop where
  a : 0 ≤ m.a ∧ m.a < n
  b : 0 ≤ m.b ∧ m.b < n
  ne : m.a ≠ m.b
  day : 0 ≤ m.day ∧ m.day ≤ 100000
theorem insRev_mem {l : List Meet} {m x : Meet} : x ∈ insRev l m ↔ x = m ∨ x ∈ l := by
  induction l with
  | nil => simp [insRev]
  | cons y r ih =>
    unfold insRev
    split
    · simp only [List.mem_cons, ih]
      constructor
      · rintro (h | h | h) <;> simp [h]
      · rintro (h | h | h) <;> simp [h]
    · simp only [List.mem_cons]
theorem insRev_len (l : List Meet) (m : Meet) : (insRev l m).length = l.length + 1 := by
  induction l with
  | nil => rfl
  | cons y r ih =>
    unfold insRev
    split
    · simp [ih]
    · rfl
/-- the latest one first -/
def Falls : List Meet → Prop := List.Pairwise fun x y => y.day ≤ x.day
theorem insRev_falls {l : List Meet} {m : Meet} (h : Falls l) : Falls (insRev l m) := by
  induction l with
  | nil => exact List.pairwise_singleton _ _
  | cons y r ih =>
    have h' := List.pairwise_cons.1 h
    unfold insRev
    split
    · rename_i hlt
      refine List.pairwise_cons.2 ⟨fun x hx => ?_, ih h'.2⟩
      rcases insRev_mem.1 hx with rfl | hx
      · omega
      · exact h'.1 x hx
    · rename_i hlt
      refine List.pairwise_cons.2 ⟨fun x hx => ?_, h⟩
      rcases List.mem_cons.1 hx with rfl | hx
      · omega
      · have := h'.1 x hx
        omega
theorem foldIns : ∀ (l acc : List Meet), Falls acc → Falls (l.foldl insRev acc) ∧ (∀ x, x ∈ l.foldl insRev acc ↔ x ∈ acc ∨ x ∈ l) ∧ (l.foldl insRev acc).length = acc.length + l.length
  | [], acc, h => ⟨h, by simp, by simp⟩
  | m :: r, acc, h => by
    obtain ⟨h1, h2, h3⟩ := foldIns r (insRev acc m) (insRev_falls h)
    refine ⟨h1, fun x => ?_, ?_⟩
    · rw [List.foldl_cons, h2 x, insRev_mem, List.mem_cons]
      constructor
      · rintro ((h | h) | h) <;> simp [h]
      · rintro (h | h | h) <;> simp [h]
    · rw [List.foldl_cons, h3, insRev_len, List.length_cons]
      omega
theorem sortM_mem {l : List Meet} {x : Meet} : x ∈ sortM l ↔ x ∈ l := by
  unfold sortM sortRev
  rw [List.mem_reverse, (foldIns l [] List.Pairwise.nil).2.1 x]
  simp
theorem sortM_len (l : List Meet) : (sortM l).length = l.length := by
  unfold sortM sortRev
  rw [List.length_reverse, (foldIns l [] List.Pairwise.nil).2.2]
  simp
def Rises : List Meet → Prop := List.Pairwise fun x y => x.day ≤ y.day
theorem sortM_rises (l : List Meet) : Rises (sortM l) := by
  unfold sortM sortRev Rises
  rw [List.pairwise_reverse]
  exact (foldIns l [] List.Pairwise.nil).1
theorem passOn_len (wait p q day : Int) (s : List Int) : (passOn wait p q day s).length = s.length := by
  unfold passOn
  split <;> simp
theorem spreadL_len (wait last : Int) : ∀ (l : List Meet) (s : List Int), (spreadL wait last l s).length = s.length
  | [], s => rfl
  | m :: r, s => by
    unfold spreadL
    split
    · rfl
    · rw [spreadL_len wait last r, passOn_len, passOn_len]
theorem foldSet_len : ∀ (first : List Int) (s : List Int), (first.foldl (fun s i => s.set i.toNat 0) s).length = s.length
  | [], s => rfl
  | i :: r, s => by rw [List.foldl_cons, foldSet_len r]; simp
theorem sickAt_len (n : Nat) (first : List Int) : (sickAt n first).length = n := by
  unfold sickAt
  rw [foldSet_len]
  simp
end Go.Proofs.Ytcoelhpmkhimpaa
