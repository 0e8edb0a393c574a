/- Clash: what is plain, and the lists in memory. -/
import Derived.Test.YtacdndehlkaaeaaVRules
import Derived.Test.YtacdndehlkaaeaaVCheck
namespace Go.Proofs.Ytacdndehlkaaeaa
open Go.RowKit
set_option linter.unusedVariables false
set_option linter.unusedSimpArgs false

theorem info22 : (Try.prog.info? 22).map (fun i => (i.zero, i.size, i.bytes)) = some (some (.slice none 0 0), 1, 24) := by kernel_rfl
theorem elem104 : Elem Try.prog 104 22 1 := by
  obtain ⟨i, h1, h2, h3, h4⟩ := info_parts info22
  exact ⟨Try.underlying104, ⟨i, _, _, h1, h2, h3, h4, rfl, by decide⟩, by decide⟩
theorem info3 : (Try.prog.info? 3).map (fun i => (i.zero, i.size, i.bytes)) = some (some (.int .i64 0), 1, 8) := by kernel_rfl
theorem elem39 : Elem Try.prog 39 3 1 := by
  obtain ⟨i, h1, h2, h3, h4⟩ := info_parts info3
  exact ⟨Try.underlying39, ⟨i, _, _, h1, h2, h3, h4, rfl, by decide⟩, by decide⟩
/-- the area's halves and those of each look that is not out -/
def listsBut (l : List Half) (looks : List Sight) (out : Nat → Bool) : List (List Half) := l :: (List.range looks.length).map fun i => if out i then [] else halvesOf (looks.getD i zl)
theorem listsBut_flat (l : List Half) (looks : List Sight) (out : Nat → Bool) : (listsBut l looks out).flatten = allBut l looks out := by
  unfold listsBut allBut
  rw [List.flatten_cons, List.flatMap_def]
  rfl
theorem listsBut_len (l : List Half) (looks : List Sight) (out : Nat → Bool) : (listsBut l looks out).length = looks.length + 1 := by simp [listsBut]
theorem listsBut_zero (l : List Half) (looks : List Sight) (out : Nat → Bool) : (listsBut l looks out).getD 0 [] = l := rfl
theorem listsBut_succ (l : List Half) (looks : List Sight) (out : Nat → Bool) {i : Nat} (h : i < looks.length) : (listsBut l looks out).getD (i + 1) [] = if out i then [] else halvesOf (looks.getD i zl) := by
  simp [listsBut, List.getD, h]
theorem allBut_in {l : List Half} {looks : List Sight} (hl : ∀ h ∈ l, HalfIn h) (hs : ∀ i, i < looks.length → sightOk (looks.getD i zl) = true) (out : Nat → Bool) : ∀ h ∈ (listsBut l looks out).flatten, HalfIn h := by
  intro h hh
  obtain ⟨x, hx, hh'⟩ := List.mem_flatten.1 hh
  rcases List.mem_cons.1 hx with e | hx
  · rw [e] at hh'
    exact hl h hh'
  · obtain ⟨i, hi, rfl⟩ := List.mem_map.1 hx
    rw [List.mem_range] at hi
    split at hh'
    · cases hh'
    · exact halves_ok (hs i hi) h hh'
theorem flat_len4 : ∀ (ls : List (List Half)), (∀ x ∈ ls, x.length ≤ 4) → ls.flatten.length ≤ 4 * ls.length
  | [], _ => by simp
  | x :: r, h => by
    have h1 := flat_len4 r fun y hy => h y (List.mem_cons_of_mem _ hy)
    have h2 := h x List.mem_cons_self
    rw [List.flatten_cons, List.length_append, List.length_cons]
    omega
theorem allBut_len {l : List Half} {looks : List Sight} (hl : l.length ≤ 40) (hn : looks.length ≤ 10) (out : Nat → Bool) : (listsBut l looks out).flatten.length ≤ 1000 := by
  have h1 := flat_len4 ((List.range looks.length).map fun i => if out i then [] else halvesOf (looks.getD i zl)) fun x hx => by
    obtain ⟨i, _, rfl⟩ := List.mem_map.1 hx
    split
    · exact Nat.zero_le _
    · exact (halves_len _).2
  unfold listsBut
  rw [List.flatten_cons, List.length_append]
  rw [List.length_map, List.length_range] at h1
  omega
/-! ### outTo -/
theorem outTo_late (l : List Half) (looks : List Sight) : ∀ (k i : Nat), k ≤ i → outTo l looks k i = false
  | 0, _, _ => rfl
  | k + 1, i, h => by
    simp only [outTo]
    rw [if_neg (by omega)]
    exact outTo_late l looks k i (by omega)
theorem outTo_succ_ne (l : List Half) (looks : List Sight) {k i : Nat} (h : i ≠ k) : outTo l looks (k + 1) i = outTo l looks k i := by
  simp only [outTo]
  rw [if_neg h]
theorem outTo_succ_eq (l : List Half) (looks : List Sight) (k : Nat) : outTo l looks (k + 1) k = !someB (allBut l looks fun j => j == k || outTo l looks k j) := by
  simp only [outTo, if_true]
/-- those that are not out, of the first k -/
def setTo (l : List Half) (looks : List Sight) (k : Nat) : List Int := ((List.range k).filter fun i => !outTo l looks k i).map fun i : Nat => (i : Int)
theorem setTo_succ (l : List Half) (looks : List Sight) (k : Nat) : setTo l looks (k + 1) = setTo l looks k ++ if outTo l looks (k + 1) k then [] else [(k : Int)] := by
  unfold setTo
  rw [List.range_succ, List.filter_append, List.map_append]
  congr 1
  · congr 1
    refine List.filter_congr fun i hi => ?_
    rw [List.mem_range] at hi
    rw [outTo_succ_ne l looks (by omega)]
  · cases h : outTo l looks (k + 1) k <;> simp [h]
theorem setTo_len (l : List Half) (looks : List Sight) (k : Nat) : (setTo l looks k).length ≤ k := by
  unfold setTo
  rw [List.length_map]
  exact Nat.le_trans (List.length_filter_le _ _) (by simp)
/-! ### a list's value -/
def Row (W : World) (own : Option Nat) (S : Nat) (v : Value) (x : List Half) : Prop :=
  ∃ ka kn kc, v = .slice ka kn kc ∧ kn ≤ kc ∧ kc ≤ maxLen ∧ HalvesAt W ka kn x ∧ ∀ y, ka = some y → own ≠ some y.block ∧ y.block < S
theorem Row.nil (W : World) (own : Option Nat) (S : Nat) : Row W own S (.slice none 0 0) [] := ⟨none, 0, 0, rfl, Nat.le_refl _, Nat.zero_le _, ⟨rfl, fun h => absurd h (by simp)⟩, fun y h => by cases h⟩
theorem Row.ext {W W' : World} {own : Option Nat} {S S' : Nat} {v : Value} {x : List Half} (h : Row W own S v x) (hx : Ext W W') (hs : S ≤ S') : Row W' own S' v x :=
  let ⟨ka, kn, kc, h1, h2, h3, h4, h5⟩ := h; ⟨ka, kn, kc, h1, h2, h3, h4.ext hx, fun y hy => ⟨(h5 y hy).1, Nat.lt_of_lt_of_le (h5 y hy).2 hs⟩⟩
theorem Row.set {W : World} {b S i : Nat} {u v : Value} {x : List Half} (h : Row W (some b) S v x) : Row (W.setCell ⟨b, i, none⟩ u) (some b) S v x :=
  let ⟨ka, kn, kc, h1, h2, h3, h4, h5⟩ := h; ⟨ka, kn, kc, h1, h2, h3, h4.same fun y hy => Below.heap_setCell _ _ _ _ fun e => (h5 y hy).1 (by rw [e]), h5⟩
/-- a list grows: what lies in other blocks stays -/
theorem Row.grown {W W' : World} {own own' : Option Nat} {S S' : Nat} {v : Value} {x : List Half} (h : Row W own S v x) (hs : S ≤ W.heap.size) (hg : W.grownBy W' own) (ho : own' = own ∨ own' = some W.heap.size) (hs' : S ≤ S') : Row W' own' S' v x :=
  let ⟨ka, kn, kc, h1, h2, h3, h4, h5⟩ := h
  ⟨ka, kn, kc, h1, h2, h3, h4.same fun y hy => hg.block y.block (by have := (h5 y hy).2; omega) fun e => (h5 y hy).1 e.symm, fun y hy => ⟨by
    rcases ho with rfl | rfl
    · exact (h5 y hy).1
    · intro e
      have := (h5 y hy).2
      simp only [Option.some.injEq] at e
      omega, Nat.lt_of_lt_of_le (h5 y hy).2 hs'⟩⟩
/-- another list grows -/
theorem Row.beside {W W' : World} {own row : Option Nat} {S : Nat} {v : Value} {x : List Half} (h : Row W own S v x) (hs : S ≤ W.heap.size) (hg : W.grownBy W' row) (hr : ∀ g, row = some g → S ≤ g) : Row W' own S v x :=
  let ⟨ka, kn, kc, h1, h2, h3, h4, h5⟩ := h
  ⟨ka, kn, kc, h1, h2, h3, h4.same fun y hy => hg.block y.block (by have := (h5 y hy).2; omega) fun e => by have := (h5 y hy).2; have := hr _ e.symm; omega, h5⟩
/-- lists in a block -/
def ListRows (W : World) (b cap S : Nat) (ls : List (List Half)) : Prop :=
  ∃ cur : Array Value, W.heap[b]? = some (.cells cur 22 (0, 0)) ∧ cur.size = cap ∧ ∀ j, j < ls.length → ∃ u, cur[j]? = some u ∧ Row W (some b) S u (ls.getD j [])
theorem ListRows.lists {W : World} {b cap S : Nat} {ls : List (List Half)} (h : ListRows W b cap S ls) : ListsAt W (some ⟨b, 0, none⟩) ls.length ls := by
  obtain ⟨cur, hb, _, hr⟩ := h
  refine ⟨rfl, fun _ => ⟨b, 0, rfl, fun k r hk => ?_⟩⟩
  have hkl : k < ls.length := by
    rcases Nat.lt_or_ge k ls.length with h | h
    · exact h
    · rw [List.getElem?_eq_none h] at hk; cases hk
  obtain ⟨u, hu, ka, kn, kc, rfl, h2, h3, h4, _⟩ := hr k hkl
  rw [show ls.getD k [] = r by simp [List.getD, hk]] at h4
  refine ⟨ka, kn, kc, fun j v hv => ?_, h2, h3, h4⟩
  cases j with
  | zero =>
    cases hv
    rw [Nat.zero_add, Nat.mul_one, Nat.add_zero, cell_of_row W b k _ 22 (0, 0) hb]
    exact hu
  | succ j => simp at hv
theorem ListRows.put {W : World} {b cap S j : Nat} {ls ls' : List (List Half)} {u : Value} {x : List Half} (h : ListRows W b cap S ls) (hj : j < ls.length) (hx : Row W (some b) S u x) (hl : ls'.length = ls.length) (h1 : ls'.getD j [] = x) (h2 : ∀ i, i ≠ j → i < ls.length → ls'.getD i [] = ls.getD i []) :
    ListRows (W.setCell ⟨b, j, none⟩ u) b cap S ls' := by
  obtain ⟨cur, hb, hc, hr⟩ := h
  obtain ⟨u0, hu0, _⟩ := hr j hj
  have hjc : j < cur.size := by
    rcases Nat.lt_or_ge j cur.size with h | h
    · exact h
    · rw [Array.getElem?_eq_none h] at hu0; cases hu0
  refine ⟨cur.setIfInBounds j u, ?_, by simp [hc], fun i hi => ?_⟩
  · rw [heap_setCell_box, hb, Option.map_some, setIn_cells]
  · rw [hl] at hi
    by_cases e : i = j
    · subst e
      refine ⟨u, by simp [hjc], ?_⟩
      rw [h1]
      exact hx.set
    · obtain ⟨ui, hui, hri⟩ := hr i hi
      refine ⟨ui, by rw [Array.getElem?_setIfInBounds_ne (fun h => e h.symm)]; exact hui, ?_⟩
      rw [h2 i e hi]
      exact hri.set
theorem ListRows.ext {W W' : World} {b cap S : Nat} {ls : List (List Half)} (h : ListRows W b cap S ls) (hx : Ext W W') : ListRows W' b cap S ls :=
  let ⟨cur, hb, hc, hr⟩ := h; ⟨cur, hx.heap hb, hc, fun j hj => let ⟨u, h1, h2⟩ := hr j hj; ⟨u, h1, h2.ext hx (Nat.le_refl _)⟩⟩
theorem ListRows.beside {W W' : World} {b cap S : Nat} {ls : List (List Half)} {row : Option Nat} (h : ListRows W b cap S ls) (hbS : b < S) (hs : S ≤ W.heap.size) (hg : W.grownBy W' row) (hr : ∀ g, row = some g → S ≤ g) : ListRows W' b cap S ls :=
  let ⟨cur, hb, hc, hrw⟩ := h; ⟨cur, (hg.block b (by omega) fun e => by have := hr _ e.symm; omega).trans hb, hc, fun j hj => let ⟨u, h1, h2⟩ := hrw j hj; ⟨u, h1, h2.beside hs hg hr⟩⟩
theorem flat_ones : ∀ vs : List Value, (vs.map fun u => [u]).flatten = vs
  | [] => rfl
  | v :: r => by rw [List.map_cons, List.flatten_cons, flat_ones r]; rfl
theorem rows_of_owns {W : World} {base S : Nat} {v : Value} {vs : List Value} {ls : List (List Half)} (h : Owns W base 22 1 v (vs.map fun u => [u])) (hn : vs.length = ls.length) (h0 : 0 < ls.length) (hr : ∀ j, j < ls.length → Row W v.ownBlock S (vs.getD j undef) (ls.getD j [])) :
    ∃ b cap, v = .slice (some ⟨b, 0, none⟩) ls.length cap ∧ base ≤ b ∧ b < W.heap.size ∧ ls.length ≤ cap ∧ cap ≤ maxLen ∧ ListRows W b cap S ls := by
  obtain ⟨⟨_, h⟩, _⟩ := h
  rw [List.length_map, hn, flat_ones] at h
  rcases h with ⟨_, h⟩ | ⟨g, cap, cur, rfl, h1, h2, h3, h4, h5, h6⟩
  · omega
  · refine ⟨g, cap, rfl, h1, heap_lt h2, h3, h4, cur, h2, h5.trans (Nat.mul_one _), fun j hj => ⟨vs.getD j undef, ?_, hr j hj⟩⟩
    have hj' : j < vs.length := by omega
    have e : vs[j]? = cur[j]? := by
      rw [← h6]
      rw [List.getElem?_take]
      rw [if_pos (by omega)]
      simp
    rw [← e]
    simp [List.getD, hj']
end Go.Proofs.Ytacdndehlkaaeaa
