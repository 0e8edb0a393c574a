/- The best chain is the first of the greatest: plain words. -/
import Derived.Test.YtkbhmajcddmhnaaVGr6
namespace Go.Proofs.Ytkbhmajcddmhnaa
open Go.RowKit
set_option linter.unusedVariables false
set_option linter.unusedSimpArgs false

/-- the first number that differs is less -/
def LexLt (m : Nat) (c d : List Int) : Prop := ∃ i, i < m ∧ (∀ j, j < i → c.getD j 0 = d.getD j 0) ∧ c.getD i 0 < d.getD i 0
theorem cands_mem {b : Nat} : ∀ {m : Nat} {c : List Int}, c.length = m → (∀ k ∈ c, 0 ≤ k ∧ k < (b : Int)) → c ∈ cands b m
  | 0, c, h, _ => by
    rw [List.length_eq_zero_iff.1 h]
    simp [cands, digs]
  | m + 1, [], h, _ => by cases h
  | m + 1, k :: c, h, hk => by
    rw [cands_succ, List.mem_flatMap]
    obtain ⟨k1, k2⟩ := hk k (List.mem_cons_self ..)
    refine ⟨k.toNat, List.mem_range.2 (by omega), List.mem_map.2 ⟨c, cands_mem (by simpa using h) fun x hx => hk x (List.mem_cons_of_mem _ hx), ?_⟩⟩
    rw [Int.toNat_of_nonneg k1]
theorem cands_ok {b : Nat} : ∀ {m : Nat} {c : List Int}, c ∈ cands b m → ∀ k ∈ c, 0 ≤ k ∧ k < (b : Int)
  | 0, c, h, k, hk => by
    simp [cands, digs] at h
    rw [h] at hk
    cases hk
  | m + 1, c, h, k, hk => by
    rw [cands_succ, List.mem_flatMap] at h
    obtain ⟨q, hq, h⟩ := h
    obtain ⟨c', hc, rfl⟩ := List.mem_map.1 h
    rcases List.mem_cons.1 hk with rfl | hk
    · have := List.mem_range.1 hq; omega
    · exact cands_ok hc k hk
theorem cands_sorted (b : Nat) : ∀ m, (cands b m).Pairwise (LexLt m)
  | 0 => by simp [cands, digs]
  | m + 1 => by
    rw [cands_succ, List.pairwise_flatMap]
    refine ⟨fun q _ => List.pairwise_map.2 ((cands_sorted b m).imp fun {c d} h => ?_), List.pairwise_lt_range.imp fun {p q} hpq => ?_⟩
    · obtain ⟨i, h1, h2, h3⟩ := h
      refine ⟨i + 1, by omega, fun j hj => ?_, by simpa using h3⟩
      cases j with
      | zero => rfl
      | succ j => simpa using h2 j (by omega)
    · intro x hx y hy
      obtain ⟨c, _, rfl⟩ := List.mem_map.1 hx
      obtain ⟨d, _, rfl⟩ := List.mem_map.1 hy
      exact ⟨0, by omega, fun j hj => by omega, by simpa using hpq⟩
theorem lex_down {m : Nat} {c d : List Int} (hc : c.length = m) (hd : d.length = m) (h : LexLt m c d) : LexLt m (down c) (down d) := by
  obtain ⟨i, h1, h2, h3⟩ := h
  have e : ∀ (c : List Int) (j : Nat), c.length = m → j < m → (down c).getD j 0 = c.getD j 0 - 1 := fun c j hc hj => by
    simp [down, List.getD, List.getElem?_map, List.getElem?_eq_getElem (show j < c.length by omega)]
  refine ⟨i, h1, fun j hj => ?_, ?_⟩
  · rw [e c j hc (by omega), e d j hd (by omega), h2 j hj]
  · rw [e c i hc h1, e d i hd h1]
    omega
/-- a chain, whether or not it can be gone -/
def ChainOk (l : List Offer) (fs : List Fair) (c : List Int) : Prop := c.length = fs.length ∧ ∀ k ∈ c, -1 ≤ k ∧ k < (l.length : Int)
def allChains (l : List Offer) (fs : List Fair) : List (List Int) := (cands (l.length + 1) fs.length).map down
theorem allChains_mem {l : List Offer} {fs : List Fair} {c : List Int} : c ∈ allChains l fs ↔ ChainOk l fs c := by
  refine ⟨fun h => ?_, fun h => ?_⟩
  · obtain ⟨c', hc, rfl⟩ := List.mem_map.1 h
    refine ⟨by simp [down, cands_len hc], fun k hk => ?_⟩
    obtain ⟨x, hx, rfl⟩ := List.mem_map.1 hk
    have := cands_ok hc x hx
    omega
  · refine List.mem_map.2 ⟨c.map (· + 1), cands_mem (by simpa using h.1) fun k hk => ?_, ?_⟩
    · obtain ⟨x, hx, rfl⟩ := List.mem_map.1 hk
      have := h.2 x hx
      omega
    · simp [down, Function.comp_def]
theorem allChains_sorted (l : List Offer) (fs : List Fair) : (allChains l fs).Pairwise (LexLt fs.length) :=
  List.pairwise_map.2 ((cands_sorted (l.length + 1) fs.length).imp_of_mem fun {c d} hc hd h => lex_down (cands_len hc) (cands_len hd) h)
/-- what a chain gains of the good that is wanted -/
def gains (l : List Offer) (fs : List Fair) (h0 : Hand) (want : Int) (c : List Int) : Option Int := match goneOf l fs c h0 with | some h => if h.good = want then some h.units else none | none => none
theorem bestStep_gains (l : List Offer) (fs : List Fair) (h0 : Hand) (want : Int) (acc : Found) (c : List Int) : bestStep l fs h0 want acc c = match gains l fs h0 want c with | some v => if acc.most < v then some (c, v) else acc | none => acc := by
  unfold bestStep gains
  cases goneOf l fs c h0 with
  | none => rfl
  | some h =>
    simp only
    by_cases hg : h.good = want
    · simp [hg]
    · simp [hg]
def BestInv (val : List Int → Option Int) (R : List Int → List Int → Prop) (P : List (List Int)) (acc : Found) : Prop :=
  match acc with
  | none => ∀ y ∈ P, val y = none
  | some x => x.1 ∈ P ∧ val x.1 = some x.2 ∧ ∀ y ∈ P, ∀ v, val y = some v → v ≤ x.2 ∧ (v = x.2 → y = x.1 ∨ R x.1 y)
theorem best_fold {l : List Offer} {fs : List Fair} {h0 : Hand} {want : Int} {R : List Int → List Int → Prop} :
    ∀ (L P : List (List Int)) (acc : Found), (∀ c ∈ L, ∀ v, gains l fs h0 want c = some v → 0 ≤ v) → (P ++ L).Pairwise R → BestInv (gains l fs h0 want) R P acc → BestInv (gains l fs h0 want) R (P ++ L) (L.foldl (bestStep l fs h0 want) acc)
  | [], P, acc, _, _, h => by simpa using h
  | z :: L, P, acc, hpos, hp, h => by
    rw [List.foldl_cons, show P ++ z :: L = (P ++ [z]) ++ L by simp]
    refine best_fold L (P ++ [z]) _ (fun c hc => hpos c (List.mem_cons_of_mem _ hc)) (by simpa using hp) ?_
    have hz : ∀ y ∈ P, R y z := fun y hy => (List.pairwise_append.1 hp).2.2 y hy z (List.mem_cons_self ..)
    rw [bestStep_gains]
    cases hv : gains l fs h0 want z with
    | none =>
      simp only
      cases acc with
      | none =>
        intro y hy
        rcases List.mem_append.1 hy with hy | hy
        · exact h y hy
        · rw [List.mem_singleton.1 hy]; exact hv
      | some x =>
        obtain ⟨h1, h2, h3⟩ := h
        refine ⟨List.mem_append_left _ h1, h2, fun y hy v e => ?_⟩
        rcases List.mem_append.1 hy with hy | hy
        · exact h3 y hy v e
        · rw [List.mem_singleton.1 hy, hv] at e; cases e
    | some v =>
      simp only
      have hv0 := hpos z (List.mem_cons_self ..) v hv
      cases acc with
      | none =>
        rw [if_pos (by simp [Found.most]; omega)]
        refine ⟨by simp, hv, fun y hy v' e => ?_⟩
        rcases List.mem_append.1 hy with hy | hy
        · rw [h y hy] at e; cases e
        · rw [List.mem_singleton.1 hy] at e ⊢
          rw [hv] at e
          cases e
          exact ⟨Int.le_refl _, fun _ => .inl rfl⟩
      | some x =>
        obtain ⟨h1, h2, h3⟩ := h
        rw [show Found.most (some x) = x.2 from rfl]
        by_cases hlt : x.2 < v
        · rw [if_pos hlt]
          refine ⟨by simp, hv, fun y hy v' e => ?_⟩
          rcases List.mem_append.1 hy with hy | hy
          · have := h3 y hy v' e
            simp only
            omega
          · rw [List.mem_singleton.1 hy] at e ⊢
            rw [hv] at e
            cases e
            exact ⟨Int.le_refl _, fun _ => .inl rfl⟩
        · rw [if_neg hlt]
          refine ⟨List.mem_append_left _ h1, h2, fun y hy v' e => ?_⟩
          rcases List.mem_append.1 hy with hy | hy
          · exact h3 y hy v' e
          · rw [List.mem_singleton.1 hy] at e ⊢
            rw [hv] at e
            cases e
            exact ⟨by omega, fun _ => .inr (hz _ h1)⟩
theorem bestTo_fold (l : List Offer) (fs : List Fair) (h0 : Hand) (want : Int) : bestTo l fs h0 want ((l.length + 1) ^ fs.length) = (allChains l fs).foldl (bestStep l fs h0 want) none := by
  unfold bestTo allChains cands
  rw [List.map_map, List.foldl_map]
  simp only [Function.comp, digits_down]
theorem gains_pos {l : List Offer} {fs : List Fair} {h0 : Hand} {want : Int} {c : List Int} (ho : offersOk l = true) (ht : tripOk fs = true) (hh : HandOk 0 h0) (hc : ∀ k ∈ c, k < (l.length : Int)) {v : Int} (e : gains l fs h0 want c = some v) : 0 ≤ v := by
  unfold gains at e
  cases hg : goneOf l fs c h0 with
  | none => rw [hg] at e; cases e
  | some h =>
    rw [hg] at e
    simp only at e
    split at e
    · cases e
      exact (goneTo_ok ho ht hc hh (Nat.le_refl _) hg).2.1
    · cases e
/-- **the best chain is the first of the greatest** -/
theorem best_spec {l : List Offer} {fs : List Fair} {h0 : Hand} {want : Int} (ho : offersOk l = true) (ht : tripOk fs = true) (hh : HandOk 0 h0) :
    match bestTo l fs h0 want ((l.length + 1) ^ fs.length) with
    | none => ∀ c, ChainOk l fs c → gains l fs h0 want c = none
    | some x => ChainOk l fs x.1 ∧ gains l fs h0 want x.1 = some x.2 ∧ ∀ c, ChainOk l fs c → ∀ v, gains l fs h0 want c = some v → v ≤ x.2 ∧ (v = x.2 → c = x.1 ∨ LexLt fs.length x.1 c) := by
  have key := best_fold (R := LexLt fs.length) (l := l) (fs := fs) (h0 := h0) (want := want) (allChains l fs) [] none (fun c hc v e => gains_pos ho ht hh (fun k hk => ((allChains_mem.1 hc).2 k hk).2) e) (by simpa using allChains_sorted l fs) (fun y hy => by cases hy)
  rw [← bestTo_fold, List.nil_append] at key
  cases hF : bestTo l fs h0 want ((l.length + 1) ^ fs.length) with
  | none =>
    rw [hF] at key
    exact fun c hc => key c (allChains_mem.2 hc)
  | some x =>
    rw [hF] at key
    exact ⟨allChains_mem.1 key.1, key.2.1, fun c hc v e => key.2.2 c (allChains_mem.2 hc) v e⟩
theorem gains_some {l : List Offer} {fs : List Fair} {h0 : Hand} {want : Int} {c : List Int} {v : Int} (e : gains l fs h0 want c = some v) : goneOf l fs c h0 = some ⟨want, v⟩ := by
  unfold gains at e
  cases hg : goneOf l fs c h0 with
  | none => rw [hg] at e; cases e
  | some h =>
    rw [hg] at e
    simp only at e
    split at e
    · rename_i hw
      cases e
      cases h
      simp only at hw
      rw [hw]
    · cases e
end Go.Proofs.Ytkbhmajcddmhnaa
