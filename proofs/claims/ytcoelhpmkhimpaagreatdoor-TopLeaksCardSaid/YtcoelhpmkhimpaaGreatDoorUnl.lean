/- A region that draws its order: E says of each operation what it keeps; what only reads may be taken first where all that may come before it keeps what it reads. -/
import Derived.Test.YtcoelhpmkhimpaaGreatDoorInv
namespace Go.Proofs.YtcoelhpmkhimpaaGreatDoor
open Go.RowKit
set_option linter.unusedVariables false
set_option linter.unusedSimpArgs false

section
variable {P : Program} {ops : Array Oper} {E : Nat → World → World → Prop} {Q : Exit → Act → World → Prop}
def wpAnyE (P : Program) (ops : Array Oper) (Q : Exit → Act → World → Prop) (E : Nat → World → World → Prop) : Nat → Array Bool → Act → World → Prop
  | 0, listed, a, w => Region.ready .any ops listed = [] ∧ Q .normal a w
  | fuel + 1, listed, a, w => (Region.ready .any ops listed = [] → Q .normal a w) ∧
    ∀ i ∈ Region.ready .any ops listed, wpOp P ops Q i (fun a' w' => E i w w' ∧ wpAnyE P ops Q E fuel (listed.setIfInBounds i true) a' w') a w
theorem wpAny_of_E : ∀ (fuel : Nat) (listed : Array Bool) (a : Act) (w : World), wpAnyE P ops Q E fuel listed a w → wpAny P .any ops Q fuel listed a w
  | 0, _, _, _, h => h
  | fuel + 1, _, _, _, h => ⟨h.1, fun i hi => wpOp_mono (fun a' w' h' => wpAny_of_E fuel _ a' w' h'.2) (h.2 i hi)⟩

theorem wpAnyE_first {S : World → Prop} {i : Nat} {oi : Oper} {v : Value} (N : Nat) (hi : ops[i]? = some oi) (hsel : Region.noSelect ops = true)
    (hQ : ∀ c a w, Q (.panic c) (a.put oi.dst v) w → Q (.panic c) a w) (hE : ∀ w, E i w w) (hpres : ∀ j, reachB ops N i j = false → ∀ w w', S w → E j w w' → S w') :
    ∀ (fuel : Nat) (listed : Array Bool) (a : Act) (w : World), Closed ops listed → Region.free .any ops listed i = true →
      i ∈ Region.ready .any ops listed → YieldsIf P ops S oi v a → S w →
      wpAnyE P ops Q E fuel (listed.setIfInBounds i true) (a.put oi.dst v) w → wpAnyE P ops Q E (fuel + 1) listed a w := by
  have core : ∀ (fuel : Nat) (listed : Array Bool) (a : Act) (w : World), Closed ops listed →
      (∀ j oj, ops[j]? = some oj → j ≠ i → listed.getD j true = false → (∀ e ∈ oj.after, Region.binds .any e = true → e.on ≠ i) → oi.apart ops oj = true) →
      i ∈ Region.ready .any ops listed → YieldsIf P ops S oi v a → S w →
      wpAnyE P ops Q E fuel (listed.setIfInBounds i true) (a.put oi.dst v) w → wpAnyE P ops Q E (fuel + 1) listed a w := by
    intro fuel
    induction fuel with
    | zero =>
      intro listed a w _ _ hr hy hS H
      refine ⟨fun h => (by rw [h] at hr; cases hr), fun j hj => ?_⟩
      by_cases hji : j = i
      · subst hji
        exact hy.wpOp hi hS ⟨hE w, H⟩
      · have hm := ready_mono hj hji
        rw [H.1] at hm
        cases hm
    | succ fuel ih =>
      intro listed a w hcl hfree hr hy hS H
      refine ⟨fun h => (by rw [h] at hr; cases hr), fun j hj => ?_⟩
      by_cases hji : j = i
      · subst hji
        exact hy.wpOp hi hS ⟨hE w, H⟩
      · obtain ⟨hjun, oj, hoj, hall⟩ := mem_ready.1 hj
        have hun : listed.getD i true = false := (mem_ready.1 hr).1
        have hun' : listed.getD i false = false := by
          rcases Nat.lt_or_ge i listed.size with h' | h'
          · simp [h'] at hun ⊢; exact hun
          · simp [Array.getElem?_eq_none h']
        have hnot : ∀ e ∈ oj.after, Region.binds .any e = true → e.on ≠ i := by
          intro e he hb heq
          have h1 := hall e he hb
          rw [heq, hun'] at h1
          cases h1
        have hre : reachB ops N i j = false := by
          cases hf : reachB ops N i j with
          | false => rfl
          | true =>
            have := reach_listed hcl N j oj hoj hall hf
            rw [hun'] at this
            cases this
        have h2 := wpOp_putIf hoj (hfree j oj hoj hji hjun hnot) (fun cs b => Region.noSelect_spec hsel i oi cs b hi) (fun cs b => Region.noSelect_spec hsel j oj cs b hoj) hQ hy (H.2 j (ready_mono hj hji))
        have hfree' : ∀ k ok, ops[k]? = some ok → k ≠ i → (listed.setIfInBounds j true).getD k true = false →
            (∀ e ∈ ok.after, Region.binds .any e = true → e.on ≠ i) → oi.apart ops ok = true := fun k ok hk hki hku hno => by
          refine hfree k ok hk hki ?_ hno
          by_cases hjk : j = k
          · subst hjk; exact hjun
          · rw [getD_set_ne true hjk] at hku; exact hku
        refine wpOp_mono (fun a' w' h3 => ⟨h3.2.1, ih (listed.setIfInBounds j true) a' w' (hcl.set hj) hfree' (ready_mono hr (Ne.symm hji)) h3.1 (hpres j hre w w' hS h3.2.1) ?_⟩) h2
        rw [Array.setIfInBounds_comm _ _ hji]
        exact h3.2.2
  intro fuel listed a w hcl hf hr hy hS H
  exact core fuel listed a w hcl (Region.free_spec hi hf) hr hy hS H

/-- may these be taken next, in this order? what may come before any of them is among 'js' -/
def takesEB (ops : Array Oper) (js : List Nat) : List Nat → Array Bool → Bool
  | [], _ => true
  | k :: r, listed => (Region.ready .any ops listed).contains k && Region.free .any ops listed k && plainOp ops k && ((List.range ops.size).all fun j => reachB ops ops.size k j || js.contains j) && takesEB ops js r (listed.setIfInBounds k true)
theorem reach_out {i j : Nat} (h : ops.size ≤ j) : ∀ n, reachB ops n i j = false
  | 0 => rfl
  | n + 1 => by simp [reachB, Array.getElem?_eq_none h]

theorem takesE {S : World → Prop} (hsel : Region.noSelect ops = true) {js : List Nat} (hE : ∀ k, js.contains k = true → ∀ w w', S w → E k w w' → S w') (hout : ∀ k, ops.size ≤ k → ∀ w w', S w → E k w w' → S w') {K : Act → Prop} : ∀ (l : List Nat) (n : Nat) (listed : Array Bool) (a : Act) (w : World), (∀ k ∈ l, ∀ w, E k w w) → Closed ops listed → S w → takesEB ops js l listed = true →
    (∀ a', Closed ops (marked l listed) → K a' → wpAnyE P ops (normalOnly Q) E n (marked l listed) a' w) → wpQuiet P ops S K (opsOf ops l) a → wpAnyE P ops (normalOnly Q) E (l.length + n) listed a w
  | [], n, listed, a, w, _, hcl, hS, hB, hK, h => by
    simp only [List.length_nil, Nat.zero_add]
    exact hK a hcl (by simpa [opsOf, wpQuiet] using h)
  | k :: r, n, listed, a, w, hr0, hcl, hS, hB, hK, h => by
    simp only [takesEB, Bool.and_eq_true] at hB
    obtain ⟨⟨⟨⟨hr, hf⟩, hp⟩, hre⟩, hB'⟩ := hB
    have hkr : k ∈ Region.ready .any ops listed := by simpa using hr
    obtain ⟨o, ho⟩ := op_of_ready (ops := ops) hkr
    have e : opsOf ops (k :: r) = o :: opsOf ops r := by simp [opsOf, consOp, ho]
    rw [e] at h
    rw [show (k :: r).length + n = (r.length + n) + 1 by simp; omega]
    obtain ⟨v, hy, hrest⟩ : ∃ v, YieldsIf P ops S o v a ∧ wpQuiet P ops S K (opsOf ops r) (a.put o.dst v) := by
      unfold wpQuiet at h
      by_cases hw : Region.wanted o (yielded ops a.tmps) = true
      · rw [if_pos hw] at h
        obtain ⟨v, h1, h2⟩ := h
        refine ⟨v, .inl ⟨hw, fun W hW => ?_⟩, h2⟩
        have h3 := h1 W hW
        unfold Oper.quietAt at h3
        cases hrun : (execOp a.eval o).run P W with
        | ok x W' =>
          rw [hrun] at h3
          cases x <;> simp only [Oper.quietUpon] at h3
          case value u => rw [h3.1, h3.2]
          case skip => exact absurd hrun (plain_not_enter ho hp a.eval W 0 #[] W').2
          case enter f args => exact absurd hrun (plain_not_enter ho hp a.eval W f args W').1
        | halt x W' => rw [hrun] at h3; simp only [Oper.quietUpon] at h3
      · rw [if_neg hw] at h
        exact ⟨undef, .inr ⟨by simpa using hw, rfl⟩, h⟩
    refine wpAnyE_first ops.size ho hsel (fun _ _ _ h => h) (hr0 k (List.mem_cons_self ..)) (fun j hj => ?_) _ listed a w hcl hf hkr hy hS (takesE hsel hE hout r n _ _ w (fun x hx => hr0 x (List.mem_cons_of_mem _ hx)) (hcl.set hkr) hS hB' hK hrest)
    rcases Nat.lt_or_ge j ops.size with hjs | hjs
    · have := List.all_eq_true.1 hre j (by simpa using hjs)
      rw [hj, Bool.false_or] at this
      exact hE j this
    · exact hout j hjs

/-- the region: what E asks -/
theorem wp_region_E {id : Nat} {l : List Oper} {a : Act} {w : World} (hm : P.follows .mixedOrders = true) (h : Closed l.toArray (Array.replicate l.toArray.size false) → wpAnyE P l.toArray (normalOnly Q) E l.toArray.size (Array.replicate l.toArray.size false) a w.drew) : (Code.region id l.toArray true).wp P Q a w := by
  have hq : (Code.region id l.toArray true).wp P (normalOnly Q) a w := wp_region_any hm (wpAny_of_E _ _ _ _ (h (closed_none _ _)))
  exact Go.wp_mono hq fun e a w hq => by cases e <;> first | exact hq | exact hq.elim
/-- some that only read come next -/
theorem anyE_take {l : List Oper} {a : Act} {w : World} {listed : Array Bool} {m : Nat} (pre js : List Nat) (S : World → Prop) (n : Nat) (l1 : List Oper) (hcl : Closed l.toArray listed)
    (hB : (takesEB l.toArray js pre listed && Region.noSelect l.toArray && decide (m = pre.length + n)) = true) (h1 : opsOf l.toArray pre = l1) (hS : S w)
    (hr : ∀ k ∈ pre, ∀ w, E k w w) (hE : ∀ k, js.contains k = true ∨ l.toArray.size ≤ k → ∀ w w', S w → E k w w' → S w')
    (h : ∀ (ι : Type) [Inhabited ι] (f : ι → World), (∀ p, S (f p)) → wpQuiet P l.toArray (fun W => ∃ p, W = f p) (fun a' => Closed l.toArray (marked pre listed) → wpAnyE P l.toArray (normalOnly Q) E n (marked pre listed) a' w) l1 a) : wpAnyE P l.toArray (normalOnly Q) E m listed a w := by
  simp only [Bool.and_eq_true, decide_eq_true_eq] at hB
  obtain ⟨⟨hB, hsel⟩, rfl⟩ := hB
  have hC : (fun W => ∃ p : {W : World // S W}, W = p.1) = S := by
    funext W
    exact propext ⟨fun ⟨p, hp⟩ => hp ▸ p.2, fun hW => ⟨⟨W, hW⟩, rfl⟩⟩
  have h' := @h {W : World // S W} ⟨⟨_, hS⟩⟩ (fun p => p.1) (fun p => p.2)
  rw [hC, ← h1] at h'
  exact takesE hsel (fun k hk => hE k (.inl hk)) (fun k hk => hE k (.inr hk)) pre n listed a w hr hcl hS hB (fun a' hc hK => hK hc) h'
/-- the one that must come next -/
theorem anyE_one {listed : Array Bool} {a : Act} {w : World} {n k : Nat} {o : Oper} (hr : (Region.ready .any ops listed == [k]) = true) (ho : ops[k]? = some o) (hcl : Closed ops listed)
    (h : wpList P ops (fun e a' w' => e = .normal ∧ E k w w' ∧ (Closed ops (listed.setIfInBounds k true) → wpAnyE P ops (normalOnly Q) E n (listed.setIfInBounds k true) a' w')) [o] a w) :
    wpAnyE P ops (normalOnly Q) E (n + 1) listed a w := by
  have hr' : Region.ready .any ops listed = [k] := by simpa using hr
  refine ⟨fun h0 => (by rw [h0] at hr'; cases hr'), fun i hi => ?_⟩
  rw [hr'] at hi
  obtain rfl := List.mem_singleton.1 hi
  have hcl' := hcl.set (j := i) (by rw [hr']; exact List.mem_singleton_self i)
  exact wpOp_mono (fun a' w' h' => ⟨h'.1, h'.2 hcl'⟩) (wpOp_of_list ho h)
theorem anyE_done {listed : Array Bool} {a : Act} {w : World} (hr : (Region.ready .any ops listed).isEmpty = true) (h : Q .normal a w) : wpAnyE P ops (normalOnly Q) E 0 listed a w := ⟨by simpa using hr, h⟩
end
end Go.Proofs.YtcoelhpmkhimpaaGreatDoor
