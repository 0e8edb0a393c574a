/- A region that draws its order, walked by an invariant over what has been listed: what only reads is taken first; the others come in any order that the edges allow, each keeping the invariant of the state that follows. -/
import Derived.Test.YtcoelhpmkhimpaaGreatDoorTree
namespace Go.Proofs.YtcoelhpmkhimpaaGreatDoor
open Go.RowKit
set_option linter.unusedVariables false
set_option linter.unusedSimpArgs false

/-- operation j waits for i, by way of others if need be -/
def reachB (ops : Array Oper) : Nat → Nat → Nat → Bool
  | 0, _, _ => false
  | n + 1, i, j => match ops[j]? with
    | some o => o.after.any fun e => Region.binds .any e && (e.on == i || reachB ops n i e.on)
    | none => false
def Closed (ops : Array Oper) (listed : Array Bool) : Prop := ∀ j oj, ops[j]? = some oj → listed.getD j false = true → ∀ e ∈ oj.after, Region.binds .any e = true → listed.getD e.on false = true

theorem reach_listed {ops : Array Oper} {listed : Array Bool} (hc : Closed ops listed) {i : Nat} : ∀ (n : Nat) (j : Nat) (oj : Oper), ops[j]? = some oj → (∀ e ∈ oj.after, Region.binds .any e = true → listed.getD e.on false = true) → reachB ops n i j = true → listed.getD i false = true
  | 0, _, _, _, _, h => by simp [reachB] at h
  | n + 1, j, oj, hj, hall, h => by
    simp only [reachB, hj] at h
    obtain ⟨e, he, hb⟩ := Array.any_eq_true'.1 h
    simp only [Bool.and_eq_true, Bool.or_eq_true, beq_iff_eq] at hb
    obtain ⟨hbind, hor⟩ := hb
    have hl := hall e he hbind
    rcases hor with rfl | hr
    · exact hl
    · cases hk : ops[e.on]? with
      | none =>
        cases n with
        | zero => simp [reachB] at hr
        | succ n => simp [reachB, hk] at hr
      | some ok => exact reach_listed hc n e.on ok hk (hc e.on ok hk hl) hr

theorem getD_set_mono {listed : Array Bool} {k j : Nat} (h : listed.getD k false = true) : (listed.setIfInBounds j true).getD k false = true := by
  by_cases e : j = k
  · subst e
    have hk : j < listed.size := by
      rcases Nat.lt_or_ge j listed.size with h' | h'
      · exact h'
      · simp [Array.getElem?_eq_none h'] at h
    simp [hk]
  · rw [getD_set_ne false e]; exact h
theorem Closed.set {ops : Array Oper} {listed : Array Bool} (hc : Closed ops listed) {j : Nat} (hj : j ∈ Region.ready .any ops listed) : Closed ops (listed.setIfInBounds j true) := by
  obtain ⟨_, oj, hoj, hall⟩ := mem_ready.1 hj
  intro k ok hk hl e he hb
  by_cases e' : j = k
  · subst e'
    rw [hoj] at hk
    cases hk
    exact getD_set_mono (hall e he hb)
  · rw [getD_set_ne false e'] at hl
    exact getD_set_mono (hc k ok hk hl e he hb)
theorem closed_none (ops : Array Oper) (n : Nat) : Closed ops (Array.replicate n false) := by
  intro j oj _ hl
  have e : (Array.replicate n false).getD j false = false := by
    rcases Nat.lt_or_ge j n with h | h
    · simp [h]
    · simp [Array.getD, h]
  rw [e] at hl
  cases hl

section
variable {P : Program} {ops : Array Oper} {S : World → Prop} {Q : Exit → Act → World → Prop}

theorem wpAnyK_firstT {fin : Nat → Bool} {i : Nat} {oi : Oper} {v : Value} (N : Nat) (hi : ops[i]? = some oi) (hsel : Region.noSelect ops = true)
    (hQ : ∀ c a w, Q (.panic c) (a.put oi.dst v) w → Q (.panic c) a w)
    (hfin : ∀ j, fin j = true → reachB ops N i j = true) (hfi : fin i = false) :
    ∀ (fuel : Nat) (listed : Array Bool) (a : Act) (w : World), Closed ops listed → Region.free .any ops listed i = true →
      i ∈ Region.ready .any ops listed → YieldsIf P ops S oi v a → S w →
      wpAnyK P ops Q S fin fuel (listed.setIfInBounds i true) (a.put oi.dst v) w → wpAnyK P ops Q S fin (fuel + 1) listed a w := by
  have core : ∀ (fuel : Nat) (listed : Array Bool) (a : Act) (w : World), Closed ops listed →
      (∀ j oj, ops[j]? = some oj → j ≠ i → listed.getD j true = false → (∀ e ∈ oj.after, Region.binds .any e = true → e.on ≠ i) → oi.apart ops oj = true) →
      i ∈ Region.ready .any ops listed → YieldsIf P ops S oi v a → S w →
      wpAnyK P ops Q S fin fuel (listed.setIfInBounds i true) (a.put oi.dst v) w → wpAnyK P ops Q S fin (fuel + 1) listed a w := by
    intro fuel
    induction fuel with
    | zero =>
      intro listed a w _ _ hr hy hS H
      refine ⟨fun h => (by rw [h] at hr; cases hr), fun j hj => ?_⟩
      by_cases hji : j = i
      · subst hji
        exact hy.wpOp hi hS ⟨fun _ => hS, H⟩
      · have hm := ready_mono hj hji
        rw [H.1] at hm
        cases hm
    | succ fuel ih =>
      intro listed a w hcl hfree hr hy hS H
      refine ⟨fun h => (by rw [h] at hr; cases hr), fun j hj => ?_⟩
      by_cases hji : j = i
      · subst hji
        exact hy.wpOp hi hS ⟨fun _ => hS, H⟩
      · obtain ⟨hjun, oj, hoj, hall⟩ := mem_ready.1 hj
        have hun : listed.getD i true = false := (mem_ready.1 hr).1
        have hun' : listed.getD i false = false := by
          rcases Nat.lt_or_ge i listed.size with h' | h'
          · simp [h'] at hun ⊢; exact hun
          · simp [Array.getElem?_eq_none h']
        have hnot : ∀ e ∈ oj.after, Region.binds .any e = true → e.on ≠ i := by
          intro e he hb heq
          have h1 := hall e he hb
          rw [heq, hun'] at h1
          cases h1
        have hfj : fin j = false := by
          cases hf : fin j with
          | false => rfl
          | true =>
            have := reach_listed hcl N j oj hoj hall (hfin j hf)
            rw [hun'] at this
            cases this
        have h2 := wpOp_putIf hoj (hfree j oj hoj hji hjun hnot) (fun cs b => Region.noSelect_spec hsel i oi cs b hi) (fun cs b => Region.noSelect_spec hsel j oj cs b hoj) hQ hy (H.2 j (ready_mono hj hji))
        have hfree' : ∀ k ok, ops[k]? = some ok → k ≠ i → (listed.setIfInBounds j true).getD k true = false →
            (∀ e ∈ ok.after, Region.binds .any e = true → e.on ≠ i) → oi.apart ops ok = true := fun k ok hk hki hku hno => by
          refine hfree k ok hk hki ?_ hno
          by_cases hjk : j = k
          · subst hjk; exact hjun
          · rw [getD_set_ne true hjk] at hku; exact hku
        refine wpOp_mono (fun a' w' h3 => ⟨h3.2.1, ih (listed.setIfInBounds j true) a' w' (hcl.set hj) hfree' (ready_mono hr (Ne.symm hji)) h3.1 (h3.2.1 hfj) ?_⟩) h2
        rw [Array.setIfInBounds_comm _ _ hji]
        exact h3.2.2
  intro fuel listed a w hcl hf hr hy hS H
  exact core fuel listed a w hcl (Region.free_spec hi hf) hr hy hS H

/-- may these be taken first, in this order? -/
def invTakesB (ops : Array Oper) (fins : List Nat) : List Nat → Array Bool → Bool
  | [], _ => true
  | k :: r, listed => (Region.ready .any ops listed).contains k && Region.free .any ops listed k && plainOp ops k && !fins.contains k && (fins.all fun j => reachB ops ops.size k j) && invTakesB ops fins r (listed.setIfInBounds k true)

theorem inv_takes (hsel : Region.noSelect ops = true) {fins : List Nat} {K : Act → Prop} : ∀ (l : List Nat) (n : Nat) (listed : Array Bool) (a : Act) (w : World), Closed ops listed → S w → invTakesB ops fins l listed = true →
    (∀ a', K a' → wpAnyK P ops (normalOnly Q) S (fun j => fins.contains j) n (marked l listed) a' w) → wpQuiet P ops S K (opsOf ops l) a → wpAnyK P ops (normalOnly Q) S (fun j => fins.contains j) (l.length + n) listed a w
  | [], n, listed, a, w, _, hS, hB, hK, h => by
    simp only [List.length_nil, Nat.zero_add]
    exact hK a (by simpa [opsOf, wpQuiet] using h)
  | k :: r, n, listed, a, w, hcl, hS, hB, hK, h => by
    simp only [invTakesB, Bool.and_eq_true] at hB
    obtain ⟨⟨⟨⟨⟨hr, hf⟩, hp⟩, hnf⟩, hre⟩, hB'⟩ := hB
    have hkr : k ∈ Region.ready .any ops listed := by simpa using hr
    obtain ⟨o, ho⟩ := op_of_ready (ops := ops) hkr
    have e : opsOf ops (k :: r) = o :: opsOf ops r := by simp [opsOf, consOp, ho]
    rw [e] at h
    rw [show (k :: r).length + n = (r.length + n) + 1 by simp; omega]
    obtain ⟨v, hy, hrest⟩ : ∃ v, YieldsIf P ops S o v a ∧ wpQuiet P ops S K (opsOf ops r) (a.put o.dst v) := by
      unfold wpQuiet at h
      by_cases hw : Region.wanted o (yielded ops a.tmps) = true
      · rw [if_pos hw] at h
        obtain ⟨v, h1, h2⟩ := h
        refine ⟨v, .inl ⟨hw, fun W hW => ?_⟩, h2⟩
        have h3 := h1 W hW
        unfold Oper.quietAt at h3
        cases hrun : (execOp a.eval o).run P W with
        | ok x W' =>
          rw [hrun] at h3
          cases x <;> simp only [Oper.quietUpon] at h3
          case value u => rw [h3.1, h3.2]
          case skip => exact absurd hrun (plain_not_enter ho hp a.eval W 0 #[] W').2
          case enter f args => exact absurd hrun (plain_not_enter ho hp a.eval W f args W').1
        | halt x W' => rw [hrun] at h3; simp only [Oper.quietUpon] at h3
      · rw [if_neg hw] at h
        exact ⟨undef, .inr ⟨by simpa using hw, rfl⟩, h⟩
    refine wpAnyK_firstT ops.size ho hsel (fun _ _ _ h => h) (fun j hj => ?_) (by simpa using hnf) _ listed a w hcl hf hkr hy hS (inv_takes hsel r n _ _ w (hcl.set hkr) hS hB' hK hrest)
    have : j ∈ fins := by simpa using hj
    exact List.all_eq_true.1 hre j this

/-- one operation, by the walk's own form -/
theorem wpOp_of_list {k : Nat} {o : Oper} (ho : ops[k]? = some o) {K : Act → World → Prop} {a : Act} {w : World} (h : wpList P ops (fun e a' w' => e = .normal ∧ K a' w') [o] a w) : wpOp P ops (normalOnly Q) k K a w := by
  unfold wpList at h
  unfold wpOp
  simp only [ho]
  split
  · rename_i hwd
    rw [if_pos hwd] at h
    rcases h with h | ⟨_, a0, w0, h0, _⟩
    · refine .inl (Oper.wp_monoQ (Q := fun e a' w' => e = .normal ∧ K a' w') ?_ (Go.Oper.wp_mono (fun a' w' h' => ?_) h))
      · intro e a' w' hne h'
        exact absurd h'.1 hne
      · simp only [wpList] at h'
        exact h'.2
    · cases h0
  · rename_i hwd
    rw [if_neg hwd] at h
    simp only [wpList] at h
    exact h.2

theorem inv_run {σ : Type} {fins : List Nat} (lst : σ → Array Bool) (I : σ → Act → World → Prop)
    (hstep : ∀ s a w i, I s a w → i ∈ Region.ready .any ops (lst s) → ∃ s', lst s' = (lst s).setIfInBounds i true ∧ wpOp P ops (normalOnly Q) i (fun a' w' => (fins.contains i = false → S w') ∧ I s' a' w') a w)
    (hend : ∀ s a w, I s a w → Region.ready .any ops (lst s) = [] → Q .normal a w) :
    ∀ (n : Nat) (s : σ) (a : Act) (w : World), ((lst s).toList.filter (· == false)).length ≤ n → (lst s).size = ops.size → I s a w → wpAnyK P ops (normalOnly Q) S (fun j => fins.contains j) n (lst s) a w
  | 0, s, a, w, hn, hsz, h => by
    have hr : Region.ready .any ops (lst s) = [] := by
      rw [List.eq_nil_iff_forall_not_mem]
      intro i hi
      obtain ⟨hu, oj, hoj, _⟩ := mem_ready.1 hi
      have hlt : i < (lst s).size := by rw [hsz]; exact (Array.getElem?_eq_some_iff.1 hoj).1
      have hmem : false ∈ (lst s).toList.filter (· == false) := by
        rw [List.mem_filter]
        refine ⟨?_, by simp⟩
        have : (lst s)[i] = false := by simpa [hlt] using hu
        rw [← this]
        simp
      have : 0 < ((lst s).toList.filter (· == false)).length := List.length_pos_of_mem hmem
      omega
    exact ⟨hr, hend s a w h hr⟩
  | n + 1, s, a, w, hn, hsz, h => by
    refine ⟨fun hr => hend s a w h hr, fun i hi => ?_⟩
    obtain ⟨s', hs', hop⟩ := hstep s a w i h hi
    refine wpOp_mono (fun a' w' h' => ⟨h'.1, ?_⟩) hop
    rw [← hs']
    refine inv_run lst I hstep hend n s' a' w' ?_ (by rw [hs']; simpa using hsz) h'.2
    obtain ⟨hu, oj, hoj, _⟩ := mem_ready.1 hi
    have hlt : i < (lst s).size := by rw [hsz]; exact (Array.getElem?_eq_some_iff.1 hoj).1
    have hfi : (lst s)[i] = false := by simpa [hlt] using hu
    rw [hs']
    have key : ∀ (l : List Bool) (i : Nat) (hi : i < l.length), l[i] = false → ((l.set i true).filter (· == false)).length + 1 = (l.filter (· == false)).length := by
      intro l
      induction l with
      | nil => intro i hi; simp at hi
      | cons x l ih =>
        intro i hi hx
        cases i with
        | zero => simp at hx; subst hx; simp
        | succ i =>
          have := ih i (by simpa using hi) (by simpa using hx)
          cases x <;> simp_all
    have := key (lst s).toList i (by simpa using hlt) (by simpa using hfi)
    rw [Array.toList_setIfInBounds]
    omega

theorem marked_size : ∀ (r : List Nat) (b : Array Bool), (marked r b).size = b.size
  | [], b => rfl
  | k :: r, b => by simp only [marked]; rw [marked_size r]; simp
/-- some slots are filled -/
def puts (a : Act) : List Nat → List Value → Act
  | d :: ds, x :: xs => puts (a.put (some d) x) ds xs
  | _, _ => a
/-- the states' moves are those that the edges allow -/
def fsmB {σ : Type} (ops : Array Oper) (lst : σ → Array Bool) (sts : List σ) (cond : σ → Nat → Bool) (nxt : σ → Nat → σ) (fin : σ → Bool) : Bool :=
  sts.all fun s => (!(Region.ready .any ops (lst s)).isEmpty || fin s) && (Region.ready .any ops (lst s)).all fun i => cond s i && decide ((lst s).setIfInBounds i true = lst (nxt s i))

/-- what only reads is taken first; the operations 'fins' come behind all of it -/
theorem wp_region_takes {id : Nat} {l : List Oper} {a : Act} {w : World} (pre : List Nat) (fins : List Nat) (S : World → Prop) (l1 : List Oper) (n : Nat) (hm : P.follows .mixedOrders = true)
    (hB : (invTakesB l.toArray fins pre (Array.replicate l.toArray.size false) && Region.noSelect l.toArray && decide (pre.length + n = l.toArray.size)) = true)
    (h1 : opsOf l.toArray pre = l1) (hS : S w.drew)
    (h : ∀ (ι : Type) [Inhabited ι] (f : ι → World), (∀ p, S (f p)) → wpQuiet P l.toArray (fun W => ∃ p, W = f p) (fun a' => wpAnyK P l.toArray (normalOnly Q) S (fun j => fins.contains j) n (marked pre (Array.replicate l.toArray.size false)) a' w.drew) l1 a) : (Code.region id l.toArray true).wp P Q a w := by
  simp only [Bool.and_eq_true, decide_eq_true_eq] at hB
  obtain ⟨⟨hB, hsel⟩, hn⟩ := hB
  have hC : (fun W => ∃ p : {W : World // S W}, W = p.1) = S := by
    funext W
    exact propext ⟨fun ⟨p, hp⟩ => hp ▸ p.2, fun hW => ⟨⟨W, hW⟩, rfl⟩⟩
  have h' := @h {W : World // S W} ⟨⟨_, hS⟩⟩ (fun p => p.1) (fun p => p.2)
  rw [hC, ← h1] at h'
  have key := inv_takes (Q := Q) hsel (fins := fins) pre n _ a w.drew (closed_none _ _) hS hB (fun a' hI => hI) h'
  have key2 := wpAny_of_K _ _ _ _ key
  have hq : (Code.region id l.toArray true).wp P (normalOnly Q) a w := by
    refine wp_region_any hm ?_
    rw [hn] at key2
    exact key2
  exact Go.wp_mono hq fun e a w hq => by cases e <;> first | exact hq | exact hq.elim

/-- and then by states: I says what holds in a state, of the slots 'ds' and of the world -/
theorem wp_inv_fsm {σ : Type} {fins : List Nat} {listed : Array Bool} {a : Act} {w : World} {n : Nat} (lst : σ → Array Bool) (sts : List σ) (cond : σ → Nat → Bool) (nxt : σ → Nat → σ) (fin : σ → Bool) (hchk : fsmB ops lst sts cond nxt fin = true)
    (ds : List Nat) (I : σ → List Value → World → Prop) (hmem : ∀ s xs w, I s xs w → s ∈ sts) (s0 : σ) (xs0 : List Value) (hs0 : listed = lst s0)
    (hsz : (decide (((lst s0).toList.filter (· == false)).length ≤ n) && decide ((lst s0).size = ops.size)) = true) (ha : a = puts a ds xs0) (h0 : I s0 xs0 w)
    (hstep : ∀ s i xs w, I s xs w → cond s i = true → wpOp P ops (normalOnly Q) i (fun a' w' => (fins.contains i = false → S w') ∧ ∃ xs', a' = puts a ds xs' ∧ I (nxt s i) xs' w') (puts a ds xs) w)
    (hend : ∀ s xs w, I s xs w → fin s = true → Q .normal (puts a ds xs) w) :
    wpAnyK P ops (normalOnly Q) S (fun j => fins.contains j) n listed a w := by
  simp only [Bool.and_eq_true, decide_eq_true_eq] at hsz
  rw [hs0]
  refine inv_run lst (fun s a' w' => ∃ xs, a' = puts a ds xs ∧ I s xs w') ?_ ?_ n s0 a w hsz.1 hsz.2 ⟨xs0, ha, h0⟩
  · rintro s a' w' i ⟨xs, rfl, hI⟩ hi
    have hc := List.all_eq_true.1 hchk s (hmem s xs w' hI)
    simp only [Bool.and_eq_true] at hc
    have hc2 := List.all_eq_true.1 hc.2 i hi
    simp only [Bool.and_eq_true, decide_eq_true_eq] at hc2
    exact ⟨nxt s i, hc2.2.symm, hstep s i xs w' hI hc2.1⟩
  · rintro s a' w' ⟨xs, rfl, hI⟩ hr
    have hc := List.all_eq_true.1 hchk s (hmem s xs w' hI)
    simp only [Bool.and_eq_true] at hc
    refine hend s xs w' hI ?_
    have := hc.1
    rw [hr] at this
    simpa using this
/-- the one operation that must come next -/
theorem anyK_one {fins : List Nat} {listed : Array Bool} {a : Act} {w : World} {n k : Nat} {o : Oper} (hr : (Region.ready .any ops listed == [k]) = true) (ho : ops[k]? = some o)
    (h : wpList P ops (fun e a' w' => e = .normal ∧ ((fins.contains k = false → S w') ∧ wpAnyK P ops (normalOnly Q) S (fun j => fins.contains j) n (listed.setIfInBounds k true) a' w')) [o] a w) :
    wpAnyK P ops (normalOnly Q) S (fun j => fins.contains j) (n + 1) listed a w := by
  have hr' : Region.ready .any ops listed = [k] := by simpa using hr
  refine ⟨fun h0 => (by rw [h0] at hr'; cases hr'), fun i hi => ?_⟩
  rw [hr'] at hi
  obtain rfl := List.mem_singleton.1 hi
  exact wpOp_of_list ho h
theorem anyK_done {fins : List Nat} {listed : Array Bool} {a : Act} {w : World} (hr : (Region.ready .any ops listed).isEmpty = true) (h : Q .normal a w) :
    wpAnyK P ops (normalOnly Q) S (fun j => fins.contains j) 0 listed a w := ⟨by simpa using hr, h⟩
/-- what a step of the states must come to -/
def StepPost (fins : List Nat) (S : World → Prop) (a : Act) (ds : List Nat) (I' : List Value → World → Prop) (i : Nat) (a' : Act) (w' : World) : Prop :=
  (fins.contains i = false → S w') ∧ ∃ xs', a' = puts a ds xs' ∧ I' xs' w'
theorem StepPost.mk {fins : List Nat} {S : World → Prop} {a : Act} {ds : List Nat} {I' : List Value → World → Prop} {i : Nat} {a' : Act} {w' : World} (h : fins.contains i = false → S w') (xs' : List Value) (ha : a' = puts a ds xs') (hI : I' xs' w') : StepPost fins S a ds I' i a' w' := ⟨h, xs', ha, hI⟩
theorem fsm_step {fins : List Nat} {a : Act} {ds : List Nat} {I' : List Value → World → Prop} {i : Nat} {o : Oper} {a1 : Act} {w : World} (ho : ops[i]? = some o) (h : wpList P ops (fun e a' w' => e = .normal ∧ StepPost fins S a ds I' i a' w') [o] a1 w) :
    wpOp P ops (normalOnly Q) i (fun a' w' => (fins.contains i = false → S w') ∧ ∃ xs', a' = puts a ds xs' ∧ I' xs' w') a1 w := wpOp_of_list ho h
end
end Go.Proofs.YtcoelhpmkhimpaaGreatDoor
