/- A region that draws its order: a tree of the orders that matter; what only reads is taken first wherever it may come up, what changes the world comes in each order that the tree names. -/
import Derived.Test.YtcoelhpmkhimpaaGreatDoorMix
namespace Go.Proofs.YtcoelhpmkhimpaaGreatDoor
open Go.RowKit
set_option linter.unusedVariables false

/-- the plan: 'take' some that only read; 'one' that must come next; 'two' of which either may come next -/
inductive TT where
  | done
  | take (l : List Nat) (r : TT)
  | one (k : Nat) (r : TT)
  | two (k : Nat) (r : TT) (k' : Nat) (r' : TT)
def TT.len : TT → Nat
  | .done => 0
  | .take l r => l.length + r.len
  | .one _ r => r.len + 1
  | .two _ r _ _ => r.len + 1
/-- the plan with the operations themselves -/
inductive OT where
  | done
  | take (l : List Oper) (r : OT)
  | one (o : Oper) (r : OT)
  | two (o : Oper) (r : OT) (o' : Oper) (r' : OT)
def oneOp : Option Oper → OT → OT
  | some o, r => .one o r
  | none, r => r
def twoOp : Option Oper → OT → Option Oper → OT → OT
  | some o, r, some o', r' => .two o r o' r'
  | _, r, _, _ => r
def treeOf (ops : Array Oper) : TT → OT
  | .done => .done
  | .take l r => .take (opsOf ops l) (treeOf ops r)
  | .one k r => oneOp ops[k]? (treeOf ops r)
  | .two k r k' r' => twoOp ops[k]? (treeOf ops r) ops[k']? (treeOf ops r')

def takesB (ops : Array Oper) : List Nat → Array Bool → Bool
  | [], _ => true
  | k :: r, listed => (Region.ready .any ops listed).contains k && Region.free .any ops listed k && plainOp ops k && takesB ops r (listed.setIfInBounds k true)
def marked : List Nat → Array Bool → Array Bool
  | [], listed => listed
  | k :: r, listed => marked r (listed.setIfInBounds k true)
def treeB (ops : Array Oper) : TT → Array Bool → Bool
  | .done, listed => (Region.ready .any ops listed).isEmpty
  | .take l r, listed => takesB ops l listed && treeB ops r (marked l listed)
  | .one k r, listed => (Region.ready .any ops listed == [k]) && treeB ops r (listed.setIfInBounds k true)
  | .two k r k' r', listed => (Region.ready .any ops listed == [k, k'] || Region.ready .any ops listed == [k', k]) && decide (r.len = r'.len) && treeB ops r (listed.setIfInBounds k true) && treeB ops r' (listed.setIfInBounds k' true)

section
variable {P : Program} {ops : Array Oper} {S : World → Prop} {Q : Exit → Act → World → Prop}

def stepOT (P : Program) (ops : Array Oper) (S : World → Prop) (Q : Exit → Act → World → Prop) (o : Oper) (K : Act → World → Prop) (a : Act) (w : World) : Prop :=
  if Region.wanted o (yielded ops a.tmps) then o.wp P a w (fun a' w' => S w' ∧ K a' w') (normalOnly Q) else S w ∧ K (a.put o.dst undef) w
def wpOT (P : Program) (ops : Array Oper) (S : World → Prop) (Q : Exit → Act → World → Prop) : OT → Act → World → Prop
  | .done, a, w => Q .normal a w
  | .take l r, a, w => wpQuiet P ops S (fun a' => wpOT P ops S Q r a' w) l a
  | .one o r, a, w => stepOT P ops S Q o (wpOT P ops S Q r) a w
  | .two o r o' r', a, w => stepOT P ops S Q o (wpOT P ops S Q r) a w ∧ stepOT P ops S Q o' (wpOT P ops S Q r') a w

theorem stepOT_of {o : Oper} {K : Act → World → Prop} {a : Act} {w : World} (h : wpList P ops (fun e a' w' => e = .normal ∧ S w' ∧ K a' w') [o] a w) : stepOT P ops S Q o K a w := by
  unfold wpList at h
  unfold stepOT
  split
  · rename_i hwd
    rw [if_pos hwd] at h
    rcases h with h | ⟨_, a0, w0, h0, _⟩
    · refine Oper.wp_monoQ (Q := fun e a' w' => e = .normal ∧ S w' ∧ K a' w') ?_ (Go.Oper.wp_mono (fun a' w' h' => ?_) h)
      · intro e a' w' hne h'
        exact absurd h'.1 hne
      · simp only [wpList] at h'
        exact h'.2
    · cases h0
  · rename_i hwd
    rw [if_neg hwd] at h
    simp only [wpList] at h
    exact h.2
theorem wpOT_done {a : Act} {w : World} (h : Q .normal a w) : wpOT P ops S Q .done a w := h
theorem wpOT_take {l : List Oper} {r : OT} {a : Act} {w : World} (h : wpQuiet P ops S (fun a' => wpOT P ops S Q r a' w) l a) : wpOT P ops S Q (.take l r) a w := h
theorem wpOT_one {o : Oper} {r : OT} {a : Act} {w : World} (h : wpList P ops (fun e a' w' => e = .normal ∧ S w' ∧ wpOT P ops S Q r a' w') [o] a w) : wpOT P ops S Q (.one o r) a w := stepOT_of h
theorem wpOT_two {o o' : Oper} {r r' : OT} {a : Act} {w : World} (h : wpList P ops (fun e a' w' => e = .normal ∧ S w' ∧ wpOT P ops S Q r a' w') [o] a w) (h' : wpList P ops (fun e a' w' => e = .normal ∧ S w' ∧ wpOT P ops S Q r' a' w') [o'] a w) :
    wpOT P ops S Q (.two o r o' r') a w := ⟨stepOT_of h, stepOT_of h'⟩

/-- two orders that come to the same kind of end -/
theorem join_two {F M : Nat → Nat → World → Prop} {X Y : Prop} (h1 : (∀ p q W, F p q W → M p q W) → X) (h2 : (∀ p q W, F p q W → M p q W) → Y) (h : ∀ p q W, F p q W → M p q W) : X ∧ Y := ⟨h1 h, h2 h⟩
theorem join_same {M X Y : Prop} (h1 : M → X) (h2 : M → Y) (h : M) : X ∧ Y := ⟨h1 h, h2 h⟩
theorem wpOT_both {o o' : Oper} {r r' : OT} {a : Act} {w : World} (h : wpList P ops (fun e a' w' => e = .normal ∧ S w' ∧ wpOT P ops S Q r a' w') [o] a w ∧ wpList P ops (fun e a' w' => e = .normal ∧ S w' ∧ wpOT P ops S Q r' a' w') [o'] a w) :
    wpOT P ops S Q (.two o r o' r') a w := wpOT_two h.1 h.2

theorem stepOT_op {k : Nat} {o : Oper} (ho : ops[k]? = some o) {K : Act → World → Prop} {a : Act} {w : World} (h : stepOT P ops S Q o K a w) : wpOp P ops (normalOnly Q) k (fun a' w' => S w' ∧ K a' w') a w := by
  unfold stepOT at h
  unfold wpOp
  simp only [ho]
  split
  · rename_i hw
    rw [if_pos hw] at h
    exact .inl h
  · rename_i hw
    rw [if_neg hw] at h
    exact h

theorem op_of_ready {k : Nat} {listed : Array Bool} (hk : k ∈ Region.ready .any ops listed) : ∃ o, ops[k]? = some o := by
  obtain ⟨_, o, ho, _⟩ := mem_ready.1 hk
  exact ⟨o, ho⟩

theorem takes_sound (hsel : Region.noSelect ops = true) {K : Act → Prop} : ∀ (l : List Nat) (n : Nat) (listed : Array Bool) (a : Act) (w : World), S w → takesB ops l listed = true →
    (∀ a', K a' → wpAnyH P .any ops (normalOnly Q) S n (marked l listed) a' w) → wpQuiet P ops S K (opsOf ops l) a → wpAnyH P .any ops (normalOnly Q) S (l.length + n) listed a w
  | [], n, listed, a, w, hS, hB, hK, h => by
    simp only [List.length_nil, Nat.zero_add]
    exact hK a (by simpa [opsOf, wpQuiet] using h)
  | k :: r, n, listed, a, w, hS, hB, hK, h => by
    simp only [takesB, Bool.and_eq_true] at hB
    obtain ⟨⟨⟨hr, hf⟩, hp⟩, hB'⟩ := hB
    obtain ⟨o, ho⟩ := op_of_ready (ops := ops) (show k ∈ Region.ready .any ops listed by simpa using hr)
    have e : opsOf ops (k :: r) = o :: opsOf ops r := by simp [opsOf, consOp, ho]
    rw [e] at h
    rw [show (k :: r).length + n = (r.length + n) + 1 by simp; omega]
    obtain ⟨v, hy, hrest⟩ : ∃ v, YieldsIf P ops S o v a ∧ wpQuiet P ops S K (opsOf ops r) (a.put o.dst v) := by
      unfold wpQuiet at h
      by_cases hw : Region.wanted o (yielded ops a.tmps) = true
      · rw [if_pos hw] at h
        obtain ⟨v, h1, h2⟩ := h
        refine ⟨v, .inl ⟨hw, fun W hW => ?_⟩, h2⟩
        have h3 := h1 W hW
        unfold Oper.quietAt at h3
        cases hrun : (execOp a.eval o).run P W with
        | ok x W' =>
          rw [hrun] at h3
          cases x <;> simp only [Oper.quietUpon] at h3
          case value u => rw [h3.1, h3.2]
          case skip => exact absurd hrun (plain_not_enter ho hp a.eval W 0 #[] W').2
          case enter f args => exact absurd hrun (plain_not_enter ho hp a.eval W f args W').1
        | halt x W' => rw [hrun] at h3; simp only [Oper.quietUpon] at h3
      · rw [if_neg hw] at h
        exact ⟨undef, .inr ⟨by simpa using hw, rfl⟩, h⟩
    exact wpAnyH_take ho hsel hf hr (fun _ _ _ h => h) hy hS (takes_sound hsel r n _ _ w hS hB' hK hrest)

theorem tree_sound (hsel : Region.noSelect ops = true) : ∀ (t : TT) (listed : Array Bool) (a : Act) (w : World), S w → treeB ops t listed = true → wpOT P ops S Q (treeOf ops t) a w → wpAnyH P .any ops (normalOnly Q) S t.len listed a w
  | .done, listed, a, w, hS, hB, h => wpAnyH_done (Q := normalOnly Q) (by simpa [treeB] using hB) (show normalOnly Q .normal a w from h) _
  | .take l r, listed, a, w, hS, hB, h => by
    simp only [treeB, Bool.and_eq_true] at hB
    exact takes_sound hsel l r.len listed a w hS hB.1 (fun a' h' => tree_sound hsel r _ a' w hS hB.2 h') h
  | .one k r, listed, a, w, hS, hB, h => by
    simp only [treeB, Bool.and_eq_true, beq_iff_eq] at hB
    obtain ⟨hr, hB'⟩ := hB
    obtain ⟨o, ho⟩ := op_of_ready (ops := ops) (show k ∈ Region.ready .any ops listed by rw [hr]; exact List.mem_singleton_self k)
    simp only [treeOf, ho, oneOp, wpOT] at h
    refine wpAnyH_all hr (by simp) fun i hi => ?_
    obtain rfl := List.mem_singleton.1 hi
    exact wpOp_mono (fun a' w' h' => ⟨h'.1, tree_sound hsel r _ a' w' h'.1 hB' h'.2⟩) (stepOT_op ho h)
  | .two k r k' r', listed, a, w, hS, hB, h => by
    simp only [treeB, Bool.and_eq_true, Bool.or_eq_true, beq_iff_eq, decide_eq_true_eq] at hB
    obtain ⟨⟨⟨hr, hlen⟩, hB1⟩, hB2⟩ := hB
    have hmem : ∀ i, i ∈ Region.ready .any ops listed ↔ i = k ∨ i = k' := fun i => by
      rcases hr with hr | hr <;> rw [hr] <;> simp [or_comm]
    obtain ⟨o, ho⟩ := op_of_ready (ops := ops) ((hmem k).2 (.inl rfl))
    obtain ⟨o', ho'⟩ := op_of_ready (ops := ops) ((hmem k').2 (.inr rfl))
    simp only [treeOf, ho, ho', twoOp, wpOT] at h
    refine wpAnyH_all rfl (by rcases hr with hr | hr <;> rw [hr] <;> simp) fun i hi => ?_
    rcases (hmem i).1 hi with rfl | rfl
    · exact wpOp_mono (fun a' w' h' => ⟨h'.1, tree_sound hsel r _ a' w' h'.1 hB1 h'.2⟩) (stepOT_op ho h.1)
    · refine wpOp_mono (fun a' w' h' => ⟨h'.1, ?_⟩) (stepOT_op ho' h.2)
      show wpAnyH P .any ops (normalOnly Q) S r.len _ a' w'
      rw [hlen]
      exact tree_sound hsel r' _ a' w' h'.1 hB2 h'.2

/-- THE THEOREM: S holds at the start and behind every operation; what is taken yields one value in every world that meets S. -/
theorem wp_region_tree {id : Nat} {l : List Oper} {a : Act} {w : World} (t : TT) (S : World → Prop) (ot : OT) (hm : P.follows .mixedOrders = true)
    (hB : (treeB l.toArray t (Array.replicate l.toArray.size false) && decide (t.len = l.toArray.size) && Region.noSelect l.toArray) = true)
    (h2 : treeOf l.toArray t = ot) (hS : S w.drew)
    (h : ∀ (ι : Type) [Inhabited ι] (f : ι → World), (∀ p, S (f p)) → (∀ W, S W → ∃ p, W = f p) → wpOT P l.toArray (fun W => ∃ p, W = f p) Q ot a w.drew) : (Code.region id l.toArray true).wp P Q a w := by
  simp only [Bool.and_eq_true, decide_eq_true_eq] at hB
  obtain ⟨⟨hB, hlen⟩, hsel⟩ := hB
  have hC : (fun W => ∃ p : {W : World // S W}, W = p.1) = S := by
    funext W
    exact propext ⟨fun ⟨p, hp⟩ => hp ▸ p.2, fun hW => ⟨⟨W, hW⟩, rfl⟩⟩
  have h' := @h {W : World // S W} ⟨⟨_, hS⟩⟩ (fun p => p.1) (fun p => p.2) (fun W hW => ⟨⟨W, hW⟩, rfl⟩)
  rw [hC, ← h2] at h'
  have key := tree_sound (Q := Q) hsel t _ a w.drew hS hB h'
  rw [hlen] at key
  exact Go.wp_mono (wp_region_held (Q := normalOnly Q) hm key) fun e a w hq => by cases e <;> first | exact hq | exact hq.elim
end
end Go.Proofs.YtcoelhpmkhimpaaGreatDoor
