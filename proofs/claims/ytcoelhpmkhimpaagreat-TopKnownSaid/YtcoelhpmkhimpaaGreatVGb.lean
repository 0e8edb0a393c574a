/- A region that draws its order, some of whose operations only read (they yield one value in every world that meets S), while the others follow each other in one forced order: walked once. -/
import Derived.Test.YtcoelhpmkhimpaaGreatVBase
import Derived.OrdersHeld
import Derived.Maps.AppendAt
import Derived.RangeFuncFrom
import Derived.RangeFuncLeaves
import Derived.RangeFuncRecord
import Derived.RangeFuncBox
import Derived.RangeFuncWrites
import Derived.OwnWalkIn
import Derived.TacticsInMore
import Derived.LoopNIn
import Derived.LoopIn
import Derived.RangeFuncNested
import Derived.OrdersIn
namespace Go.Proofs.YtcoelhpmkhimpaaGreat
open Go.RowKit
set_option linter.unusedVariables false

section
variable {P : Program} {ops : Array Oper} {S : World → Prop} {Q : Exit → Act → World → Prop}

/-- an operation that is no call, but of 'len' -/
def plainOp (ops : Array Oper) (k : Nat) : Bool :=
  match ops[k]? with
  | some o => (match o.op with
    | .call { callee := .builtin .len, .. } => true
    | .call { callee := .builtin .max, .. } => true
    | .call { callee := .builtin .min, .. } => true
    | .call _ | .go _ | .defer _ | .send .. | .recv .. | .select .. | .store .. | .mapUpdate .. | .entryStore .. | .insert .. | .ready _ => false
    | _ => true)
  | none => false

theorem run_value_bind {s : Sem Value} {w : World} {f : FuncId} {args : Array Value} {w' : World} : ((do let x ← s; pure (Next.value x)) : Sem Next).run P w ≠ .ok (.enter f args) w' ∧ ((do let x ← s; pure (Next.value x)) : Sem Next).run P w ≠ .ok .skip w' := by
  constructor <;>
  · intro h
    rw [Sem.run_bind] at h
    cases hs : s.run P w <;> simp [hs, Result.andThen] at h
theorem plain_not_enter {k : Nat} {o : Oper} (ho : ops[k]? = some o) (h : plainOp ops k = true) (ρ : Operand → Value) (w : World) (f : FuncId) (args : Array Value) (w' : World) : (execOp ρ o).run P w ≠ .ok (.enter f args) w' ∧ (execOp ρ o).run P w ≠ .ok .skip w' := by
  obtain ⟨dst, op, type, pos, after, guard⟩ := o
  simp only [plainOp, ho] at h
  cases op
  case call c =>
    obtain ⟨callee, cargs, ats⟩ := c
    cases callee with
    | builtin b =>
      cases b <;> simp at h
      case len =>
        simp only [execOp, resolve, invoke, Sem.run_bind, Sem.run_pure, Result.andThen_ok, builtin]
        constructor <;>
        · intro h
          cases hs : (Builtin.len_ ats type (Array.map ρ cargs)).run P w <;> simp [hs, Result.andThen] at h
      case max =>
        simp only [execOp, resolve, invoke, Sem.run_bind, Sem.run_pure, Result.andThen_ok, builtin]
        constructor <;>
        · intro h
          cases hs : (Builtin.max_ ats type (Array.map ρ cargs)).run P w <;> simp [hs, Result.andThen] at h
      case min =>
        simp only [execOp, resolve, invoke, Sem.run_bind, Sem.run_pure, Result.andThen_ok, builtin]
        constructor <;>
        · intro h
          cases hs : (Builtin.min_ ats type (Array.map ρ cargs)).run P w <;> simp [hs, Result.andThen] at h
    | value f => simp at h
    | invoke r m => simp at h
  case pick c a b =>
    constructor <;>
    · intro h
      simp only [execOp] at h
      rw [Sem.run_bind] at h
      cases hs : (asBool (ρ c)).run P w <;> simp [hs, Result.andThen] at h
  case nilCheck x =>
    constructor
    · intro h
      simp only [execOp] at h
      split at h
      · simp [runtimePanic] at h
      · simp [runtimePanic] at h
      · simp [runtimePanic] at h
      · rename_i name first captured heq
        split at h
        · simp [runtimePanic] at h
        · rename_i t v hf
          rw [Sem.run_bind] at h
          revert h
          cases (program).run P w with
          | halt x w1 => simp [Result.andThen]
          | ok p w1 =>
            simp only [Result.andThen_ok]
            rw [Sem.run_bind]
            cases (nilAhead (p.types.size + Made.depth) t v name).run P w1 with
            | halt x w2 => simp [Result.andThen]
            | ok q w2 =>
              simp only [Result.andThen_ok]
              split <;> simp
        · simp at h
      · simp at h
    · intro h
      simp only [execOp] at h
      split at h
      · simp [runtimePanic] at h
      · simp [runtimePanic] at h
      · simp [runtimePanic] at h
      · rename_i name first captured heq
        split at h
        · simp [runtimePanic] at h
        · rename_i t v hf
          rw [Sem.run_bind] at h
          revert h
          cases (program).run P w with
          | halt x w1 => simp [Result.andThen]
          | ok p w1 =>
            simp only [Result.andThen_ok]
            rw [Sem.run_bind]
            cases (nilAhead (p.types.size + Made.depth) t v name).run P w1 with
            | halt x w2 => simp [Result.andThen]
            | ok q w2 =>
              simp only [Result.andThen_ok]
              split <;> simp
        · simp at h
      · simp at h
  all_goals first | (simp at h; done) | (simp only [execOp]; first | exact run_value_bind | (constructor <;> (intro h; simp at h; done)))

/-- what is asked of a region's end alone -/
def normalOnly (Q : Exit → Act → World → Prop) : Exit → Act → World → Prop
  | .normal, a, w => Q .normal a w
  | _, _, _ => False

/-- the operations that follow each other: S is shown anew behind each whose mark is false -/
def wpListS (P : Program) (ops : Array Oper) (S : World → Prop) (Q : Exit → Act → World → Prop) : List (Oper × Bool) → Act → World → Prop
  | [], a, w => Q .normal a w
  | (o, fin) :: rest, a, w => if Region.wanted o (yielded ops a.tmps) then o.wp P a w (fun a' w' => (fin = false → S w') ∧ wpListS P ops S Q rest a' w') (normalOnly Q) else (fin = false → S w) ∧ wpListS P ops S Q rest (a.put o.dst undef) w

theorem Oper.wp_monoQ {o : Oper} {a : Act} {w : World} {K : Act → World → Prop} {Q Q' : Exit → Act → World → Prop} (hq : ∀ e a w, e ≠ .normal → Q e a w → Q' e a w) (h : o.wp P a w K Q) : o.wp P a w K Q' := by
  unfold Oper.wp at *
  revert h
  cases hr : (execOp a.eval o).run P w with
  | ok n w' =>
    cases n <;> simp only [Oper.upon] <;> intro h <;> try exact h
    refine Calls.mono h fun e w'' he => ?_
    cases e with
    | returned u => exact he
    | panicked c => exact hq _ _ _ (by simp) he
    | outgrown => obtain ⟨a0, w0, h0⟩ := he; exact ⟨a0, w0, hq _ _ _ (by simp) h0⟩
  | halt x w' =>
    cases x <;> simp only [Oper.upon] <;> intro h <;> first | exact hq _ _ _ (by simp) h | exact h

theorem wpListS_nil {a : Act} {w : World} (h : Q .normal a w) : wpListS P ops S Q [] a w := h
/-- one of them, by the walk's own form -/
theorem wpListS_step {o : Oper} {rest : List (Oper × Bool)} {a : Act} {w : World} (h : wpList P ops (fun e a' w' => e = .normal ∧ S w' ∧ wpListS P ops S Q rest a' w') [o] a w) : wpListS P ops S Q ((o, false) :: rest) a w := by
  unfold wpList at h
  unfold wpListS
  split
  · rename_i hwd
    rw [if_pos hwd] at h
    rcases h with h | ⟨_, a0, w0, h0, _⟩
    · refine Oper.wp_monoQ (Q := fun e a' w' => e = .normal ∧ S w' ∧ wpListS P ops S Q rest a' w') ?_ (Go.Oper.wp_mono (fun a' w' h' => ?_) h)
      · intro e a' w' hne h'
        exact absurd h'.1 hne
      · simp only [wpList] at h'
        exact ⟨fun _ => h'.2.1, h'.2.2⟩
    · cases h0
  · rename_i hwd
    rw [if_neg hwd] at h
    simp only [wpList] at h
    exact ⟨fun _ => h.2.1, h.2.2⟩
/-- one that comes behind all that only read -/
theorem wpListS_last {o : Oper} {rest : List (Oper × Bool)} {a : Act} {w : World} (h : wpList P ops (fun e a' w' => e = .normal ∧ wpListS P ops S Q rest a' w') [o] a w) : wpListS P ops S Q ((o, true) :: rest) a w := by
  unfold wpList at h
  unfold wpListS
  split
  · rename_i hwd
    rw [if_pos hwd] at h
    rcases h with h | ⟨_, a0, w0, h0, _⟩
    · refine Oper.wp_monoQ (Q := fun e a' w' => e = .normal ∧ wpListS P ops S Q rest a' w') ?_ (Go.Oper.wp_mono (fun a' w' h' => ?_) h)
      · intro e a' w' hne h'
        exact absurd h'.1 hne
      · simp only [wpList] at h'
        exact ⟨fun h => (by cases h), h'.2⟩
    · cases h0
  · rename_i hwd
    rw [if_neg hwd] at h
    simp only [wpList] at h
    exact ⟨fun h => (by cases h), h.2⟩

/-- operation k waits, by an edge of its own, for all of these -/
def waitsAll (ops : Array Oper) (pre : List Nat) (k : Nat) : Bool :=
  match ops[k]? with
  | some o => pre.all fun i => o.after.any fun e => Region.binds .any e && e.on == i
  | none => false

def mixTail (ops : Array Oper) (pre : List Nat) : List (Nat × Bool) → Array Bool → Bool
  | [], listed => (Region.ready .any ops listed).isEmpty
  | (k, fin) :: r, listed => (Region.ready .any ops listed == [k]) && (!fin || waitsAll ops pre k) && mixTail ops pre r (listed.setIfInBounds k true)
def mixGo (ops : Array Oper) (pre : List Nat) (tail : List (Nat × Bool)) : List Nat → Array Bool → Bool
  | [], listed => mixTail ops pre tail listed
  | k :: r, listed => (Region.ready .any ops listed).contains k && Region.free .any ops listed k && plainOp ops k && pre.contains k && mixGo ops pre tail r (listed.setIfInBounds k true)
def mixB (ops : Array Oper) (pre : List Nat) (tail : List (Nat × Bool)) : Bool :=
  Region.noSelect ops && decide (pre.length + tail.length = ops.size) && mixGo ops pre tail pre (Array.replicate ops.size false) && tail.all fun t => !t.2 || waitsAll ops pre t.1

def consOp : Option Oper → List Oper → List Oper
  | some o, l => o :: l
  | none, l => l
def consOpT : Option Oper → Bool → List (Oper × Bool) → List (Oper × Bool)
  | some o, f, l => (o, f) :: l
  | none, _, l => l
def opsOf (ops : Array Oper) : List Nat → List Oper
  | [] => []
  | k :: r => consOp ops[k]? (opsOf ops r)
def opsOfT (ops : Array Oper) : List (Nat × Bool) → List (Oper × Bool)
  | [] => []
  | (k, f) :: r => consOpT ops[k]? f (opsOfT ops r)

/-- whatever order is picked from here on, S holding behind every operation but those marked by 'fin' -/
def wpAnyK (P : Program) (ops : Array Oper) (Q : Exit → Act → World → Prop) (S : World → Prop) (fin : Nat → Bool) : Nat → Array Bool → Act → World → Prop
  | 0, listed, a, w => Region.ready .any ops listed = [] ∧ Q .normal a w
  | fuel + 1, listed, a, w => (Region.ready .any ops listed = [] → Q .normal a w) ∧
    ∀ i ∈ Region.ready .any ops listed, wpOp P ops Q i (fun a' w' => (fin i = false → S w') ∧ wpAnyK P ops Q S fin fuel (listed.setIfInBounds i true) a' w') a w

theorem wpAny_of_K {fin : Nat → Bool} : ∀ (fuel : Nat) (listed : Array Bool) (a : Act) (w : World), wpAnyK P ops Q S fin fuel listed a w → wpAny P .any ops Q fuel listed a w
  | 0, _, _, _, h => h
  | fuel + 1, _, _, _, h => ⟨h.1, fun i hi => wpOp_mono (fun a' w' h' => wpAny_of_K fuel _ a' w' h'.2) (h.2 i hi)⟩

/-- an operation that yields its value in every world that meets S may be taken first -/
theorem wpAnyK_first {fin : Nat → Bool} {i : Nat} {oi : Oper} {v : Value} (hi : ops[i]? = some oi) (hsel : Region.noSelect ops = true)
    (hQ : ∀ c a w, Q (.panic c) (a.put oi.dst v) w → Q (.panic c) a w)
    (hfin : ∀ j oj, fin j = true → ops[j]? = some oj → ∃ e ∈ oj.after, Region.binds .any e = true ∧ e.on = i) (hfi : fin i = false) :
    ∀ (fuel : Nat) (listed : Array Bool) (a : Act) (w : World), Region.free .any ops listed i = true →
      i ∈ Region.ready .any ops listed → YieldsIf P ops S oi v a → S w →
      wpAnyK P ops Q S fin fuel (listed.setIfInBounds i true) (a.put oi.dst v) w → wpAnyK P ops Q S fin (fuel + 1) listed a w := by
  have core : ∀ (fuel : Nat) (listed : Array Bool) (a : Act) (w : World),
      (∀ j oj, ops[j]? = some oj → j ≠ i → listed.getD j true = false → (∀ e ∈ oj.after, Region.binds .any e = true → e.on ≠ i) → oi.apart ops oj = true) →
      i ∈ Region.ready .any ops listed → YieldsIf P ops S oi v a → S w →
      wpAnyK P ops Q S fin fuel (listed.setIfInBounds i true) (a.put oi.dst v) w → wpAnyK P ops Q S fin (fuel + 1) listed a w := by
    intro fuel
    induction fuel with
    | zero =>
      intro listed a w _ hr hy hS H
      refine ⟨fun h => (by rw [h] at hr; cases hr), fun j hj => ?_⟩
      by_cases hji : j = i
      · subst hji
        exact hy.wpOp hi hS ⟨fun _ => hS, H⟩
      · have hm := ready_mono hj hji
        rw [H.1] at hm
        cases hm
    | succ fuel ih =>
      intro listed a w hfree hr hy hS H
      refine ⟨fun h => (by rw [h] at hr; cases hr), fun j hj => ?_⟩
      by_cases hji : j = i
      · subst hji
        exact hy.wpOp hi hS ⟨fun _ => hS, H⟩
      · obtain ⟨hjun, oj, hoj, hall⟩ := mem_ready.1 hj
        have hun : listed.getD i true = false := (mem_ready.1 hr).1
        have hun' : listed.getD i false = false := by
          rcases Nat.lt_or_ge i listed.size with h' | h'
          · simp [h'] at hun ⊢; exact hun
          · simp [Array.getElem?_eq_none h']
        have hnot : ∀ e ∈ oj.after, Region.binds .any e = true → e.on ≠ i := by
          intro e he hb heq
          have h1 := hall e he hb
          rw [heq, hun'] at h1
          cases h1
        have hfj : fin j = false := by
          cases hf : fin j with
          | false => rfl
          | true =>
            obtain ⟨e, he, hb, hon⟩ := hfin j oj hf hoj
            exact absurd hon (hnot e he hb)
        have h2 := wpOp_putIf hoj (hfree j oj hoj hji hjun hnot) (fun cs b => Region.noSelect_spec hsel i oi cs b hi) (fun cs b => Region.noSelect_spec hsel j oj cs b hoj) hQ hy (H.2 j (ready_mono hj hji))
        have hfree' : ∀ k ok, ops[k]? = some ok → k ≠ i → (listed.setIfInBounds j true).getD k true = false →
            (∀ e ∈ ok.after, Region.binds .any e = true → e.on ≠ i) → oi.apart ops ok = true := fun k ok hk hki hku hno => by
          refine hfree k ok hk hki ?_ hno
          by_cases hjk : j = k
          · subst hjk; exact hjun
          · rw [getD_set_ne true hjk] at hku; exact hku
        refine wpOp_mono (fun a' w' h3 => ⟨h3.2.1, ih (listed.setIfInBounds j true) a' w' hfree' (ready_mono hr (Ne.symm hji)) h3.1 (h3.2.1 hfj) ?_⟩) h2
        rw [Array.setIfInBounds_comm _ _ hji]
        exact h3.2.2
  intro fuel listed a w hf hr hy hS H
  exact core fuel listed a w (Region.free_spec hi hf) hr hy hS H

theorem mix_tail {pre : List Nat} {fin : Nat → Bool} : ∀ (r : List (Nat × Bool)) (listed : Array Bool) (a : Act) (w : World), (∀ t ∈ r, t.2 = true → fin t.1 = true) → mixTail ops pre r listed = true → wpListS P ops S Q (opsOfT ops r) a w → wpAnyK P ops (normalOnly Q) S fin r.length listed a w
  | [], listed, a, w, _, hB, h => ⟨by simpa [mixTail] using hB, h⟩
  | (k, f) :: r, listed, a, w, hf, hB, h => by
    simp only [mixTail, Bool.and_eq_true, beq_iff_eq] at hB
    obtain ⟨⟨hr, _⟩, hB'⟩ := hB
    have hk : k ∈ Region.ready .any ops listed := by rw [hr]; exact List.mem_singleton_self k
    obtain ⟨_, o, ho, _⟩ := mem_ready.1 hk
    refine ⟨fun h0 => (by rw [h0] at hr; cases hr), fun i hi => ?_⟩
    rw [hr] at hi
    obtain rfl := List.mem_singleton.1 hi
    have e : opsOfT ops ((i, f) :: r) = (o, f) :: opsOfT ops r := by simp [opsOfT, consOpT, ho]
    rw [e] at h
    have hf' : fin i = false → f = false := fun hfi => by
      cases f with
      | false => rfl
      | true => have := hf (i, true) (by simp) rfl; simp only at this; rw [hfi] at this; cases this
    have hrest : ∀ t ∈ r, t.2 = true → fin t.1 = true := fun t ht => hf t (List.mem_cons_of_mem _ ht)
    unfold wpListS at h
    unfold wpOp
    simp only [ho]
    split
    · rename_i hw
      rw [if_pos hw] at h
      exact .inl (Go.Oper.wp_mono (fun a' w' ⟨h1, h2⟩ => ⟨fun hfi => h1 (hf' hfi), mix_tail r _ a' w' hrest hB' h2⟩) h)
    · rename_i hw
      rw [if_neg hw] at h
      exact ⟨fun hfi => h.1 (hf' hfi), mix_tail r _ _ w hrest hB' h.2⟩

theorem mix_head {pre : List Nat} {tail : List (Nat × Bool)} (hsel : Region.noSelect ops = true) {fin : Nat → Bool} (hft : ∀ t ∈ tail, t.2 = true → fin t.1 = true)
    (hfin : ∀ i ∈ pre, ∀ j oj, fin j = true → ops[j]? = some oj → ∃ e ∈ oj.after, Region.binds .any e = true ∧ e.on = i) (hpre : ∀ i ∈ pre, fin i = false) :
    ∀ (r : List Nat) (listed : Array Bool) (a : Act) (w : World), mixGo ops pre tail r listed = true → S w →
    wpQuiet P ops S (fun a' => wpListS P ops S Q (opsOfT ops tail) a' w) (opsOf ops r) a → wpAnyK P ops (normalOnly Q) S fin (r.length + tail.length) listed a w
  | [], listed, a, w, hB, hS, h => by
    simp only [List.length_nil, Nat.zero_add]
    exact mix_tail tail listed a w hft (by simpa [mixGo] using hB) (by simpa [opsOf, wpQuiet] using h)
  | k :: r, listed, a, w, hB, hS, h => by
    simp only [mixGo, Bool.and_eq_true] at hB
    obtain ⟨⟨⟨⟨hr, hf⟩, hp⟩, hkp⟩, hB'⟩ := hB
    have hk : k ∈ Region.ready .any ops listed := by simpa using hr
    have hkpre : k ∈ pre := by simpa using hkp
    obtain ⟨_, o, ho, _⟩ := mem_ready.1 hk
    have e : opsOf ops (k :: r) = o :: opsOf ops r := by simp [opsOf, consOp, ho]
    rw [e] at h
    rw [show (k :: r).length + tail.length = (r.length + tail.length) + 1 by simp; omega]
    obtain ⟨v, hy, hrest⟩ : ∃ v, YieldsIf P ops S o v a ∧ wpQuiet P ops S (fun a' => wpListS P ops S Q (opsOfT ops tail) a' w) (opsOf ops r) (a.put o.dst v) := by
      unfold wpQuiet at h
      by_cases hw : Region.wanted o (yielded ops a.tmps) = true
      · rw [if_pos hw] at h
        obtain ⟨v, h1, h2⟩ := h
        refine ⟨v, .inl ⟨hw, fun W hW => ?_⟩, h2⟩
        have h3 := h1 W hW
        unfold Oper.quietAt at h3
        cases hrun : (execOp a.eval o).run P W with
        | ok x W' =>
          rw [hrun] at h3
          cases x <;> simp only [Oper.quietUpon] at h3
          case value u => rw [h3.1, h3.2]
          case skip => exact absurd hrun (plain_not_enter ho hp a.eval W 0 #[] W').2
          case enter f args => exact absurd hrun (plain_not_enter ho hp a.eval W f args W').1
        | halt x W' => rw [hrun] at h3; simp only [Oper.quietUpon] at h3
      · rw [if_neg hw] at h
        exact ⟨undef, .inr ⟨by simpa using hw, rfl⟩, h⟩
    exact wpAnyK_first ho hsel (fun _ _ _ h => h) (hfin k hkpre) (hpre k hkpre) _ _ a w hf hk hy hS (mix_head hsel hft hfin hpre r _ _ w hB' hS hrest)

/-- the marks, as a function of the number -/
def finOf (ops : Array Oper) (pre : List Nat) (k : Nat) : Bool := waitsAll ops pre k && !pre.contains k

/-- THE THEOREM. The operations 'pre' only read: each yields one value in every world that meets S; the operations 'tail' can come in this order alone; S holds behind each of them, but behind those that wait for all of 'pre' (mark true). -/
theorem wp_region_mix {id : Nat} {l : List Oper} {a : Act} {w : World} (pre : List Nat) (tail : List (Nat × Bool)) (S : World → Prop) (l1 : List Oper) (l2 : List (Oper × Bool)) (hm : P.follows .mixedOrders = true)
    (hB : mixB l.toArray pre tail = true) (hd : (tail.all fun t => !pre.contains t.1) = true)
    (h1 : opsOf l.toArray pre = l1) (h2 : opsOfT l.toArray tail = l2) (hS : S w.drew)
    (h : ∀ (ι : Type) [Inhabited ι] (f : ι → World), (∀ p, S (f p)) → wpQuiet P l.toArray (fun W => ∃ p, W = f p) (fun a' => wpListS P l.toArray S Q l2 a' w.drew) l1 a) : (Code.region id l.toArray true).wp P Q a w := by
  simp only [mixB, Bool.and_eq_true, decide_eq_true_eq] at hB
  obtain ⟨⟨⟨hsel, hlen⟩, hB⟩, hw⟩ := hB
  have hC : (fun W => ∃ p : {W : World // S W}, W = p.1) = S := by
    funext W
    exact propext ⟨fun ⟨p, hp⟩ => hp ▸ p.2, fun hW => ⟨⟨W, hW⟩, rfl⟩⟩
  have h' := @h {W : World // S W} ⟨⟨_, hS⟩⟩ (fun p => p.1) (fun p => p.2)
  rw [hC, ← h1, ← h2] at h'
  have hft : ∀ t ∈ tail, t.2 = true → finOf l.toArray pre t.1 = true := by
    intro t ht h2
    have e1 := List.all_eq_true.1 hw t ht
    have e2 := List.all_eq_true.1 hd t ht
    rw [h2] at e1
    unfold finOf
    rw [Bool.and_eq_true]
    exact ⟨by simpa using e1, e2⟩
  have hfin : ∀ i ∈ pre, ∀ j oj, finOf l.toArray pre j = true → l.toArray[j]? = some oj → ∃ e ∈ oj.after, Region.binds .any e = true ∧ e.on = i := by
    intro i hi j oj hf hoj
    unfold finOf waitsAll at hf
    rw [hoj] at hf
    simp only [Bool.and_eq_true] at hf
    have := List.all_eq_true.1 hf.1 i hi
    obtain ⟨e, he, hb⟩ := Array.any_eq_true'.1 this
    simp only [Bool.and_eq_true, beq_iff_eq] at hb
    exact ⟨e, he, hb.1, hb.2⟩
  have hpre : ∀ i ∈ pre, finOf l.toArray pre i = false := by
    intro i hi
    unfold finOf
    have : pre.contains i = true := by simpa using hi
    rw [this]
    simp
  have key := wpAny_of_K _ _ _ _ (mix_head (Q := Q) hsel hft hfin hpre pre _ a w.drew hB hS h')
  have hq : (Code.region id l.toArray true).wp P (normalOnly Q) a w := by
    refine wp_region_any hm ?_
    rw [hlen] at key
    exact key
  exact Go.wp_mono hq fun e a w hq => by cases e <;> first | exact hq | exact hq.elim
end
end Go.Proofs.YtcoelhpmkhimpaaGreat

/- A region that draws its order: a tree of the orders that matter; what only reads is taken first wherever it may come up, what changes the world comes in each order that the tree names. -/
namespace Go.Proofs.YtcoelhpmkhimpaaGreat
open Go.RowKit
set_option linter.unusedVariables false

/-- the plan: 'take' some that only read; 'one' that must come next; 'two' of which either may come next -/
inductive TT where
  | done
  | take (l : List Nat) (r : TT)
  | one (k : Nat) (r : TT)
  | two (k : Nat) (r : TT) (k' : Nat) (r' : TT)
def TT.len : TT → Nat
  | .done => 0
  | .take l r => l.length + r.len
  | .one _ r => r.len + 1
  | .two _ r _ _ => r.len + 1
/-- the plan with the operations themselves -/
inductive OT where
  | done
  | take (l : List Oper) (r : OT)
  | one (o : Oper) (r : OT)
  | two (o : Oper) (r : OT) (o' : Oper) (r' : OT)
def oneOp : Option Oper → OT → OT
  | some o, r => .one o r
  | none, r => r
def twoOp : Option Oper → OT → Option Oper → OT → OT
  | some o, r, some o', r' => .two o r o' r'
  | _, r, _, _ => r
def treeOf (ops : Array Oper) : TT → OT
  | .done => .done
  | .take l r => .take (opsOf ops l) (treeOf ops r)
  | .one k r => oneOp ops[k]? (treeOf ops r)
  | .two k r k' r' => twoOp ops[k]? (treeOf ops r) ops[k']? (treeOf ops r')

def takesB (ops : Array Oper) : List Nat → Array Bool → Bool
  | [], _ => true
  | k :: r, listed => (Region.ready .any ops listed).contains k && Region.free .any ops listed k && plainOp ops k && takesB ops r (listed.setIfInBounds k true)
def marked : List Nat → Array Bool → Array Bool
  | [], listed => listed
  | k :: r, listed => marked r (listed.setIfInBounds k true)
def treeB (ops : Array Oper) : TT → Array Bool → Bool
  | .done, listed => (Region.ready .any ops listed).isEmpty
  | .take l r, listed => takesB ops l listed && treeB ops r (marked l listed)
  | .one k r, listed => (Region.ready .any ops listed == [k]) && treeB ops r (listed.setIfInBounds k true)
  | .two k r k' r', listed => (Region.ready .any ops listed == [k, k'] || Region.ready .any ops listed == [k', k]) && decide (r.len = r'.len) && treeB ops r (listed.setIfInBounds k true) && treeB ops r' (listed.setIfInBounds k' true)

section
variable {P : Program} {ops : Array Oper} {S : World → Prop} {Q : Exit → Act → World → Prop}

def stepOT (P : Program) (ops : Array Oper) (S : World → Prop) (Q : Exit → Act → World → Prop) (o : Oper) (K : Act → World → Prop) (a : Act) (w : World) : Prop :=
  if Region.wanted o (yielded ops a.tmps) then o.wp P a w (fun a' w' => S w' ∧ K a' w') (normalOnly Q) else S w ∧ K (a.put o.dst undef) w
def wpOT (P : Program) (ops : Array Oper) (S : World → Prop) (Q : Exit → Act → World → Prop) : OT → Act → World → Prop
  | .done, a, w => Q .normal a w
  | .take l r, a, w => wpQuiet P ops S (fun a' => wpOT P ops S Q r a' w) l a
  | .one o r, a, w => stepOT P ops S Q o (wpOT P ops S Q r) a w
  | .two o r o' r', a, w => stepOT P ops S Q o (wpOT P ops S Q r) a w ∧ stepOT P ops S Q o' (wpOT P ops S Q r') a w

theorem stepOT_of {o : Oper} {K : Act → World → Prop} {a : Act} {w : World} (h : wpList P ops (fun e a' w' => e = .normal ∧ S w' ∧ K a' w') [o] a w) : stepOT P ops S Q o K a w := by
  unfold wpList at h
  unfold stepOT
  split
  · rename_i hwd
    rw [if_pos hwd] at h
    rcases h with h | ⟨_, a0, w0, h0, _⟩
    · refine Oper.wp_monoQ (Q := fun e a' w' => e = .normal ∧ S w' ∧ K a' w') ?_ (Go.Oper.wp_mono (fun a' w' h' => ?_) h)
      · intro e a' w' hne h'
        exact absurd h'.1 hne
      · simp only [wpList] at h'
        exact h'.2
    · cases h0
  · rename_i hwd
    rw [if_neg hwd] at h
    simp only [wpList] at h
    exact h.2
theorem wpOT_done {a : Act} {w : World} (h : Q .normal a w) : wpOT P ops S Q .done a w := h
theorem wpOT_take {l : List Oper} {r : OT} {a : Act} {w : World} (h : wpQuiet P ops S (fun a' => wpOT P ops S Q r a' w) l a) : wpOT P ops S Q (.take l r) a w := h
theorem wpOT_one {o : Oper} {r : OT} {a : Act} {w : World} (h : wpList P ops (fun e a' w' => e = .normal ∧ S w' ∧ wpOT P ops S Q r a' w') [o] a w) : wpOT P ops S Q (.one o r) a w := stepOT_of h
theorem wpOT_two {o o' : Oper} {r r' : OT} {a : Act} {w : World} (h : wpList P ops (fun e a' w' => e = .normal ∧ S w' ∧ wpOT P ops S Q r a' w') [o] a w) (h' : wpList P ops (fun e a' w' => e = .normal ∧ S w' ∧ wpOT P ops S Q r' a' w') [o'] a w) :
    wpOT P ops S Q (.two o r o' r') a w := ⟨stepOT_of h, stepOT_of h'⟩

/-- two orders that come to the same kind of end -/
theorem join_two {F M : Nat → Nat → World → Prop} {X Y : Prop} (h1 : (∀ p q W, F p q W → M p q W) → X) (h2 : (∀ p q W, F p q W → M p q W) → Y) (h : ∀ p q W, F p q W → M p q W) : X ∧ Y := ⟨h1 h, h2 h⟩
theorem join_same {M X Y : Prop} (h1 : M → X) (h2 : M → Y) (h : M) : X ∧ Y := ⟨h1 h, h2 h⟩
theorem wpOT_both {o o' : Oper} {r r' : OT} {a : Act} {w : World} (h : wpList P ops (fun e a' w' => e = .normal ∧ S w' ∧ wpOT P ops S Q r a' w') [o] a w ∧ wpList P ops (fun e a' w' => e = .normal ∧ S w' ∧ wpOT P ops S Q r' a' w') [o'] a w) :
    wpOT P ops S Q (.two o r o' r') a w := wpOT_two h.1 h.2

theorem stepOT_op {k : Nat} {o : Oper} (ho : ops[k]? = some o) {K : Act → World → Prop} {a : Act} {w : World} (h : stepOT P ops S Q o K a w) : wpOp P ops (normalOnly Q) k (fun a' w' => S w' ∧ K a' w') a w := by
  unfold stepOT at h
  unfold wpOp
  simp only [ho]
  split
  · rename_i hw
    rw [if_pos hw] at h
    exact .inl h
  · rename_i hw
    rw [if_neg hw] at h
    exact h

theorem op_of_ready {k : Nat} {listed : Array Bool} (hk : k ∈ Region.ready .any ops listed) : ∃ o, ops[k]? = some o := by
  obtain ⟨_, o, ho, _⟩ := mem_ready.1 hk
  exact ⟨o, ho⟩

theorem takes_sound (hsel : Region.noSelect ops = true) {K : Act → Prop} : ∀ (l : List Nat) (n : Nat) (listed : Array Bool) (a : Act) (w : World), S w → takesB ops l listed = true →
    (∀ a', K a' → wpAnyH P .any ops (normalOnly Q) S n (marked l listed) a' w) → wpQuiet P ops S K (opsOf ops l) a → wpAnyH P .any ops (normalOnly Q) S (l.length + n) listed a w
  | [], n, listed, a, w, hS, hB, hK, h => by
    simp only [List.length_nil, Nat.zero_add]
    exact hK a (by simpa [opsOf, wpQuiet] using h)
  | k :: r, n, listed, a, w, hS, hB, hK, h => by
    simp only [takesB, Bool.and_eq_true] at hB
    obtain ⟨⟨⟨hr, hf⟩, hp⟩, hB'⟩ := hB
    obtain ⟨o, ho⟩ := op_of_ready (ops := ops) (show k ∈ Region.ready .any ops listed by simpa using hr)
    have e : opsOf ops (k :: r) = o :: opsOf ops r := by simp [opsOf, consOp, ho]
    rw [e] at h
    rw [show (k :: r).length + n = (r.length + n) + 1 by simp; omega]
    obtain ⟨v, hy, hrest⟩ : ∃ v, YieldsIf P ops S o v a ∧ wpQuiet P ops S K (opsOf ops r) (a.put o.dst v) := by
      unfold wpQuiet at h
      by_cases hw : Region.wanted o (yielded ops a.tmps) = true
      · rw [if_pos hw] at h
        obtain ⟨v, h1, h2⟩ := h
        refine ⟨v, .inl ⟨hw, fun W hW => ?_⟩, h2⟩
        have h3 := h1 W hW
        unfold Oper.quietAt at h3
        cases hrun : (execOp a.eval o).run P W with
        | ok x W' =>
          rw [hrun] at h3
          cases x <;> simp only [Oper.quietUpon] at h3
          case value u => rw [h3.1, h3.2]
          case skip => exact absurd hrun (plain_not_enter ho hp a.eval W 0 #[] W').2
          case enter f args => exact absurd hrun (plain_not_enter ho hp a.eval W f args W').1
        | halt x W' => rw [hrun] at h3; simp only [Oper.quietUpon] at h3
      · rw [if_neg hw] at h
        exact ⟨undef, .inr ⟨by simpa using hw, rfl⟩, h⟩
    exact wpAnyH_take ho hsel hf hr (fun _ _ _ h => h) hy hS (takes_sound hsel r n _ _ w hS hB' hK hrest)

theorem tree_sound (hsel : Region.noSelect ops = true) : ∀ (t : TT) (listed : Array Bool) (a : Act) (w : World), S w → treeB ops t listed = true → wpOT P ops S Q (treeOf ops t) a w → wpAnyH P .any ops (normalOnly Q) S t.len listed a w
  | .done, listed, a, w, hS, hB, h => wpAnyH_done (Q := normalOnly Q) (by simpa [treeB] using hB) (show normalOnly Q .normal a w from h) _
  | .take l r, listed, a, w, hS, hB, h => by
    simp only [treeB, Bool.and_eq_true] at hB
    exact takes_sound hsel l r.len listed a w hS hB.1 (fun a' h' => tree_sound hsel r _ a' w hS hB.2 h') h
  | .one k r, listed, a, w, hS, hB, h => by
    simp only [treeB, Bool.and_eq_true, beq_iff_eq] at hB
    obtain ⟨hr, hB'⟩ := hB
    obtain ⟨o, ho⟩ := op_of_ready (ops := ops) (show k ∈ Region.ready .any ops listed by rw [hr]; exact List.mem_singleton_self k)
    simp only [treeOf, ho, oneOp, wpOT] at h
    refine wpAnyH_all hr (by simp) fun i hi => ?_
    obtain rfl := List.mem_singleton.1 hi
    exact wpOp_mono (fun a' w' h' => ⟨h'.1, tree_sound hsel r _ a' w' h'.1 hB' h'.2⟩) (stepOT_op ho h)
  | .two k r k' r', listed, a, w, hS, hB, h => by
    simp only [treeB, Bool.and_eq_true, Bool.or_eq_true, beq_iff_eq, decide_eq_true_eq] at hB
    obtain ⟨⟨⟨hr, hlen⟩, hB1⟩, hB2⟩ := hB
    have hmem : ∀ i, i ∈ Region.ready .any ops listed ↔ i = k ∨ i = k' := fun i => by
      rcases hr with hr | hr <;> rw [hr] <;> simp [or_comm]
    obtain ⟨o, ho⟩ := op_of_ready (ops := ops) ((hmem k).2 (.inl rfl))
    obtain ⟨o', ho'⟩ := op_of_ready (ops := ops) ((hmem k').2 (.inr rfl))
    simp only [treeOf, ho, ho', twoOp, wpOT] at h
    refine wpAnyH_all rfl (by rcases hr with hr | hr <;> rw [hr] <;> simp) fun i hi => ?_
    rcases (hmem i).1 hi with rfl | rfl
    · exact wpOp_mono (fun a' w' h' => ⟨h'.1, tree_sound hsel r _ a' w' h'.1 hB1 h'.2⟩) (stepOT_op ho h.1)
    · refine wpOp_mono (fun a' w' h' => ⟨h'.1, ?_⟩) (stepOT_op ho' h.2)
      show wpAnyH P .any ops (normalOnly Q) S r.len _ a' w'
      rw [hlen]
      exact tree_sound hsel r' _ a' w' h'.1 hB2 h'.2

/-- THE THEOREM: S holds at the start and behind every operation; what is taken yields one value in every world that meets S. -/
theorem wp_region_tree {id : Nat} {l : List Oper} {a : Act} {w : World} (t : TT) (S : World → Prop) (ot : OT) (hm : P.follows .mixedOrders = true)
    (hB : (treeB l.toArray t (Array.replicate l.toArray.size false) && decide (t.len = l.toArray.size) && Region.noSelect l.toArray) = true)
    (h2 : treeOf l.toArray t = ot) (hS : S w.drew)
    (h : ∀ (ι : Type) [Inhabited ι] (f : ι → World), (∀ p, S (f p)) → (∀ W, S W → ∃ p, W = f p) → wpOT P l.toArray (fun W => ∃ p, W = f p) Q ot a w.drew) : (Code.region id l.toArray true).wp P Q a w := by
  simp only [Bool.and_eq_true, decide_eq_true_eq] at hB
  obtain ⟨⟨hB, hlen⟩, hsel⟩ := hB
  have hC : (fun W => ∃ p : {W : World // S W}, W = p.1) = S := by
    funext W
    exact propext ⟨fun ⟨p, hp⟩ => hp ▸ p.2, fun hW => ⟨⟨W, hW⟩, rfl⟩⟩
  have h' := @h {W : World // S W} ⟨⟨_, hS⟩⟩ (fun p => p.1) (fun p => p.2) (fun W hW => ⟨⟨W, hW⟩, rfl⟩)
  rw [hC, ← h2] at h'
  have key := tree_sound (Q := Q) hsel t _ a w.drew hS hB h'
  rw [hlen] at key
  exact Go.wp_mono (wp_region_held (Q := normalOnly Q) hm key) fun e a w hq => by cases e <;> first | exact hq | exact hq.elim
end
end Go.Proofs.YtcoelhpmkhimpaaGreat

/- A region that draws its order, walked by an invariant over what has been listed: what only reads is taken first; the others come in any order that the edges allow, each keeping the invariant of the state that follows. -/
namespace Go.Proofs.YtcoelhpmkhimpaaGreat
open Go.RowKit
set_option linter.unusedVariables false
set_option linter.unusedSimpArgs false

/-- operation j waits for i, by way of others if need be -/
def reachB (ops : Array Oper) : Nat → Nat → Nat → Bool
  | 0, _, _ => false
  | n + 1, i, j => match ops[j]? with
    | some o => o.after.any fun e => Region.binds .any e && (e.on == i || reachB ops n i e.on)
    | none => false
def Closed (ops : Array Oper) (listed : Array Bool) : Prop := ∀ j oj, ops[j]? = some oj → listed.getD j false = true → ∀ e ∈ oj.after, Region.binds .any e = true → listed.getD e.on false = true

theorem reach_listed {ops : Array Oper} {listed : Array Bool} (hc : Closed ops listed) {i : Nat} : ∀ (n : Nat) (j : Nat) (oj : Oper), ops[j]? = some oj → (∀ e ∈ oj.after, Region.binds .any e = true → listed.getD e.on false = true) → reachB ops n i j = true → listed.getD i false = true
  | 0, _, _, _, _, h => by simp [reachB] at h
  | n + 1, j, oj, hj, hall, h => by
    simp only [reachB, hj] at h
    obtain ⟨e, he, hb⟩ := Array.any_eq_true'.1 h
    simp only [Bool.and_eq_true, Bool.or_eq_true, beq_iff_eq] at hb
    obtain ⟨hbind, hor⟩ := hb
    have hl := hall e he hbind
    rcases hor with rfl | hr
    · exact hl
    · cases hk : ops[e.on]? with
      | none =>
        cases n with
        | zero => simp [reachB] at hr
        | succ n => simp [reachB, hk] at hr
      | some ok => exact reach_listed hc n e.on ok hk (hc e.on ok hk hl) hr

theorem getD_set_mono {listed : Array Bool} {k j : Nat} (h : listed.getD k false = true) : (listed.setIfInBounds j true).getD k false = true := by
  by_cases e : j = k
  · subst e
    have hk : j < listed.size := by
      rcases Nat.lt_or_ge j listed.size with h' | h'
      · exact h'
      · simp [Array.getElem?_eq_none h'] at h
    simp [hk]
  · rw [getD_set_ne false e]; exact h
theorem Closed.set {ops : Array Oper} {listed : Array Bool} (hc : Closed ops listed) {j : Nat} (hj : j ∈ Region.ready .any ops listed) : Closed ops (listed.setIfInBounds j true) := by
  obtain ⟨_, oj, hoj, hall⟩ := mem_ready.1 hj
  intro k ok hk hl e he hb
  by_cases e' : j = k
  · subst e'
    rw [hoj] at hk
    cases hk
    exact getD_set_mono (hall e he hb)
  · rw [getD_set_ne false e'] at hl
    exact getD_set_mono (hc k ok hk hl e he hb)
theorem closed_none (ops : Array Oper) (n : Nat) : Closed ops (Array.replicate n false) := by
  intro j oj _ hl
  have e : (Array.replicate n false).getD j false = false := by
    rcases Nat.lt_or_ge j n with h | h
    · simp [h]
    · simp [Array.getD, h]
  rw [e] at hl
  cases hl

section
variable {P : Program} {ops : Array Oper} {S : World → Prop} {Q : Exit → Act → World → Prop}

theorem wpAnyK_firstT {fin : Nat → Bool} {i : Nat} {oi : Oper} {v : Value} (N : Nat) (hi : ops[i]? = some oi) (hsel : Region.noSelect ops = true)
    (hQ : ∀ c a w, Q (.panic c) (a.put oi.dst v) w → Q (.panic c) a w)
    (hfin : ∀ j, fin j = true → reachB ops N i j = true) (hfi : fin i = false) :
    ∀ (fuel : Nat) (listed : Array Bool) (a : Act) (w : World), Closed ops listed → Region.free .any ops listed i = true →
      i ∈ Region.ready .any ops listed → YieldsIf P ops S oi v a → S w →
      wpAnyK P ops Q S fin fuel (listed.setIfInBounds i true) (a.put oi.dst v) w → wpAnyK P ops Q S fin (fuel + 1) listed a w := by
  have core : ∀ (fuel : Nat) (listed : Array Bool) (a : Act) (w : World), Closed ops listed →
      (∀ j oj, ops[j]? = some oj → j ≠ i → listed.getD j true = false → (∀ e ∈ oj.after, Region.binds .any e = true → e.on ≠ i) → oi.apart ops oj = true) →
      i ∈ Region.ready .any ops listed → YieldsIf P ops S oi v a → S w →
      wpAnyK P ops Q S fin fuel (listed.setIfInBounds i true) (a.put oi.dst v) w → wpAnyK P ops Q S fin (fuel + 1) listed a w := by
    intro fuel
    induction fuel with
    | zero =>
      intro listed a w _ _ hr hy hS H
      refine ⟨fun h => (by rw [h] at hr; cases hr), fun j hj => ?_⟩
      by_cases hji : j = i
      · subst hji
        exact hy.wpOp hi hS ⟨fun _ => hS, H⟩
      · have hm := ready_mono hj hji
        rw [H.1] at hm
        cases hm
    | succ fuel ih =>
      intro listed a w hcl hfree hr hy hS H
      refine ⟨fun h => (by rw [h] at hr; cases hr), fun j hj => ?_⟩
      by_cases hji : j = i
      · subst hji
        exact hy.wpOp hi hS ⟨fun _ => hS, H⟩
      · obtain ⟨hjun, oj, hoj, hall⟩ := mem_ready.1 hj
        have hun : listed.getD i true = false := (mem_ready.1 hr).1
        have hun' : listed.getD i false = false := by
          rcases Nat.lt_or_ge i listed.size with h' | h'
          · simp [h'] at hun ⊢; exact hun
          · simp [Array.getElem?_eq_none h']
        have hnot : ∀ e ∈ oj.after, Region.binds .any e = true → e.on ≠ i := by
          intro e he hb heq
          have h1 := hall e he hb
          rw [heq, hun'] at h1
          cases h1
        have hfj : fin j = false := by
          cases hf : fin j with
          | false => rfl
          | true =>
            have := reach_listed hcl N j oj hoj hall (hfin j hf)
            rw [hun'] at this
            cases this
        have h2 := wpOp_putIf hoj (hfree j oj hoj hji hjun hnot) (fun cs b => Region.noSelect_spec hsel i oi cs b hi) (fun cs b => Region.noSelect_spec hsel j oj cs b hoj) hQ hy (H.2 j (ready_mono hj hji))
        have hfree' : ∀ k ok, ops[k]? = some ok → k ≠ i → (listed.setIfInBounds j true).getD k true = false →
            (∀ e ∈ ok.after, Region.binds .any e = true → e.on ≠ i) → oi.apart ops ok = true := fun k ok hk hki hku hno => by
          refine hfree k ok hk hki ?_ hno
          by_cases hjk : j = k
          · subst hjk; exact hjun
          · rw [getD_set_ne true hjk] at hku; exact hku
        refine wpOp_mono (fun a' w' h3 => ⟨h3.2.1, ih (listed.setIfInBounds j true) a' w' (hcl.set hj) hfree' (ready_mono hr (Ne.symm hji)) h3.1 (h3.2.1 hfj) ?_⟩) h2
        rw [Array.setIfInBounds_comm _ _ hji]
        exact h3.2.2
  intro fuel listed a w hcl hf hr hy hS H
  exact core fuel listed a w hcl (Region.free_spec hi hf) hr hy hS H

/-- may these be taken first, in this order? -/
def invTakesB (ops : Array Oper) (fins : List Nat) : List Nat → Array Bool → Bool
  | [], _ => true
  | k :: r, listed => (Region.ready .any ops listed).contains k && Region.free .any ops listed k && plainOp ops k && !fins.contains k && (fins.all fun j => reachB ops ops.size k j) && invTakesB ops fins r (listed.setIfInBounds k true)

theorem inv_takes (hsel : Region.noSelect ops = true) {fins : List Nat} {K : Act → Prop} : ∀ (l : List Nat) (n : Nat) (listed : Array Bool) (a : Act) (w : World), Closed ops listed → S w → invTakesB ops fins l listed = true →
    (∀ a', K a' → wpAnyK P ops (normalOnly Q) S (fun j => fins.contains j) n (marked l listed) a' w) → wpQuiet P ops S K (opsOf ops l) a → wpAnyK P ops (normalOnly Q) S (fun j => fins.contains j) (l.length + n) listed a w
  | [], n, listed, a, w, _, hS, hB, hK, h => by
    simp only [List.length_nil, Nat.zero_add]
    exact hK a (by simpa [opsOf, wpQuiet] using h)
  | k :: r, n, listed, a, w, hcl, hS, hB, hK, h => by
    simp only [invTakesB, Bool.and_eq_true] at hB
    obtain ⟨⟨⟨⟨⟨hr, hf⟩, hp⟩, hnf⟩, hre⟩, hB'⟩ := hB
    have hkr : k ∈ Region.ready .any ops listed := by simpa using hr
    obtain ⟨o, ho⟩ := op_of_ready (ops := ops) hkr
    have e : opsOf ops (k :: r) = o :: opsOf ops r := by simp [opsOf, consOp, ho]
    rw [e] at h
    rw [show (k :: r).length + n = (r.length + n) + 1 by simp; omega]
    obtain ⟨v, hy, hrest⟩ : ∃ v, YieldsIf P ops S o v a ∧ wpQuiet P ops S K (opsOf ops r) (a.put o.dst v) := by
      unfold wpQuiet at h
      by_cases hw : Region.wanted o (yielded ops a.tmps) = true
      · rw [if_pos hw] at h
        obtain ⟨v, h1, h2⟩ := h
        refine ⟨v, .inl ⟨hw, fun W hW => ?_⟩, h2⟩
        have h3 := h1 W hW
        unfold Oper.quietAt at h3
        cases hrun : (execOp a.eval o).run P W with
        | ok x W' =>
          rw [hrun] at h3
          cases x <;> simp only [Oper.quietUpon] at h3
          case value u => rw [h3.1, h3.2]
          case skip => exact absurd hrun (plain_not_enter ho hp a.eval W 0 #[] W').2
          case enter f args => exact absurd hrun (plain_not_enter ho hp a.eval W f args W').1
        | halt x W' => rw [hrun] at h3; simp only [Oper.quietUpon] at h3
      · rw [if_neg hw] at h
        exact ⟨undef, .inr ⟨by simpa using hw, rfl⟩, h⟩
    refine wpAnyK_firstT ops.size ho hsel (fun _ _ _ h => h) (fun j hj => ?_) (by simpa using hnf) _ listed a w hcl hf hkr hy hS (inv_takes hsel r n _ _ w (hcl.set hkr) hS hB' hK hrest)
    have : j ∈ fins := by simpa using hj
    exact List.all_eq_true.1 hre j this

/-- one operation, by the walk's own form -/
theorem wpOp_of_list {k : Nat} {o : Oper} (ho : ops[k]? = some o) {K : Act → World → Prop} {a : Act} {w : World} (h : wpList P ops (fun e a' w' => e = .normal ∧ K a' w') [o] a w) : wpOp P ops (normalOnly Q) k K a w := by
  unfold wpList at h
  unfold wpOp
  simp only [ho]
  split
  · rename_i hwd
    rw [if_pos hwd] at h
    rcases h with h | ⟨_, a0, w0, h0, _⟩
    · refine .inl (Oper.wp_monoQ (Q := fun e a' w' => e = .normal ∧ K a' w') ?_ (Go.Oper.wp_mono (fun a' w' h' => ?_) h))
      · intro e a' w' hne h'
        exact absurd h'.1 hne
      · simp only [wpList] at h'
        exact h'.2
    · cases h0
  · rename_i hwd
    rw [if_neg hwd] at h
    simp only [wpList] at h
    exact h.2

theorem inv_run {σ : Type} {fins : List Nat} (lst : σ → Array Bool) (I : σ → Act → World → Prop)
    (hstep : ∀ s a w i, I s a w → i ∈ Region.ready .any ops (lst s) → ∃ s', lst s' = (lst s).setIfInBounds i true ∧ wpOp P ops (normalOnly Q) i (fun a' w' => (fins.contains i = false → S w') ∧ I s' a' w') a w)
    (hend : ∀ s a w, I s a w → Region.ready .any ops (lst s) = [] → Q .normal a w) :
    ∀ (n : Nat) (s : σ) (a : Act) (w : World), ((lst s).toList.filter (· == false)).length ≤ n → (lst s).size = ops.size → I s a w → wpAnyK P ops (normalOnly Q) S (fun j => fins.contains j) n (lst s) a w
  | 0, s, a, w, hn, hsz, h => by
    have hr : Region.ready .any ops (lst s) = [] := by
      rw [List.eq_nil_iff_forall_not_mem]
      intro i hi
      obtain ⟨hu, oj, hoj, _⟩ := mem_ready.1 hi
      have hlt : i < (lst s).size := by rw [hsz]; exact (Array.getElem?_eq_some_iff.1 hoj).1
      have hmem : false ∈ (lst s).toList.filter (· == false) := by
        rw [List.mem_filter]
        refine ⟨?_, by simp⟩
        have : (lst s)[i] = false := by simpa [hlt] using hu
        rw [← this]
        simp
      have : 0 < ((lst s).toList.filter (· == false)).length := List.length_pos_of_mem hmem
      omega
    exact ⟨hr, hend s a w h hr⟩
  | n + 1, s, a, w, hn, hsz, h => by
    refine ⟨fun hr => hend s a w h hr, fun i hi => ?_⟩
    obtain ⟨s', hs', hop⟩ := hstep s a w i h hi
    refine wpOp_mono (fun a' w' h' => ⟨h'.1, ?_⟩) hop
    rw [← hs']
    refine inv_run lst I hstep hend n s' a' w' ?_ (by rw [hs']; simpa using hsz) h'.2
    obtain ⟨hu, oj, hoj, _⟩ := mem_ready.1 hi
    have hlt : i < (lst s).size := by rw [hsz]; exact (Array.getElem?_eq_some_iff.1 hoj).1
    have hfi : (lst s)[i] = false := by simpa [hlt] using hu
    rw [hs']
    have key : ∀ (l : List Bool) (i : Nat) (hi : i < l.length), l[i] = false → ((l.set i true).filter (· == false)).length + 1 = (l.filter (· == false)).length := by
      intro l
      induction l with
      | nil => intro i hi; simp at hi
      | cons x l ih =>
        intro i hi hx
        cases i with
        | zero => simp at hx; subst hx; simp
        | succ i =>
          have := ih i (by simpa using hi) (by simpa using hx)
          cases x <;> simp_all
    have := key (lst s).toList i (by simpa using hlt) (by simpa using hfi)
    rw [Array.toList_setIfInBounds]
    omega

theorem marked_size : ∀ (r : List Nat) (b : Array Bool), (marked r b).size = b.size
  | [], b => rfl
  | k :: r, b => by simp only [marked]; rw [marked_size r]; simp
/-- some slots are filled -/
def puts (a : Act) : List Nat → List Value → Act
  | d :: ds, x :: xs => puts (a.put (some d) x) ds xs
  | _, _ => a
/-- the states' moves are those that the edges allow -/
def fsmB {σ : Type} (ops : Array Oper) (lst : σ → Array Bool) (sts : List σ) (cond : σ → Nat → Bool) (nxt : σ → Nat → σ) (fin : σ → Bool) : Bool :=
  sts.all fun s => (!(Region.ready .any ops (lst s)).isEmpty || fin s) && (Region.ready .any ops (lst s)).all fun i => cond s i && decide ((lst s).setIfInBounds i true = lst (nxt s i))

/-- what only reads is taken first; the operations 'fins' come behind all of it -/
theorem wp_region_takes {id : Nat} {l : List Oper} {a : Act} {w : World} (pre : List Nat) (fins : List Nat) (S : World → Prop) (l1 : List Oper) (n : Nat) (hm : P.follows .mixedOrders = true)
    (hB : (invTakesB l.toArray fins pre (Array.replicate l.toArray.size false) && Region.noSelect l.toArray && decide (pre.length + n = l.toArray.size)) = true)
    (h1 : opsOf l.toArray pre = l1) (hS : S w.drew)
    (h : ∀ (ι : Type) [Inhabited ι] (f : ι → World), (∀ p, S (f p)) → wpQuiet P l.toArray (fun W => ∃ p, W = f p) (fun a' => wpAnyK P l.toArray (normalOnly Q) S (fun j => fins.contains j) n (marked pre (Array.replicate l.toArray.size false)) a' w.drew) l1 a) : (Code.region id l.toArray true).wp P Q a w := by
  simp only [Bool.and_eq_true, decide_eq_true_eq] at hB
  obtain ⟨⟨hB, hsel⟩, hn⟩ := hB
  have hC : (fun W => ∃ p : {W : World // S W}, W = p.1) = S := by
    funext W
    exact propext ⟨fun ⟨p, hp⟩ => hp ▸ p.2, fun hW => ⟨⟨W, hW⟩, rfl⟩⟩
  have h' := @h {W : World // S W} ⟨⟨_, hS⟩⟩ (fun p => p.1) (fun p => p.2)
  rw [hC, ← h1] at h'
  have key := inv_takes (Q := Q) hsel (fins := fins) pre n _ a w.drew (closed_none _ _) hS hB (fun a' hI => hI) h'
  have key2 := wpAny_of_K _ _ _ _ key
  have hq : (Code.region id l.toArray true).wp P (normalOnly Q) a w := by
    refine wp_region_any hm ?_
    rw [hn] at key2
    exact key2
  exact Go.wp_mono hq fun e a w hq => by cases e <;> first | exact hq | exact hq.elim

/-- and then by states: I says what holds in a state, of the slots 'ds' and of the world -/
theorem wp_inv_fsm {σ : Type} {fins : List Nat} {listed : Array Bool} {a : Act} {w : World} {n : Nat} (lst : σ → Array Bool) (sts : List σ) (cond : σ → Nat → Bool) (nxt : σ → Nat → σ) (fin : σ → Bool) (hchk : fsmB ops lst sts cond nxt fin = true)
    (ds : List Nat) (I : σ → List Value → World → Prop) (hmem : ∀ s xs w, I s xs w → s ∈ sts) (s0 : σ) (xs0 : List Value) (hs0 : listed = lst s0)
    (hsz : (decide (((lst s0).toList.filter (· == false)).length ≤ n) && decide ((lst s0).size = ops.size)) = true) (ha : a = puts a ds xs0) (h0 : I s0 xs0 w)
    (hstep : ∀ s i xs w, I s xs w → cond s i = true → wpOp P ops (normalOnly Q) i (fun a' w' => (fins.contains i = false → S w') ∧ ∃ xs', a' = puts a ds xs' ∧ I (nxt s i) xs' w') (puts a ds xs) w)
    (hend : ∀ s xs w, I s xs w → fin s = true → Q .normal (puts a ds xs) w) :
    wpAnyK P ops (normalOnly Q) S (fun j => fins.contains j) n listed a w := by
  simp only [Bool.and_eq_true, decide_eq_true_eq] at hsz
  rw [hs0]
  refine inv_run lst (fun s a' w' => ∃ xs, a' = puts a ds xs ∧ I s xs w') ?_ ?_ n s0 a w hsz.1 hsz.2 ⟨xs0, ha, h0⟩
  · rintro s a' w' i ⟨xs, rfl, hI⟩ hi
    have hc := List.all_eq_true.1 hchk s (hmem s xs w' hI)
    simp only [Bool.and_eq_true] at hc
    have hc2 := List.all_eq_true.1 hc.2 i hi
    simp only [Bool.and_eq_true, decide_eq_true_eq] at hc2
    exact ⟨nxt s i, hc2.2.symm, hstep s i xs w' hI hc2.1⟩
  · rintro s a' w' ⟨xs, rfl, hI⟩ hr
    have hc := List.all_eq_true.1 hchk s (hmem s xs w' hI)
    simp only [Bool.and_eq_true] at hc
    refine hend s xs w' hI ?_
    have := hc.1
    rw [hr] at this
    simpa using this
/-- the one operation that must come next -/
theorem anyK_one {fins : List Nat} {listed : Array Bool} {a : Act} {w : World} {n k : Nat} {o : Oper} (hr : (Region.ready .any ops listed == [k]) = true) (ho : ops[k]? = some o)
    (h : wpList P ops (fun e a' w' => e = .normal ∧ ((fins.contains k = false → S w') ∧ wpAnyK P ops (normalOnly Q) S (fun j => fins.contains j) n (listed.setIfInBounds k true) a' w')) [o] a w) :
    wpAnyK P ops (normalOnly Q) S (fun j => fins.contains j) (n + 1) listed a w := by
  have hr' : Region.ready .any ops listed = [k] := by simpa using hr
  refine ⟨fun h0 => (by rw [h0] at hr'; cases hr'), fun i hi => ?_⟩
  rw [hr'] at hi
  obtain rfl := List.mem_singleton.1 hi
  exact wpOp_of_list ho h
theorem anyK_done {fins : List Nat} {listed : Array Bool} {a : Act} {w : World} (hr : (Region.ready .any ops listed).isEmpty = true) (h : Q .normal a w) :
    wpAnyK P ops (normalOnly Q) S (fun j => fins.contains j) 0 listed a w := ⟨by simpa using hr, h⟩
/-- what a step of the states must come to -/
def StepPost (fins : List Nat) (S : World → Prop) (a : Act) (ds : List Nat) (I' : List Value → World → Prop) (i : Nat) (a' : Act) (w' : World) : Prop :=
  (fins.contains i = false → S w') ∧ ∃ xs', a' = puts a ds xs' ∧ I' xs' w'
theorem StepPost.mk {fins : List Nat} {S : World → Prop} {a : Act} {ds : List Nat} {I' : List Value → World → Prop} {i : Nat} {a' : Act} {w' : World} (h : fins.contains i = false → S w') (xs' : List Value) (ha : a' = puts a ds xs') (hI : I' xs' w') : StepPost fins S a ds I' i a' w' := ⟨h, xs', ha, hI⟩
theorem fsm_step {fins : List Nat} {a : Act} {ds : List Nat} {I' : List Value → World → Prop} {i : Nat} {o : Oper} {a1 : Act} {w : World} (ho : ops[i]? = some o) (h : wpList P ops (fun e a' w' => e = .normal ∧ StepPost fins S a ds I' i a' w') [o] a1 w) :
    wpOp P ops (normalOnly Q) i (fun a' w' => (fins.contains i = false → S w') ∧ ∃ xs', a' = puts a ds xs' ∧ I' xs' w') a1 w := wpOp_of_list ho h
end
end Go.Proofs.YtcoelhpmkhimpaaGreat

/- A region that draws its order and holds calls that only add blocks: such a call may be taken first, if one says of the world behind it no more than what added blocks leave as it is. -/
namespace Go.Proofs.YtcoelhpmkhimpaaGreat
open Go.RowKit
set_option linter.unusedVariables false
set_option linter.unusedSimpArgs false

section
variable {P : Program} {ops : Array Oper} {Q : Exit → Act → World → Prop}

/-- what added blocks leave as it is -/
def EC (S : World → Prop) : Prop := ∀ W W', S W → Ext W W' → S W'
theorem EC.ext (w : World) : EC (Ext w) := fun _ _ h k => h.trans k
theorem EC.and {S T : World → Prop} (h : EC S) (k : EC T) : EC (fun W => S W ∧ T W) := fun _ _ h1 h2 => ⟨h _ _ h1.1 h2, k _ _ h1.2 h2⟩
theorem EC.heap (b : Nat) (o : Obj) : EC (fun W => W.heap[b]? = some o) := fun _ _ h k => k.heap h
/-- o yields v in every world of S, and adds blocks at the most -/
def YieldsC (P : Program) (ops : Array Oper) (S : World → Prop) (o : Oper) (v : Value) (a : Act) : Prop :=
  (Region.wanted o (yielded ops a.tmps) = true ∧ ∀ w, S w → (execOp a.eval o).run P w = .ok (.value v) w ∨ ∃ f args, (execOp a.eval o).run P w = .ok (.enter f args) w ∧ Calls P f args w fun e w' => e = .returned v ∧ Ext w w') ∨
  (Region.wanted o (yielded ops a.tmps) = false ∧ v = undef)
theorem YieldsC.sub {S S' : World → Prop} {o : Oper} {v : Value} {a : Act} (h : YieldsC P ops S o v a) (hs : ∀ w, S' w → S w) : YieldsC P ops S' o v a :=
  h.imp (fun ⟨h1, h2⟩ => ⟨h1, fun w hw => h2 w (hs w hw)⟩) id
theorem YieldsC.same {S : World → Prop} {o : Oper} {v : Value} {a a' : Act} (he : execOp a'.eval o = execOp a.eval o) (hw : Region.wanted o (yielded ops a'.tmps) = Region.wanted o (yielded ops a.tmps)) (h : YieldsC P ops S o v a) : YieldsC P ops S o v a' := by
  unfold YieldsC at *
  rw [he, hw]
  exact h
theorem YieldsC.op {S : World → Prop} {i : Nat} {o : Oper} {v : Value} {a : Act} (hi : ops[i]? = some o) (hy : YieldsC P ops S o v a) {K : Act → World → Prop} {w : World} (hS : S w) (h : ∀ w', Ext w w' → K (a.put o.dst v) w') : wpOp P ops Q i K a w := by
  unfold wpOp
  simp only [hi]
  rcases hy with ⟨hw, hv⟩ | ⟨hw, rfl⟩
  · rw [if_pos hw]
    refine .inl ?_
    unfold Oper.wp
    rcases hv w hS with hr | ⟨f, args, hr, hc⟩
    · rw [hr]
      exact h w (Ext.refl w)
    · rw [hr]
      refine Calls.mono hc ?_
      rintro e w' ⟨rfl, hx⟩
      exact h w' hx
  · rw [hw]
    exact h w (Ext.refl w)
/-- two operations apart: the one's value makes no difference to the other -/
theorem swap_op {j : Nat} {oi oj : Oper} {v : Value} (Y : Act → Prop) (hY : ∀ a a' : Act, execOp a'.eval oi = execOp a.eval oi → Region.wanted oi (yielded ops a'.tmps) = Region.wanted oi (yielded ops a.tmps) → Y a → Y a') (hj : ops[j]? = some oj) (hap : oi.apart ops oj = true)
    (hsi : ∀ cs b, oi.op ≠ .select cs b) (hsj : ∀ cs b, oj.op ≠ .select cs b) (hQ : ∀ c a w, Q (.panic c) (a.put oi.dst v) w → Q (.panic c) a w) {K : Act → World → Prop} {a : Act} {w : World}
    (hy : Y a) (h : wpOp P ops Q j K (a.put oi.dst v) w) : wpOp P ops Q j (fun a' w' => Y a' ∧ K (a'.put oi.dst v) w') a w := by
  obtain ⟨d1, d2, d3⟩ := Oper.apart_spec hap
  have put : ∀ b : Act, Y b → ∀ u, Y (b.put oj.dst u) := fun b hb u => hY b _ (execOp_put oi hsi b oj.dst u d3) (wanted_put oi b oj.dst u d3) hb
  have com : ∀ (b : Act) u, (b.put oj.dst u).put oi.dst v = (b.put oi.dst v).put oj.dst u := fun b u => (Act.put_comm b v u d2).symm
  have ex := execOp_put oj hsj a oi.dst v d1
  unfold wpOp at h ⊢
  simp only [hj] at h ⊢
  rw [wanted_put oj a oi.dst v d1] at h
  by_cases hw : Region.wanted oj (yielded ops a.tmps) = true
  · rw [if_pos hw] at h ⊢
    refine h.imp (fun h => ?_) (fun ⟨h1, h2⟩ => ⟨?_, h2⟩)
    · unfold Oper.wp at h ⊢
      rw [ex] at h
      cases hr : (execOp a.eval oj).run P w with
      | ok n w' =>
        rw [hr] at h
        cases n with
        | value u => exact ⟨put a hy u, by rw [com]; exact h⟩
        | skip => exact ⟨put a hy undef, by rw [com]; exact h⟩
        | defer d =>
          refine ⟨put { a with defers := d :: a.defers } (hY a { a with defers := d :: a.defers } rfl rfl hy) undef, ?_⟩
          rw [com, ← Act.put_defers]
          exact h
        | enter f args =>
          simp only [Oper.upon] at h ⊢
          refine Calls.mono h fun e w'' he => ?_
          cases e with
          | returned u => exact ⟨put a hy u, by rw [com]; exact he⟩
          | panicked c => exact hQ _ _ _ he
          | outgrown => exact he
        | row row args =>
          simp only [Oper.upon] at h ⊢
          exact Rows.mono h fun u w'' he => ⟨put a hy u, by rw [com]; exact he⟩
        | _ => simp only [Oper.upon] at h
      | halt x w' =>
        rw [hr] at h
        cases x with
        | panic u => exact hQ _ _ _ h
        | _ => simp only [Oper.upon] at h
    · unfold Oper.asks at h1 ⊢
      rw [ex] at h1
      exact h1
  · rw [if_neg hw] at h ⊢
    exact ⟨put a hy undef, by rw [com]; exact h⟩

/-- from here on, in any order, in any world of S; the last m, 'fins', come behind all others -/
def wpAnyC (P : Program) (ops : Array Oper) (Q : Exit → Act → World → Prop) (fins : List Nat) (m : Nat) : Nat → Array Bool → Act → (World → Prop) → Prop
  | 0, listed, a, S => (∀ j, j < ops.size → listed.getD j false = true ∨ fins.contains j = true) ∧ ∀ w, S w → wpAny P .any ops Q m listed a w
  | n + 1, listed, a, S => ∀ w, S w → Region.ready .any ops listed ≠ [] ∧ ∀ i ∈ Region.ready .any ops listed, if fins.contains i = true then wpOp P ops Q i (wpAny P .any ops Q (m + n) (listed.setIfInBounds i true)) a w else wpOp P ops Q i (fun a' w' => ∃ S', EC S' ∧ (∀ W, S' W → S W) ∧ S' w' ∧ wpAnyC P ops Q fins m n (listed.setIfInBounds i true) a' S') a w
theorem wpAny_of_C {fins : List Nat} {m : Nat} : ∀ (n : Nat) (listed : Array Bool) (a : Act) (S : World → Prop) (w : World), S w → wpAnyC P ops Q fins m n listed a S → wpAny P .any ops Q (m + n) listed a w
  | 0, _, _, _, w, hS, h => h.2 w hS
  | n + 1, listed, a, S, w, hS, h => by
    obtain ⟨h0, h1⟩ := h w hS
    refine ⟨fun e => absurd e h0, fun i hi => ?_⟩
    have h2 := h1 i hi
    split at h2
    · exact h2
    · exact wpOp_mono (fun a' w' ⟨S', _, _, hS', h'⟩ => wpAny_of_C n _ a' S' w' hS' h') h2

theorem anyC_first {fins : List Nat} {m i : Nat} {oi : Oper} {v : Value} (hi : ops[i]? = some oi) (hsel : Region.noSelect ops = true)
    (hQ : ∀ c a w, Q (.panic c) (a.put oi.dst v) w → Q (.panic c) a w) (hfin : ∀ j, fins.contains j = true → reachB ops ops.size i j = true) (hfi : fins.contains i = false) :
    ∀ (n : Nat) (listed : Array Bool) (a : Act) (S : World → Prop), EC S → Closed ops listed →
      (∀ j oj, ops[j]? = some oj → j ≠ i → listed.getD j true = false → (∀ e ∈ oj.after, Region.binds .any e = true → e.on ≠ i) → oi.apart ops oj = true) →
      i ∈ Region.ready .any ops listed → YieldsC P ops S oi v a → wpAnyC P ops Q fins m n (listed.setIfInBounds i true) (a.put oi.dst v) S → wpAnyC P ops Q fins m (n + 1) listed a S := by
  intro n
  induction n with
  | zero =>
    intro listed a S hE hcl hfree hr hy H w hS
    refine ⟨fun h => (by rw [h] at hr; cases hr), fun j hj => ?_⟩
    by_cases hji : j = i
    · subst hji
      rw [if_neg (by rw [hfi]; simp)]
      exact hy.op hi hS fun w' hx => ⟨S, hE, fun _ h => h, hE _ _ hS hx, H⟩
    · exfalso
      obtain ⟨hjun, oj, hoj, hall⟩ := mem_ready.1 hj
      have hjs : j < ops.size := (Array.getElem?_eq_some_iff.1 hoj).1
      have hun : listed.getD i true = false := (mem_ready.1 hr).1
      have hjl : (listed.setIfInBounds i true).getD j false = false := by
        rw [getD_set_ne false (Ne.symm hji)]
        rcases Nat.lt_or_ge j listed.size with h' | h'
        · simp [h'] at hjun ⊢; exact hjun
        · simp [Array.getElem?_eq_none h']
      rcases H.1 j hjs with h' | h'
      · rw [hjl] at h'; cases h'
      · have := reach_listed hcl ops.size j oj hoj hall (hfin j h')
        rcases Nat.lt_or_ge i listed.size with h2 | h2
        · simp [h2] at hun this; rw [hun] at this; cases this
        · simp [Array.getElem?_eq_none h2] at this
  | succ n ih =>
    intro listed a S hE hcl hfree hr hy H w hS
    refine ⟨fun h => (by rw [h] at hr; cases hr), fun j hj => ?_⟩
    by_cases hji : j = i
    · subst hji
      rw [if_neg (by rw [hfi]; simp)]
      exact hy.op hi hS fun w' hx => ⟨S, hE, fun _ h => h, hE _ _ hS hx, H⟩
    · have h1 := (H w hS).2 j (ready_mono hj hji)
      obtain ⟨hjun, oj, hoj, hall⟩ := mem_ready.1 hj
      have hun : listed.getD i true = false := (mem_ready.1 hr).1
      have hfj : ¬ fins.contains j = true := fun h' => by
        have := reach_listed hcl ops.size j oj hoj hall (hfin j h')
        rcases Nat.lt_or_ge i listed.size with h2 | h2
        · simp [h2] at hun this; rw [hun] at this; cases this
        · simp [Array.getElem?_eq_none h2] at this
      rw [if_neg hfj] at h1 ⊢
      have hnot : ∀ e ∈ oj.after, Region.binds .any e = true → e.on ≠ i := by
        intro e he hb heq
        have h1 := hall e he hb
        rw [heq] at h1
        rcases Nat.lt_or_ge i listed.size with h2 | h2
        · simp [h2] at hun h1; rw [hun] at h1; cases h1
        · simp [Array.getElem?_eq_none h2] at h1
      have h2 := swap_op (fun b => YieldsC P ops S oi v b) (fun b b' e1 e2 hb => hb.same e1 e2) hoj (hfree j oj hoj hji hjun hnot) (fun cs b => Region.noSelect_spec hsel i oi cs b hi) (fun cs b => Region.noSelect_spec hsel j oj cs b hoj) hQ hy h1
      have hfree' : ∀ k ok, ops[k]? = some ok → k ≠ i → (listed.setIfInBounds j true).getD k true = false →
          (∀ e ∈ ok.after, Region.binds .any e = true → e.on ≠ i) → oi.apart ops ok = true := fun k ok hk hki hku hno => by
        refine hfree k ok hk hki ?_ hno
        by_cases hjk : j = k
        · subst hjk; exact hjun
        · rw [getD_set_ne true hjk] at hku; exact hku
      refine wpOp_mono (fun a' w' h3 => ?_) h2
      obtain ⟨hy', S', e1, e2, e3, e4⟩ := h3
      refine ⟨S', e1, e2, e3, ih (listed.setIfInBounds j true) a' S' e1 (hcl.set hj) hfree' (ready_mono hr (Ne.symm hji)) (hy'.sub e2) ?_⟩
      rw [Array.setIfInBounds_comm _ _ hji]
      exact e4

/-- one that yields in whatever world -/
theorem anyC_free {fins : List Nat} {m i : Nat} {oi : Oper} {v : Value} (hi : ops[i]? = some oi) (hsel : Region.noSelect ops = true)
    (hQ : ∀ c a w, Q (.panic c) (a.put oi.dst v) w → Q (.panic c) a w) (hfi : fins.contains i = false) :
    ∀ (n : Nat) (listed : Array Bool) (a : Act) (S : World → Prop), EC S →
      (∀ j oj, ops[j]? = some oj → j ≠ i → listed.getD j true = false → (∀ e ∈ oj.after, Region.binds .any e = true → e.on ≠ i) → oi.apart ops oj = true) →
      i ∈ Region.ready .any ops listed → Yields P ops oi v a → wpAnyC P ops Q fins m n (listed.setIfInBounds i true) (a.put oi.dst v) S → wpAnyC P ops Q fins m (n + 1) listed a S := by
  intro n
  have prep : ∀ (listed : Array Bool) (j : Nat), (∀ j oj, ops[j]? = some oj → j ≠ i → listed.getD j true = false → (∀ e ∈ oj.after, Region.binds .any e = true → e.on ≠ i) → oi.apart ops oj = true) → i ∈ Region.ready .any ops listed → j ∈ Region.ready .any ops listed → j ≠ i →
      ∃ oj, ops[j]? = some oj ∧ oi.apart ops oj = true ∧ ∀ k ok, ops[k]? = some ok → k ≠ i → (listed.setIfInBounds j true).getD k true = false → (∀ e ∈ ok.after, Region.binds .any e = true → e.on ≠ i) → oi.apart ops ok = true := by
    intro listed j hfree hr hj hji
    obtain ⟨hjun, oj, hoj, hall⟩ := mem_ready.1 hj
    have hun : listed.getD i true = false := (mem_ready.1 hr).1
    refine ⟨oj, hoj, hfree j oj hoj hji hjun ?_, fun k ok hk hki hku hno => ?_⟩
    · intro e he hb heq
      have h1 := hall e he hb
      rw [heq] at h1
      rcases Nat.lt_or_ge i listed.size with h2 | h2
      · simp [h2] at hun h1; rw [hun] at h1; cases h1
      · simp [Array.getElem?_eq_none h2] at h1
    · refine hfree k ok hk hki ?_ hno
      by_cases hjk : j = k
      · subst hjk; exact hjun
      · rw [getD_set_ne true hjk] at hku; exact hku
  have keepY : ∀ b b' : Act, execOp b'.eval oi = execOp b.eval oi → Region.wanted oi (yielded ops b'.tmps) = Region.wanted oi (yielded ops b.tmps) → Yields P ops oi v b → Yields P ops oi v b' := fun b b' e1 e2 h => by
    unfold Yields at *
    rw [e1, e2]
    exact h
  induction n with
  | zero =>
    intro listed a S hE hfree hr hy H w hS
    refine ⟨fun h => (by rw [h] at hr; cases hr), fun j hj => ?_⟩
    by_cases hji : j = i
    · subst hji
      rw [if_neg (by rw [hfi]; simp)]
      exact hy.wpOp hi ⟨S, hE, fun _ h => h, hS, H⟩
    · obtain ⟨oj, hoj, hap, hfree'⟩ := prep listed j hfree hr hj hji
      have hjl := ready_mono hj hji
      have hjf : fins.contains j = true := by
        have hjs : j < ops.size := (Array.getElem?_eq_some_iff.1 hoj).1
        have hjun := (mem_ready.1 hjl).1
        rcases H.1 j hjs with h' | h'
        · rcases Nat.lt_or_ge j (listed.setIfInBounds i true).size with h2 | h2
          · rw [Array.getD_eq_getD_getElem?, Array.getElem?_eq_getElem h2] at hjun h'
            simp only [Option.getD_some] at hjun h'
            rw [hjun] at h'
            cases h'
          · rw [Array.getD_eq_getD_getElem?, Array.getElem?_eq_none h2] at h'
            cases h'
        · exact h'
      rw [if_pos hjf]
      have hm := H.2 w hS
      cases m with
      | zero =>
        have := hm.1
        rw [this] at hjl
        cases hjl
      | succ m =>
        have h2 := swap_op (fun b => Yields P ops oi v b) keepY hoj hap (fun cs b => Region.noSelect_spec hsel i oi cs b hi) (fun cs b => Region.noSelect_spec hsel j oj cs b hoj) hQ hy (hm.2 j hjl)
        refine wpOp_mono (fun a' w' ⟨hy', h3⟩ => ?_) h2
        refine wpAny_first hi (fun j o cs b => Region.noSelect_spec hsel j o cs b) hQ m _ a' w' hfree' (ready_mono hr (Ne.symm hji)) hy' ?_
        rw [Array.setIfInBounds_comm _ _ hji]
        exact h3
  | succ n ih =>
    intro listed a S hE hfree hr hy H w hS
    refine ⟨fun h => (by rw [h] at hr; cases hr), fun j hj => ?_⟩
    by_cases hji : j = i
    · subst hji
      rw [if_neg (by rw [hfi]; simp)]
      exact hy.wpOp hi ⟨S, hE, fun _ h => h, hS, H⟩
    · obtain ⟨oj, hoj, hap, hfree'⟩ := prep listed j hfree hr hj hji
      have hjl := ready_mono hj hji
      have h1 := (H w hS).2 j hjl
      by_cases hjf : fins.contains j = true
      · rw [if_pos hjf] at h1 ⊢
        have h2 := swap_op (fun b => Yields P ops oi v b) keepY hoj hap (fun cs b => Region.noSelect_spec hsel i oi cs b hi) (fun cs b => Region.noSelect_spec hsel j oj cs b hoj) hQ hy h1
        refine wpOp_mono (fun a' w' ⟨hy', h3⟩ => ?_) h2
        refine wpAny_first hi (fun j o cs b => Region.noSelect_spec hsel j o cs b) hQ (m + n) _ a' w' hfree' (ready_mono hr (Ne.symm hji)) hy' ?_
        rw [Array.setIfInBounds_comm _ _ hji]
        exact h3
      · rw [if_neg hjf] at h1 ⊢
        have h2 := swap_op (fun b => Yields P ops oi v b) keepY hoj hap (fun cs b => Region.noSelect_spec hsel i oi cs b hi) (fun cs b => Region.noSelect_spec hsel j oj cs b hoj) hQ hy h1
        refine wpOp_mono (fun a' w' h3 => ?_) h2
        obtain ⟨hy', S', e1, e2, e3, e4⟩ := h3
        refine ⟨S', e1, e2, e3, ih (listed.setIfInBounds j true) a' S' e1 hfree' (ready_mono hr (Ne.symm hji)) hy' ?_⟩
        rw [Array.setIfInBounds_comm _ _ hji]
        exact e4

/-- the plan -/
inductive CT where
  | fin (t : TT)
  | take (l : List Nat) (r : CT)
  | free (l : List Nat) (r : CT)
  | call (k : Nat) (r : CT)
  | one (k : Nat) (r : CT)
  | two (k : Nat) (r : CT) (k' : Nat) (r' : CT)
def CT.len : CT → Nat
  | .fin _ => 0
  | .take l r => l.length + r.len
  | .free l r => l.length + r.len
  | .call _ r => r.len + 1
  | .one _ r => r.len + 1
  | .two _ r _ _ => r.len + 1
inductive OC where
  | fin (t : OT)
  | take (l : List Oper) (r : OC)
  | free (l : List Oper) (r : OC)
  | call (o : Oper) (r : OC)
  | one (o : Oper) (r : OC)
  | two (o : Oper) (r : OC) (o' : Oper) (r' : OC)
def callOC : Option Oper → OC → OC
  | some o, r => .call o r
  | none, r => r
def oneOC : Option Oper → OC → OC
  | some o, r => .one o r
  | none, r => r
def twoOC : Option Oper → OC → Option Oper → OC → OC
  | some o, r, some o', r' => .two o r o' r'
  | _, r, _, _ => r
def planOf (ops : Array Oper) : CT → OC
  | .fin t => .fin (treeOf ops t)
  | .take l r => .take (opsOf ops l) (planOf ops r)
  | .free l r => .free (opsOf ops l) (planOf ops r)
  | .call k r => callOC ops[k]? (planOf ops r)
  | .one k r => oneOC ops[k]? (planOf ops r)
  | .two k r k' r' => twoOC ops[k]? (planOf ops r) ops[k']? (planOf ops r')
def freesB (ops : Array Oper) (fins : List Nat) : List Nat → Array Bool → Bool
  | [], _ => true
  | k :: r, listed => (Region.ready .any ops listed).contains k && Region.free .any ops listed k && plainOp ops k && !fins.contains k && freesB ops fins r (listed.setIfInBounds k true)
def planB (ops : Array Oper) (fins : List Nat) : CT → Array Bool → Bool
  | .fin t, listed => ((List.range ops.size).all fun j => listed.getD j false || fins.contains j) && treeB ops t listed && decide (t.len = fins.length)
  | .take l r, listed => invTakesB ops fins l listed && planB ops fins r (marked l listed)
  | .free l r, listed => freesB ops fins l listed && planB ops fins r (marked l listed)
  | .call k r, listed => (Region.ready .any ops listed).contains k && Region.free .any ops listed k && !fins.contains k && (fins.all fun j => reachB ops ops.size k j) && planB ops fins r (listed.setIfInBounds k true)
  | .one k r, listed => (Region.ready .any ops listed == [k]) && !fins.contains k && planB ops fins r (listed.setIfInBounds k true)
  | .two k r k' r', listed => (Region.ready .any ops listed == [k, k'] || Region.ready .any ops listed == [k', k]) && decide (r.len = r'.len) && !fins.contains k && !fins.contains k' && planB ops fins r (listed.setIfInBounds k true) && planB ops fins r' (listed.setIfInBounds k' true)
def wpOC (P : Program) (ops : Array Oper) (Q : Exit → Act → World → Prop) : OC → (World → Prop) → Act → Prop
  | .fin t, S, a => ∀ w, S w → wpOT P ops (fun _ => True) Q t a w
  | .take l r, S, a => ∀ (ι : Type) [Inhabited ι] (f : ι → World), (∀ p, S (f p)) → wpQuiet P ops (fun W => ∃ p, W = f p) (fun a' => wpOC P ops Q r S a') l a
  | .free l r, S, a => wpQuiet P ops (fun _ => True) (fun a' => wpOC P ops Q r S a') l a
  | .call o r, S, a => ∃ v, YieldsC P ops S o v a ∧ wpOC P ops Q r S (a.put o.dst v)
  | .one o r, S, a => ∀ w, S w → wpList P ops (fun e a' w' => e = .normal ∧ ∃ S', EC S' ∧ (∀ W, S' W → S W) ∧ S' w' ∧ wpOC P ops Q r S' a') [o] a w
  | .two o r o' r', S, a => ∀ w, S w → wpList P ops (fun e a' w' => e = .normal ∧ ∃ S', EC S' ∧ (∀ W, S' W → S W) ∧ S' w' ∧ wpOC P ops Q r S' a') [o] a w ∧ wpList P ops (fun e a' w' => e = .normal ∧ ∃ S', EC S' ∧ (∀ W, S' W → S W) ∧ S' w' ∧ wpOC P ops Q r' S' a') [o'] a w

theorem takesC {fins : List Nat} {m : Nat} (hsel : Region.noSelect ops = true) {S : World → Prop} (hE : EC S) {K : Act → Prop} : ∀ (l : List Nat) (n : Nat) (listed : Array Bool) (a : Act), Closed ops listed → invTakesB ops fins l listed = true →
    (∀ a', Closed ops (marked l listed) → K a' → wpAnyC P ops (normalOnly Q) fins m n (marked l listed) a' S) → wpQuiet P ops S K (opsOf ops l) a → wpAnyC P ops (normalOnly Q) fins m (l.length + n) listed a S
  | [], n, listed, a, hcl, hB, hK, h => by
    simp only [List.length_nil, Nat.zero_add]
    exact hK a hcl (by simpa [opsOf, wpQuiet] using h)
  | k :: r, n, listed, a, hcl, hB, hK, h => by
    simp only [invTakesB, Bool.and_eq_true] at hB
    obtain ⟨⟨⟨⟨⟨hr, hf⟩, hp⟩, hnf⟩, hre⟩, hB'⟩ := hB
    have hkr : k ∈ Region.ready .any ops listed := by simpa using hr
    obtain ⟨o, ho⟩ := op_of_ready (ops := ops) hkr
    have e : opsOf ops (k :: r) = o :: opsOf ops r := by simp [opsOf, consOp, ho]
    rw [e] at h
    rw [show (k :: r).length + n = (r.length + n) + 1 by simp; omega]
    obtain ⟨v, hy, hrest⟩ : ∃ v, YieldsC P ops S o v a ∧ wpQuiet P ops S K (opsOf ops r) (a.put o.dst v) := by
      unfold wpQuiet at h
      by_cases hw : Region.wanted o (yielded ops a.tmps) = true
      · rw [if_pos hw] at h
        obtain ⟨v, h1, h2⟩ := h
        refine ⟨v, .inl ⟨hw, fun W hW => .inl ?_⟩, h2⟩
        have h3 := h1 W hW
        unfold Oper.quietAt at h3
        cases hrun : (execOp a.eval o).run P W with
        | ok x W' =>
          rw [hrun] at h3
          cases x <;> simp only [Oper.quietUpon] at h3
          case value u => rw [h3.1, h3.2]
          case skip => exact absurd hrun (plain_not_enter ho hp a.eval W 0 #[] W').2
          case enter f args => exact absurd hrun (plain_not_enter ho hp a.eval W f args W').1
        | halt x W' => rw [hrun] at h3; simp only [Oper.quietUpon] at h3
      · rw [if_neg hw] at h
        exact ⟨undef, .inr ⟨by simpa using hw, rfl⟩, h⟩
    refine anyC_first ho hsel (fun _ _ _ h => h) (fun j hj => ?_) (by simpa using hnf) _ listed a S hE hcl (Region.free_spec ho hf) hkr hy (takesC hsel hE r n _ _ (hcl.set hkr) hB' hK hrest)
    have : j ∈ fins := by simpa using hj
    exact List.all_eq_true.1 hre j this

theorem freesC {fins : List Nat} {m : Nat} (hsel : Region.noSelect ops = true) {S : World → Prop} (hE : EC S) {K : Act → Prop} : ∀ (l : List Nat) (n : Nat) (listed : Array Bool) (a : Act), Closed ops listed → freesB ops fins l listed = true →
    (∀ a', Closed ops (marked l listed) → K a' → wpAnyC P ops (normalOnly Q) fins m n (marked l listed) a' S) → wpQuiet P ops (fun _ => True) K (opsOf ops l) a → wpAnyC P ops (normalOnly Q) fins m (l.length + n) listed a S
  | [], n, listed, a, hcl, hB, hK, h => by
    simp only [List.length_nil, Nat.zero_add]
    exact hK a hcl (by simpa [opsOf, wpQuiet] using h)
  | k :: r, n, listed, a, hcl, hB, hK, h => by
    simp only [freesB, Bool.and_eq_true] at hB
    obtain ⟨⟨⟨⟨hr, hf⟩, hp⟩, hnf⟩, hB'⟩ := hB
    have hkr : k ∈ Region.ready .any ops listed := by simpa using hr
    obtain ⟨o, ho⟩ := op_of_ready (ops := ops) hkr
    have e : opsOf ops (k :: r) = o :: opsOf ops r := by simp [opsOf, consOp, ho]
    rw [e] at h
    rw [show (k :: r).length + n = (r.length + n) + 1 by simp; omega]
    obtain ⟨v, hy, hrest⟩ : ∃ v, Yields P ops o v a ∧ wpQuiet P ops (fun _ => True) K (opsOf ops r) (a.put o.dst v) := by
      unfold wpQuiet at h
      by_cases hw : Region.wanted o (yielded ops a.tmps) = true
      · rw [if_pos hw] at h
        obtain ⟨v, h1, h2⟩ := h
        refine ⟨v, .inl ⟨hw, fun W => ?_⟩, h2⟩
        have h3 := h1 W trivial
        unfold Oper.quietAt at h3
        cases hrun : (execOp a.eval o).run P W with
        | ok x W' =>
          rw [hrun] at h3
          cases x <;> simp only [Oper.quietUpon] at h3
          case value u => rw [h3.1, h3.2]
          case skip => exact absurd hrun (plain_not_enter ho hp a.eval W 0 #[] W').2
          case enter f args => exact absurd hrun (plain_not_enter ho hp a.eval W f args W').1
        | halt x W' => rw [hrun] at h3; simp only [Oper.quietUpon] at h3
      · rw [if_neg hw] at h
        exact ⟨undef, .inr ⟨by simpa using hw, rfl⟩, h⟩
    exact anyC_free ho hsel (fun _ _ _ h => h) (by simpa using hnf) _ listed a S hE (Region.free_spec ho hf) hkr hy (freesC hsel hE r n _ _ (hcl.set hkr) hB' hK hrest)

theorem plan_sound {fins : List Nat} (hsel : Region.noSelect ops = true) : ∀ (t : CT) (listed : Array Bool) (a : Act) (S : World → Prop), EC S → (∃ w, S w) → Closed ops listed → planB ops fins t listed = true → wpOC P ops Q (planOf ops t) S a → wpAnyC P ops (normalOnly Q) fins fins.length t.len listed a S
  | .fin t, listed, a, S, hE, hne, hcl, hB, h => by
    simp only [planB, Bool.and_eq_true, decide_eq_true_eq] at hB
    obtain ⟨⟨h1, h2⟩, h3⟩ := hB
    refine ⟨fun j hj => by simpa using List.all_eq_true.1 h1 j (by simpa using hj), fun w hS => ?_⟩
    have := tree_sound (Q := Q) hsel t listed a w trivial h2 (h w hS)
    rw [h3] at this
    exact wpAny_of_held _ _ _ _ this
  | .take l r, listed, a, S, hE, ⟨w0, hw0⟩, hcl, hB, h => by
    simp only [planB, Bool.and_eq_true] at hB
    have hC : (fun W => ∃ p : {W : World // S W}, W = p.1) = S := by
      funext W
      exact propext ⟨fun ⟨p, hp⟩ => hp ▸ p.2, fun hW => ⟨⟨W, hW⟩, rfl⟩⟩
    have h' := @h {W : World // S W} ⟨⟨w0, hw0⟩⟩ (fun p => p.1) (fun p => p.2)
    rw [hC] at h'
    exact takesC hsel hE l r.len listed a hcl hB.1 (fun a' hc h' => plan_sound hsel r _ a' S hE ⟨w0, hw0⟩ hc hB.2 h') h'
  | .free l r, listed, a, S, hE, hne, hcl, hB, h => by
    simp only [planB, Bool.and_eq_true] at hB
    exact freesC hsel hE l r.len listed a hcl hB.1 (fun a' hc h' => plan_sound hsel r _ a' S hE hne hc hB.2 h') h
  | .call k r, listed, a, S, hE, hne, hcl, hB, h => by
    simp only [planB, Bool.and_eq_true] at hB
    obtain ⟨⟨⟨⟨hr, hf⟩, hnf⟩, hre⟩, hB'⟩ := hB
    have hkr : k ∈ Region.ready .any ops listed := by simpa using hr
    obtain ⟨o, ho⟩ := op_of_ready (ops := ops) hkr
    simp only [planOf, ho, callOC, wpOC] at h
    obtain ⟨v, hy, h⟩ := h
    refine anyC_first ho hsel (fun _ _ _ h => h) (fun j hj => ?_) (by simpa using hnf) _ listed a S hE hcl (Region.free_spec ho hf) hkr hy (plan_sound hsel r _ _ S hE hne (hcl.set hkr) hB' h)
    have : j ∈ fins := by simpa using hj
    exact List.all_eq_true.1 hre j this
  | .one k r, listed, a, S, hE, hne, hcl, hB, h => by
    simp only [planB, Bool.and_eq_true, beq_iff_eq] at hB
    obtain ⟨⟨hr, hnf⟩, hB'⟩ := hB
    obtain ⟨o, ho⟩ := op_of_ready (ops := ops) (show k ∈ Region.ready .any ops listed by rw [hr]; exact List.mem_singleton_self k)
    simp only [planOf, ho, oneOC, wpOC] at h
    intro w hS
    refine ⟨by rw [hr]; simp, fun i hi => ?_⟩
    have hi' := hi
    rw [hr] at hi
    obtain rfl := List.mem_singleton.1 hi
    rw [if_neg (by simpa using hnf)]
    refine wpOp_mono (fun a' w' ⟨S', e1, e2, e3, e4⟩ => ⟨S', e1, e2, e3, plan_sound hsel r _ a' S' e1 ⟨w', e3⟩ (hcl.set hi') hB' e4⟩) (wpOp_of_list ho (h w hS))
  | .two k r k' r', listed, a, S, hE, hne, hcl, hB, h => by
    simp only [planB, Bool.and_eq_true, Bool.or_eq_true, beq_iff_eq, decide_eq_true_eq] at hB
    obtain ⟨⟨⟨⟨⟨hr, hlen⟩, hnf⟩, hnf'⟩, hB1⟩, hB2⟩ := hB
    have hmem : ∀ i, i ∈ Region.ready .any ops listed ↔ i = k ∨ i = k' := fun i => by
      rcases hr with hr | hr <;> rw [hr] <;> simp [or_comm]
    obtain ⟨o, ho⟩ := op_of_ready (ops := ops) ((hmem k).2 (.inl rfl))
    obtain ⟨o', ho'⟩ := op_of_ready (ops := ops) ((hmem k').2 (.inr rfl))
    simp only [planOf, ho, ho', twoOC, wpOC] at h
    intro w hS
    refine ⟨by rcases hr with hr | hr <;> rw [hr] <;> simp, fun i hi => ?_⟩
    rcases (hmem i).1 hi with rfl | rfl
    · rw [if_neg (by simpa using hnf)]
      exact wpOp_mono (fun a' w' ⟨S', e1, e2, e3, e4⟩ => ⟨S', e1, e2, e3, plan_sound hsel r _ a' S' e1 ⟨w', e3⟩ (hcl.set hi) hB1 e4⟩) (wpOp_of_list ho (h w hS).1)
    · rw [if_neg (by simpa using hnf')]
      refine wpOp_mono (fun a' w' ⟨S', e1, e2, e3, e4⟩ => ⟨S', e1, e2, e3, ?_⟩) (wpOp_of_list ho' (h w hS).2)
      show wpAnyC P ops (normalOnly Q) fins fins.length r.len _ a' S'
      rw [hlen]
      exact plan_sound hsel r' _ a' S' e1 ⟨w', e3⟩ (hcl.set hi) hB2 e4

/-- THE THEOREM -/
theorem wp_region_plan {id : Nat} {l : List Oper} {a : Act} {w : World} (t : CT) (fins : List Nat) (S : World → Prop) (oc : OC) (hm : P.follows .mixedOrders = true)
    (hB : (planB l.toArray fins t (Array.replicate l.toArray.size false) && decide (fins.length + t.len = l.toArray.size) && Region.noSelect l.toArray) = true)
    (h2 : planOf l.toArray t = oc) (hE : EC S) (hS : S w.drew) (h : wpOC P l.toArray Q oc S a) : (Code.region id l.toArray true).wp P Q a w := by
  simp only [Bool.and_eq_true, decide_eq_true_eq] at hB
  obtain ⟨⟨hB, hlen⟩, hsel⟩ := hB
  rw [← h2] at h
  have key := wpAny_of_C _ _ _ _ w.drew hS (plan_sound (Q := Q) hsel t _ a S hE ⟨_, hS⟩ (closed_none _ _) hB h)
  rw [hlen] at key
  exact Go.wp_mono (wp_region_any hm key) fun e a w hq => by cases e <;> first | exact hq | exact hq.elim

/-- two orders, from any world of a class, that come to the same kind of end -/
theorem join_orders {F M : Nat → Nat → World → Prop} {S : World → Prop} {X Y : World → Prop} (h1 : (∀ p q W, F p q W → M p q W) → ∀ W, S W → X W) (h2 : (∀ p q W, F p q W → M p q W) → ∀ W, S W → Y W) (h : ∀ p q W, F p q W → M p q W) : ∀ W, S W → X W ∧ Y W := fun W hW => ⟨h1 h W hW, h2 h W hW⟩
theorem wpOC_two {o o' : Oper} {r r' : OC} {S : World → Prop} {a : Act} (h : ∀ w, S w → wpList P ops (fun e a' w' => e = .normal ∧ ∃ S', EC S' ∧ (∀ W, S' W → S W) ∧ S' w' ∧ wpOC P ops Q r S' a') [o] a w ∧ wpList P ops (fun e a' w' => e = .normal ∧ ∃ S', EC S' ∧ (∀ W, S' W → S W) ∧ S' w' ∧ wpOC P ops Q r' S' a') [o'] a w) : wpOC P ops Q (.two o r o' r') S a := h
theorem wpOC_free {l : List Oper} {r : OC} {S : World → Prop} {a : Act} (h : wpQuiet P ops (fun _ => True) (fun a' => wpOC P ops Q r S a') l a) : wpOC P ops Q (.free l r) S a := h
/-- a call -/
theorem wpOC_call {o : Oper} {r : OC} {S : World → Prop} {a : Act} {f : FuncId} {os : Array Operand} {ts : Array TypeId} {args : Array Value} {v : Value} (ho : o.op = .call { callee := .value (.func f), args := os, argTypes := ts }) (hg : o.guard = none) (hent : ∀ args w, (callFunc f args).run P w = .ok (.enter f args) w) (hargs : os.map a.eval = args)
    (hc : ∀ W, S W → Calls P f args W fun e w' => e = .returned v ∧ Ext W w') (h : wpOC P ops Q r S (a.put o.dst v)) : wpOC P ops Q (.call o r) S a := by
  refine ⟨v, .inl ⟨by unfold Region.wanted; rw [hg], fun W hW => .inr ⟨f, args, ?_, hc W hW⟩⟩, h⟩
  rw [← hargs]
  simp [execOp, ho, resolve, invoke, Act.eval, Deferred.ofValue, hent]
end
end Go.Proofs.YtcoelhpmkhimpaaGreat

/- A region that draws its order, of whose operations some only add blocks and yield values (allocs, new slices, calls), each of which is told by a relation that added blocks leave as it is: each is walked once, whatever the order. -/
namespace Go.Proofs.YtcoelhpmkhimpaaGreat
open Go.RowKit
set_option linter.unusedVariables false
set_option linter.unusedSimpArgs false

inductive FT where
  | flow (gs ds : List Nat) (needs : List (List Nat)) (t : TT)
  | take (l : List Nat) (r : FT)
  | free (l : List Nat) (r : FT)
  | call (k : Nat) (r : FT)
inductive OF where
  | flow (os : List Oper) (ds : List Nat) (needs : List (List Nat)) (t : OT)
  | take (l : List Oper) (r : OF)
  | free (l : List Oper) (r : OF)
  | call (o : Oper) (r : OF)
def FT.len : FT → Nat
  | .flow gs _ _ _ => gs.length
  | .take l r => l.length + r.len
  | .free l r => l.length + r.len
  | .call _ r => r.len + 1
def callOF : Option Oper → OF → OF
  | some o, r => .call o r
  | none, r => r
def flowOf (ops : Array Oper) : FT → OF
  | .flow gs ds needs t => .flow (opsOf ops gs) ds needs (treeOf ops t)
  | .take l r => .take (opsOf ops l) (flowOf ops r)
  | .free l r => .free (opsOf ops l) (flowOf ops r)
  | .call k r => callOF ops[k]? (flowOf ops r)
def lowB (ops : Array Oper) : Bool := (List.range ops.size).all fun j => match ops[j]? with
  | some o => o.after.all fun e => !Region.binds .any e || decide (e.on < j)
  | none => true
def dstB (ops : Array Oper) : List Nat → List Nat → Bool
  | k :: ks, d :: ds => (match ops[k]? with | some o => decide (o.dst = some d) | none => false) && dstB ops ks ds
  | [], [] => true
  | _, _ => false
def needB (ops : Array Oper) (gs : List Nat) (k : Nat) (ps : List Nat) : Bool := ps.all fun p => match gs[p]?, ops[k]? with
  | some k', some o => o.after.any fun e => Region.binds .any e && e.on == k'
  | _, _ => false
def needsB (ops : Array Oper) (gs : List Nat) : List Nat → List (List Nat) → Bool
  | k :: ks, ps :: needs => needB ops gs k ps && needsB ops gs ks needs
  | [], [] => true
  | _, _ => false
def flowB (ops : Array Oper) (fins : List Nat) : FT → Array Bool → Bool
  | .flow gs ds needs t, listed => ((List.range ops.size).all fun j => listed.getD j false || fins.contains j || gs.contains j) && (gs.all fun k => !fins.contains k && decide (k < ops.size) && !listed.getD k false) && decide (gs.Nodup) && dstB ops gs ds && needsB ops gs gs needs
      && (fins.all fun j => gs.all fun k => reachB ops ops.size k j) && lowB ops && decide (listed.size = ops.size) && treeB ops t (marked gs listed) && decide (t.len = fins.length)
  | .take l r, listed => invTakesB ops fins l listed && flowB ops fins r (marked l listed)
  | .free l r, listed => freesB ops fins l listed && flowB ops fins r (marked l listed)
  | .call k r, listed => (Region.ready .any ops listed).contains k && Region.free .any ops listed k && !fins.contains k && (fins.all fun j => reachB ops ops.size k j) && flowB ops fins r (listed.setIfInBounds k true)

abbrev Rel := Value → World → Prop
def anyRel : Rel := fun _ _ => True
def relAt (Rs : List Rel) (p : Nat) : Rel := Rs.getD p anyRel
def flowAll : List Rel → List Value → World → Prop
  | R :: Rs, x :: xs, w => R x w ∧ flowAll Rs xs w
  | _, _, _ => True
def flowNeeds (Rs : List Rel) (xs : List Value) (w : World) : List Nat → Prop
  | [] => True
  | p :: r => relAt Rs p (xs.getD p undef) w ∧ flowNeeds Rs xs w r
def ecAll : List Rel → Prop
  | [] => True
  | R :: Rs => (∀ v, EC (R v)) ∧ ecAll Rs
section
variable {P : Program} {ops : Array Oper} {Q : Exit → Act → World → Prop}
/-- what an operation of the flow comes to -/
def FlowPost (Rs : List Rel) (ds : List Nat) (a : Act) (xs : List Value) (p : Nat) (W : World) (a1 : Act) (W1 : World) : Prop := ∃ v, a1 = puts a ds (xs.set p v) ∧ Ext W W1 ∧ relAt Rs p v W1
def flowSteps (P : Program) (ops : Array Oper) (Q : Exit → Act → World → Prop) (S : World → Prop) (Rs : List Rel) (ds : List Nat) (needs : List (List Nat)) (a : Act) (n : Nat) : List Oper → Nat → Prop
  | [], _ => True
  | o :: r, p => (∀ xs W, xs.length = n → S W → flowNeeds Rs xs W (needs.getD p []) → wpList P ops (fun e a1 W1 => e = .normal ∧ FlowPost Rs ds a xs p W a1 W1) [o] (puts a ds xs) W) ∧ flowSteps P ops Q S Rs ds needs a n r (p + 1)
def wpOF (P : Program) (ops : Array Oper) (Q : Exit → Act → World → Prop) : OF → (World → Prop) → Act → Prop
  | .flow os ds needs t, S, a => ∃ Rs : List Rel, Rs.length = os.length ∧ ecAll Rs ∧ flowSteps P ops Q S Rs ds needs a os.length os 0 ∧ ∀ xs w, xs.length = os.length → S w → flowAll Rs xs w → wpOT P ops (fun _ => True) Q t (puts a ds xs) w
  | .take l r, S, a => ∀ (ι : Type) [Inhabited ι] (f : ι → World), (∀ p, S (f p)) → wpQuiet P ops (fun W => ∃ p, W = f p) (fun a' => wpOF P ops Q r S a') l a
  | .free l r, S, a => wpQuiet P ops (fun _ => True) (fun a' => wpOF P ops Q r S a') l a
  | .call o r, S, a => ∃ v, YieldsC P ops S o v a ∧ wpOF P ops Q r S (a.put o.dst v)

theorem ecAll_at : ∀ {Rs : List Rel} (p : Nat), ecAll Rs → ∀ v, EC (relAt Rs p v)
  | [], p, _, v => fun _ _ _ _ => by simp [relAt, anyRel]
  | R :: Rs, 0, h, v => h.1 v
  | R :: Rs, p + 1, h, v => by
    have := ecAll_at p h.2 v
    simpa [relAt] using this
theorem flowNeeds_of {Rs : List Rel} {xs : List Value} {w : World} : ∀ {l : List Nat}, (∀ p ∈ l, relAt Rs p (xs.getD p undef) w) → flowNeeds Rs xs w l
  | [], _ => trivial
  | p :: r, h => ⟨h p (List.mem_cons_self ..), flowNeeds_of fun q hq => h q (List.mem_cons_of_mem _ hq)⟩
theorem flowAll_of {w : World} : ∀ {Rs : List Rel} {xs : List Value}, xs.length = Rs.length → (∀ p, p < Rs.length → relAt Rs p (xs.getD p undef) w) → flowAll Rs xs w
  | [], [], _, _ => trivial
  | R :: Rs, [], h, _ => by simp at h
  | [], x :: xs, h, _ => trivial
  | R :: Rs, x :: xs, h, k => ⟨by simpa [relAt] using k 0 (by simp), flowAll_of (by simpa using h) fun p hp => by simpa [relAt] using k (p + 1) (by simpa using hp)⟩
theorem act_put_self (a : Act) (d : Nat) : a.put (some d) (a.tmps.getD d undef) = a := by
  obtain ⟨tmps, defers⟩ := a
  simp only [Act.put]
  congr 1
  refine Array.ext_getElem? fun i => ?_
  rw [Array.getElem?_setIfInBounds]
  split
  · rename_i h
    subst h
    split
    · rename_i h2
      rw [Array.getElem?_eq_getElem h2]
      simp [h2]
    · rename_i h2
      rw [Array.getElem?_eq_none (by omega)]
  · rfl
theorem puts_self (a : Act) : ∀ (ds : List Nat), puts a ds (ds.map fun d => a.tmps.getD d undef) = a
  | [] => rfl
  | d :: ds => by
    simp only [List.map_cons, puts]
    rw [act_put_self]
    exact puts_self a ds
theorem getD_set_eq {listed : Array Bool} {k j : Nat} (h : k ≠ j) : (listed.setIfInBounds k true).getD j false = listed.getD j false := getD_set_ne false h
theorem getD_set_same {listed : Array Bool} {k : Nat} (h : k < listed.size) : (listed.setIfInBounds k true).getD k false = true := by simp [h]
theorem marked_getD : ∀ (l : List Nat) (listed : Array Bool) (j : Nat), (∀ k ∈ l, k < listed.size) → (marked l listed).getD j false = (listed.getD j false || l.contains j)
  | [], listed, j, _ => by simp [marked]
  | k :: r, listed, j, h => by
    simp only [marked]
    rw [marked_getD r _ j (fun q hq => by simpa using h q (List.mem_cons_of_mem _ hq))]
    by_cases e : k = j
    · subst e
      rw [getD_set_same (h k (List.mem_cons_self ..))]
      simp
    · rw [getD_set_eq e, List.contains_cons]
      have : (j == k) = false := by simpa using Ne.symm e
      rw [this, Bool.false_or]
theorem array_ext_getD {x y : Array Bool} (h : x.size = y.size) (k : ∀ j, x.getD j false = y.getD j false) : x = y := by
  refine Array.ext h fun i h1 h2 => ?_
  have := k i
  simpa [h1, h2] using this
theorem flowSteps_at {S : World → Prop} {Rs : List Rel} {ds : List Nat} {needs : List (List Nat)} {a : Act} {n : Nat} : ∀ {os : List Oper} {p0 : Nat} (p : Nat) (o : Oper), flowSteps P ops Q S Rs ds needs a n os p0 → os[p]? = some o →
    ∀ xs W, xs.length = n → S W → flowNeeds Rs xs W (needs.getD (p0 + p) []) → wpList P ops (fun e a1 W1 => e = .normal ∧ FlowPost Rs ds a xs (p0 + p) W a1 W1) [o] (puts a ds xs) W
  | [], p0, p, o, _, ho => by simp at ho
  | x :: r, p0, 0, o, h, ho => by
    simp at ho
    subst ho
    exact h.1
  | x :: r, p0, p + 1, o, h, ho => by
    have := flowSteps_at p o h.2 (by simpa using ho)
    rw [show p0 + 1 + p = p0 + (p + 1) by omega] at this
    exact this
theorem opsOf_get : ∀ {gs : List Nat} {p k : Nat}, (∀ k ∈ gs, k < ops.size) → gs[p]? = some k → (opsOf ops gs)[p]? = ops[k]?
  | [], p, k, _, h => by simp at h
  | g :: gs, p, k, hin, h => by
    have hg := hin g (List.mem_cons_self ..)
    have e : opsOf ops (g :: gs) = ops[g] :: opsOf ops gs := by simp [opsOf, consOp, Array.getElem?_eq_getElem hg]
    rw [e]
    cases p with
    | zero =>
      simp at h
      subst h
      simp [Array.getElem?_eq_getElem hg]
    | succ p =>
      simp only [List.getElem?_cons_succ] at h ⊢
      exact opsOf_get (fun q hq => hin q (List.mem_cons_of_mem _ hq)) h
theorem opsOf_len : ∀ {gs : List Nat}, (∀ k ∈ gs, k < ops.size) → (opsOf ops gs).length = gs.length
  | [], _ => rfl
  | g :: gs, hin => by
    have hg := hin g (List.mem_cons_self ..)
    have e : opsOf ops (g :: gs) = ops[g] :: opsOf ops gs := by simp [opsOf, consOp, Array.getElem?_eq_getElem hg]
    rw [e, List.length_cons, List.length_cons, opsOf_len (fun q hq => hin q (List.mem_cons_of_mem _ hq))]
theorem needsB_at {gs : List Nat} : ∀ {ks : List Nat} {needs : List (List Nat)} (p k : Nat), needsB ops gs ks needs = true → ks[p]? = some k → needB ops gs k (needs.getD p []) = true
  | [], _, p, k, _, h => by simp at h
  | q :: ks, [], p, k, hB, h => by simp [needsB] at hB
  | q :: ks, n :: needs, 0, k, hB, h => by
    simp only [needsB, Bool.and_eq_true] at hB
    simp at h
    subst h
    simpa using hB.1
  | q :: ks, n :: needs, p + 1, k, hB, h => by
    simp only [needsB, Bool.and_eq_true] at hB
    have := needsB_at p k hB.2 (by simpa using h)
    simpa using this
theorem dstB_len : ∀ {ks ds : List Nat}, dstB ops ks ds = true → ks.length = ds.length
  | [], [], _ => rfl
  | [], _ :: _, h => by simp [dstB] at h
  | _ :: _, [], h => by simp [dstB] at h
  | q :: ks, d :: ds, h => by
    simp only [dstB, Bool.and_eq_true] at h
    simp [dstB_len h.2]
/-- the least that is not listed is ready -/
theorem low_ready {listed : Array Bool} (hlow : lowB ops = true) (hsz : listed.size = ops.size) {j : Nat} (hj : j < ops.size) (hu : listed.getD j false = false) : Region.ready .any ops listed ≠ [] := by
  have key : ∀ n j, j ≤ n → j < ops.size → listed.getD j false = false → Region.ready .any ops listed ≠ [] := by
    intro n
    induction n with
    | zero =>
      intro j hjn hj hu e
      have hj0 : j = 0 := by omega
      subst hj0
      have hm : 0 ∈ Region.ready .any ops listed := by
        refine mem_ready.2 ⟨by simp [hsz, hj] at hu ⊢; exact hu, ops[0], Array.getElem?_eq_getElem hj, fun e he hb => ?_⟩
        have h1 := List.all_eq_true.1 hlow 0 (by simpa using hj)
        rw [Array.getElem?_eq_getElem hj] at h1
        have h2 := Array.all_eq_true'.1 h1 e he
        simp [hb] at h2
      rw [e] at hm
      cases hm
    | succ n ih =>
      intro j hjn hj hu e
      by_cases hall : ∀ i, i < j → listed.getD i false = true
      · have hm : j ∈ Region.ready .any ops listed := by
          refine mem_ready.2 ⟨by simp [hsz, hj] at hu ⊢; exact hu, ops[j], Array.getElem?_eq_getElem hj, fun e he hb => ?_⟩
          have h1 := List.all_eq_true.1 hlow j (by simpa using hj)
          rw [Array.getElem?_eq_getElem hj] at h1
          have h2 := Array.all_eq_true'.1 h1 e he
          simp [hb] at h2
          exact hall _ h2
        rw [e] at hm
        cases hm
      · obtain ⟨i, hi⟩ := Classical.not_forall.1 hall
        obtain ⟨hij, hi⟩ := Classical.not_imp.1 hi
        exact ih i (by omega) (by omega) (by simpa using hi) e
  exact key j j (Nat.le_refl _) hj hu
theorem flow_sound (hsel : Region.noSelect ops = true) {fins gs ds : List Nat} {needs : List (List Nat)} {t : TT} {listed0 : Array Bool} {S : World → Prop} (hE : EC S) {a : Act}
    (hB : flowB ops fins (.flow gs ds needs t) listed0 = true) {Rs : List Rel} (hR : Rs.length = gs.length) (hec : ecAll Rs) (hst : flowSteps P ops Q S Rs ds needs a gs.length (opsOf ops gs) 0)
    (hend : ∀ xs w, xs.length = gs.length → S w → flowAll Rs xs w → wpOT P ops (fun _ => True) Q (treeOf ops t) (puts a ds xs) w) :
    ∀ (n : Nat) (listed : Array Bool) (xs : List Value), (gs.filter fun k => !listed.getD k false).length = n → listed.size = ops.size → Closed ops listed → (∀ j, j ∉ gs → listed.getD j false = listed0.getD j false) → xs.length = gs.length →
      wpAnyC P ops (normalOnly Q) fins fins.length n listed (puts a ds xs) (fun W => S W ∧ ∀ p k, gs[p]? = some k → listed.getD k false = true → relAt Rs p (xs.getD p undef) W) := by
  simp only [flowB, Bool.and_eq_true, decide_eq_true_eq] at hB
  obtain ⟨⟨⟨⟨⟨⟨⟨⟨⟨b1, b2⟩, b3⟩, b4⟩, b5⟩, b6⟩, b7⟩, b8⟩, b9⟩, b10⟩ := hB
  have hin : ∀ k ∈ gs, k < ops.size ∧ fins.contains k = false := fun k hk => by
    have := List.all_eq_true.1 b2 k hk
    simp only [Bool.and_eq_true, Bool.not_eq_true', decide_eq_true_eq] at this
    exact ⟨this.1.2, this.1.1⟩
  intro n
  induction n with
  | zero =>
    intro listed xs hn hsz hcl hout hxs
    have hall : ∀ k ∈ gs, listed.getD k false = true := fun k hk => by
      have h0 := List.length_eq_zero_iff.1 hn
      rw [List.filter_eq_nil_iff] at h0
      simpa using h0 k hk
    refine ⟨fun j hj => ?_, fun w hw => ?_⟩
    · have := List.all_eq_true.1 b1 j (by simpa using hj)
      simp only [Bool.or_eq_true] at this
      rcases this with (h | h) | h
      · by_cases hg : j ∈ gs
        · exact .inl (hall j hg)
        · exact .inl ((hout j hg).trans h)
      · exact .inr h
      · exact .inl (hall j (by simpa using h))
    · have he : listed = marked gs listed0 := by
        refine array_ext_getD (by rw [marked_size, hsz, b8]) fun j => ?_
        rw [marked_getD gs listed0 j (fun k hk => by rw [b8]; exact (hin k hk).1)]
        by_cases hg : j ∈ gs
        · rw [hall j hg]
          have : gs.contains j = true := by simpa using hg
          rw [this, Bool.or_true]
        · rw [hout j hg]
          have : gs.contains j = false := by simpa using hg
          rw [this, Bool.or_false]
      have hw2 := hend xs w hxs hw.1 (flowAll_of (by rw [hxs, hR]) fun p hp => by
        rw [hR] at hp
        exact hw.2 p gs[p] (List.getElem?_eq_getElem hp) (hall _ (List.getElem_mem hp)))
      have := tree_sound (Q := Q) hsel t (marked gs listed0) (puts a ds xs) w trivial b9 hw2
      rw [b10] at this
      rw [he]
      exact wpAny_of_held _ _ _ _ this
  | succ n ih =>
    intro listed xs hn hsz hcl hout hxs w hw
    obtain ⟨k0, hk0, hu0⟩ : ∃ k ∈ gs, listed.getD k false = false := by
      have : (gs.filter fun k => !listed.getD k false) ≠ [] := fun e => by rw [e] at hn; simp at hn
      obtain ⟨k, hk⟩ := List.exists_mem_of_ne_nil _ this
      rw [List.mem_filter] at hk
      exact ⟨k, hk.1, by simpa using hk.2⟩
    refine ⟨low_ready b7 hsz (hin k0 hk0).1 hu0, fun i hi => ?_⟩
    have hi' := hi
    obtain ⟨hui, oi, hoi, hdeps⟩ := mem_ready.1 hi
    have his : i < ops.size := (Array.getElem?_eq_some_iff.1 hoi).1
    have hui' : listed.getD i false = false := by simp [hsz, his] at hui ⊢; exact hui
    have hnf : fins.contains i = false := by
      cases hf : fins.contains i with
      | false => rfl
      | true =>
        have h1 := List.all_eq_true.1 b6 i (by simpa using hf)
        have h2 := List.all_eq_true.1 h1 k0 hk0
        have := reach_listed hcl ops.size i oi hoi hdeps h2
        rw [hu0] at this
        cases this
    have hig : i ∈ gs := by
      have := List.all_eq_true.1 b1 i (by simpa using his)
      simp only [Bool.or_eq_true] at this
      rcases this with (h | h) | h
      · by_cases hg : i ∈ gs
        · exact hg
        · rw [hout i hg, h] at hui'
          cases hui'
      · rw [hnf] at h; cases h
      · simpa using h
    obtain ⟨p, hp, hgp⟩ := List.mem_iff_getElem.1 hig
    have hgp' : gs[p]? = some i := by rw [List.getElem?_eq_getElem hp, hgp]
    rw [if_neg (by rw [hnf]; simp)]
    have hneed : flowNeeds Rs xs w (needs.getD (0 + p) []) := by
      rw [Nat.zero_add]
      refine flowNeeds_of fun q hq => ?_
      have h1 := needsB_at p i b5 hgp'
      have h2 := List.all_eq_true.1 h1 q hq
      cases hgq : gs[q]? with
      | none => rw [hgq] at h2; cases h2
      | some k' =>
        rw [hgq, hoi] at h2
        obtain ⟨e, he, hb⟩ := Array.any_eq_true'.1 h2
        simp only [Bool.and_eq_true, beq_iff_eq] at hb
        exact hw.2 q k' hgq (by rw [← hb.2]; exact hdeps e he hb.1)
    have hop := flowSteps_at p oi hst (by rw [opsOf_get (fun k hk => (hin k hk).1) hgp']; exact hoi) xs w hxs hw.1 hneed
    refine wpOp_mono ?_ (wpOp_of_list hoi hop)
    rintro a1 W1 ⟨v, rfl, hx, hr⟩
    rw [Nat.zero_add] at hr ⊢
    have hsz' : (listed.setIfInBounds i true).size = ops.size := by simpa using hsz
    have hlen' : (xs.set p v).length = gs.length := by simpa using hxs
    have hgv : (xs.set p v).getD p undef = v := by
      rw [List.getD_eq_getElem?_getD, List.getElem?_set_self (by rw [hxs]; exact hp)]
      rfl
    have hgo : ∀ q, q ≠ p → (xs.set p v).getD q undef = xs.getD q undef := fun q hq => by
      rw [List.getD_eq_getElem?_getD, List.getD_eq_getElem?_getD, List.getElem?_set_ne (Ne.symm hq)]
    refine ⟨_, ?_, ?_, ?_, ih (listed.setIfInBounds i true) (xs.set p v) ?_ hsz' (hcl.set hi') ?_ hlen'⟩
    · rintro A B ⟨h1, h2⟩ hAB
      exact ⟨hE A B h1 hAB, fun q k hk hl => ecAll_at q hec _ A B (h2 q k hk hl) hAB⟩
    · rintro A ⟨h1, h2⟩
      refine ⟨h1, fun q k hk hl => ?_⟩
      have hne : q ≠ p := fun e => by
        subst e
        rw [hgp'] at hk
        cases hk
        rw [hui'] at hl
        cases hl
      have := h2 q k hk (getD_set_mono hl)
      rwa [hgo q hne] at this
    · refine ⟨hE _ _ hw.1 hx, fun q k hk hl => ?_⟩
      by_cases hq : q = p
      · subst hq
        rw [hgv]
        exact hr
      · rw [hgo q hq]
        have hki : k ≠ i := fun e => by
          subst e
          have h1 : q < gs.length := (List.getElem?_eq_some_iff.1 hk).1
          have h2 := (List.getElem?_eq_some_iff.1 hk).2
          exact hq ((List.getElem?_inj h1 b3).1 (hk.trans hgp'.symm))
        rw [getD_set_eq (Ne.symm hki)] at hl
        exact ecAll_at q hec _ _ _ (hw.2 q k hk hl) hx
    · have key : ∀ (l : List Nat), l.Nodup → i ∈ l → (l.filter fun k => !(listed.setIfInBounds i true).getD k false).length + 1 = (l.filter fun k => !listed.getD k false).length := by
        intro l
        induction l with
        | nil => intro _ h; cases h
        | cons x l ihl =>
          intro hnd hm
          rw [List.nodup_cons] at hnd
          by_cases e : x = i
          · subst e
            have hsame : (l.filter fun k => !(listed.setIfInBounds x true).getD k false) = (l.filter fun k => !listed.getD k false) := by
              refine List.filter_congr fun k hk => ?_
              rw [getD_set_eq (fun e => by subst e; exact hnd.1 hk)]
            rw [List.filter_cons_of_neg (by rw [getD_set_same (by rw [hsz]; exact his)]; simp), List.filter_cons_of_pos (by rw [hui']; rfl), hsame, List.length_cons]
          · have hm' : i ∈ l := by
              rcases List.mem_cons.1 hm with h | h
              · exact absurd h.symm e
              · exact h
            have := ihl hnd.2 hm'
            by_cases hx1 : listed.getD x false = true
            · rw [List.filter_cons_of_neg (by rw [getD_set_eq (Ne.symm e), hx1]; simp), List.filter_cons_of_neg (by rw [hx1]; simp)]
              exact this
            · have hx2 : listed.getD x false = false := by simpa using hx1
              rw [List.filter_cons_of_pos (by rw [getD_set_eq (Ne.symm e), hx2]; rfl), List.filter_cons_of_pos (by rw [hx2]; rfl), List.length_cons, List.length_cons, this]
      have := key gs b3 hig
      omega
    · intro j hj
      rw [getD_set_eq (fun e => hj (by rw [← e]; exact hig))]
      exact hout j hj
theorem flowPlan_sound {fins : List Nat} (hsel : Region.noSelect ops = true) : ∀ (t : FT) (listed : Array Bool) (a : Act) (S : World → Prop), EC S → (∃ w, S w) → Closed ops listed → flowB ops fins t listed = true → wpOF P ops Q (flowOf ops t) S a → wpAnyC P ops (normalOnly Q) fins fins.length t.len listed a S
  | .flow gs ds needs t, listed, a, S, hE, hne, hcl, hB, h => by
    have hB' := hB
    simp only [flowB, Bool.and_eq_true, decide_eq_true_eq] at hB'
    obtain ⟨⟨⟨⟨⟨⟨⟨⟨⟨b1, b2⟩, b3⟩, b4⟩, b5⟩, b6⟩, b7⟩, b8⟩, b9⟩, b10⟩ := hB'
    have hin : ∀ k ∈ gs, k < ops.size ∧ listed.getD k false = false := fun k hk => by
      have := List.all_eq_true.1 b2 k hk
      simp only [Bool.and_eq_true, Bool.not_eq_true', decide_eq_true_eq] at this
      exact ⟨this.1.2, this.2⟩
    have hlen := opsOf_len (ops := ops) fun k hk => (hin k hk).1
    obtain ⟨Rs, h1, h2, h3, h4⟩ := h
    rw [hlen] at h1 h3 h4
    have hf := flow_sound (P := P) (Q := Q) hsel hE hB h1 h2 h3 h4 gs.length listed (ds.map fun d => a.tmps.getD d undef) (by rw [List.filter_eq_self.2 (fun k hk => by rw [(hin k hk).2]; rfl)]) b8 hcl (fun _ _ => rfl) (by rw [List.length_map, dstB_len b4])
    rw [puts_self] at hf
    have hS : (fun W => S W ∧ ∀ p k, gs[p]? = some k → listed.getD k false = true → relAt Rs p ((ds.map fun d => a.tmps.getD d undef).getD p undef) W) = S := by
      funext W
      refine propext ⟨fun h => h.1, fun h => ⟨h, fun p k hk hl => ?_⟩⟩
      rw [(hin k (List.mem_of_getElem? hk)).2] at hl
      cases hl
    rw [hS] at hf
    exact hf
  | .take l r, listed, a, S, hE, ⟨w0, hw0⟩, hcl, hB, h => by
    simp only [flowB, Bool.and_eq_true] at hB
    have hC : (fun W => ∃ p : {W : World // S W}, W = p.1) = S := by
      funext W
      exact propext ⟨fun ⟨p, hp⟩ => hp ▸ p.2, fun hW => ⟨⟨W, hW⟩, rfl⟩⟩
    have h' := @h {W : World // S W} ⟨⟨w0, hw0⟩⟩ (fun p => p.1) (fun p => p.2)
    rw [hC] at h'
    exact takesC hsel hE l r.len listed a hcl hB.1 (fun a' hc h' => flowPlan_sound hsel r _ a' S hE ⟨w0, hw0⟩ hc hB.2 h') h'
  | .free l r, listed, a, S, hE, hne, hcl, hB, h => by
    simp only [flowB, Bool.and_eq_true] at hB
    exact freesC hsel hE l r.len listed a hcl hB.1 (fun a' hc h' => flowPlan_sound hsel r _ a' S hE hne hc hB.2 h') h
  | .call k r, listed, a, S, hE, hne, hcl, hB, h => by
    simp only [flowB, Bool.and_eq_true] at hB
    obtain ⟨⟨⟨⟨hr, hf⟩, hnf⟩, hre⟩, hB'⟩ := hB
    have hkr : k ∈ Region.ready .any ops listed := by simpa using hr
    obtain ⟨o, ho⟩ := op_of_ready (ops := ops) hkr
    simp only [flowOf, ho, callOF, wpOF] at h
    obtain ⟨v, hy, h⟩ := h
    refine anyC_first ho hsel (fun _ _ _ h => h) (fun j hj => ?_) (by simpa using hnf) _ listed a S hE hcl (Region.free_spec ho hf) hkr hy (flowPlan_sound hsel r _ _ S hE hne (hcl.set hkr) hB' h)
    have : j ∈ fins := by simpa using hj
    exact List.all_eq_true.1 hre j this
/-- THE THEOREM -/
theorem wp_region_flow {id : Nat} {l : List Oper} {a : Act} {w : World} (t : FT) (fins : List Nat) (S : World → Prop) (oc : OF) (hm : P.follows .mixedOrders = true)
    (hB : (flowB l.toArray fins t (Array.replicate l.toArray.size false) && decide (fins.length + t.len = l.toArray.size) && Region.noSelect l.toArray) = true)
    (h2 : flowOf l.toArray t = oc) (hE : EC S) (hS : S w.drew) (h : wpOF P l.toArray Q oc S a) : (Code.region id l.toArray true).wp P Q a w := by
  simp only [Bool.and_eq_true, decide_eq_true_eq] at hB
  obtain ⟨⟨hB, hlen⟩, hsel⟩ := hB
  rw [← h2] at h
  have key := wpAny_of_C _ _ _ _ w.drew hS (flowPlan_sound (Q := Q) hsel t _ a S hE ⟨_, hS⟩ (closed_none _ _) hB h)
  rw [hlen] at key
  exact Go.wp_mono (wp_region_any hm key) fun e a w hq => by cases e <;> first | exact hq | exact hq.elim
theorem wpOF_flow {os : List Oper} {ds : List Nat} {needs : List (List Nat)} {t : OT} {S : World → Prop} {a : Act} (Rs : List Rel) (h1 : Rs.length = os.length) (h2 : ecAll Rs) (h3 : flowSteps P ops Q S Rs ds needs a os.length os 0)
    (h4 : ∀ xs w, xs.length = os.length → S w → flowAll Rs xs w → wpOT P ops (fun _ => True) Q t (puts a ds xs) w) : wpOF P ops Q (.flow os ds needs t) S a := ⟨Rs, h1, h2, h3, h4⟩
theorem wpOF_free {l : List Oper} {r : OF} {S : World → Prop} {a : Act} (h : wpQuiet P ops (fun _ => True) (fun a' => wpOF P ops Q r S a') l a) : wpOF P ops Q (.free l r) S a := h
theorem flowSteps_cons {S : World → Prop} {Rs : List Rel} {ds : List Nat} {needs : List (List Nat)} {a : Act} {n : Nat} {o : Oper} {r : List Oper} {p : Nat}
    (h : ∀ xs W, xs.length = n → S W → flowNeeds Rs xs W (needs.getD p []) → wpList P ops (fun e a1 W1 => e = .normal ∧ FlowPost Rs ds a xs p W a1 W1) [o] (puts a ds xs) W) (k : flowSteps P ops Q S Rs ds needs a n r (p + 1)) : flowSteps P ops Q S Rs ds needs a n (o :: r) p := ⟨h, k⟩
theorem flowSteps_nil {S : World → Prop} {Rs : List Rel} {ds : List Nat} {needs : List (List Nat)} {a : Act} {n p : Nat} : flowSteps P ops Q S Rs ds needs a n [] p := trivial
theorem FlowPost.mk {Rs : List Rel} {ds : List Nat} {a : Act} {xs : List Value} {p : Nat} {W : World} {a1 : Act} {W1 : World} (v : Value) (h : a1 = puts a ds (xs.set p v)) (hx : Ext W W1) (hr : relAt Rs p v W1) : FlowPost Rs ds a xs p W a1 W1 := ⟨v, h, hx, hr⟩
end
/-- a new slice -/
def IsSl (T : TypeId) (n : Nat) (cs : Array Value) : Rel := fun v W => ∃ b, v = .slice (some ⟨b, 0, none⟩) n n ∧ W.heap[b]? = some (.cells cs T (0, 0))
def IsV (u : Value) : Rel := fun v _ => v = u
/-- a new variable -/
def IsBox (B : Nat) (T : TypeId) (cs : Array Value) : Rel := fun v W => ∃ b, v = .pointer (some ⟨b, 0, none⟩) ∧ B ≤ b ∧ W.heap[b]? = some (.cells cs T (0, 0))
theorem isSl_ec (T : TypeId) (n : Nat) (cs : Array Value) (v : Value) : EC (IsSl T n cs v) := fun _ _ ⟨b, h1, h2⟩ e => ⟨b, h1, e.heap h2⟩
theorem isV_ec (u v : Value) : EC (IsV u v) := fun _ _ h _ => h
theorem isBox_ec (B : Nat) (T : TypeId) (cs : Array Value) (v : Value) : EC (IsBox B T cs v) := fun _ _ ⟨b, h1, h2, h3⟩ e => ⟨b, h1, h2, e.heap h3⟩
theorem IsSl.new {T : TypeId} {n : Nat} {cs : Array Value} {W : World} : IsSl T n cs (.slice (some ⟨W.heap.size, 0, none⟩) n n) (W.alloc (.cells cs T)) := ⟨_, rfl, heap_alloc_new W _⟩
theorem IsBox.new {B : Nat} {T : TypeId} {cs : Array Value} {W : World} (h : B ≤ W.heap.size) : IsBox B T cs (.pointer (some ⟨W.heap.size, 0, none⟩)) (W.alloc (.cells cs T)) := ⟨_, rfl, h, heap_alloc_new W _⟩
theorem len1 {α : Type} {l : List α} (h : l.length = 1) : ∃ a, l = [a] := by
  match l, h with
  | [a], _ => exact ⟨a, rfl⟩
theorem len2 {α : Type} {l : List α} (h : l.length = 2) : ∃ a b, l = [a, b] := by
  match l, h with
  | [a, b], _ => exact ⟨a, b, rfl⟩
theorem len3 {α : Type} {l : List α} (h : l.length = 3) : ∃ a b c, l = [a, b, c] := by
  match l, h with
  | [a, b, c], _ => exact ⟨a, b, c, rfl⟩
theorem len4 {α : Type} {l : List α} (h : l.length = 4) : ∃ a b c d, l = [a, b, c, d] := by
  match l, h with
  | [a, b, c, d], _ => exact ⟨a, b, c, d, rfl⟩
theorem len5 {α : Type} {l : List α} (h : l.length = 5) : ∃ a b c d e, l = [a, b, c, d, e] := by
  match l, h with
  | [a, b, c, d, e], _ => exact ⟨a, b, c, d, e, rfl⟩
theorem len6 {α : Type} {l : List α} (h : l.length = 6) : ∃ a b c d e f, l = [a, b, c, d, e, f] := by
  match l, h with
  | [a, b, c, d, e, f], _ => exact ⟨a, b, c, d, e, f, rfl⟩
end Go.Proofs.YtcoelhpmkhimpaaGreat

/- Slices that a call makes itself, as lists of rows of cells; append. -/
namespace Go.Proofs.YtcoelhpmkhimpaaGreat
open Go.RowKit
set_option linter.unusedVariables false

theorem Ext.grownBy {w w' : World} (h : Ext w w') : w.grownBy w' none := ⟨h.os, h.tape, h.output, h.size, fun k hk _ => h.block k hk⟩

/-- the slice v owns these rows of sz cells each, from block 'base' on -/
def Owns (w : World) (base : Nat) (e : TypeId) (sz : Nat) (v : Value) (rows : List (List Value)) : Prop :=
  w.ownsRow base e sz v rows.length rows.flatten ∧ ∀ r ∈ rows, r.length = sz

section
variable {w w' : World} {base : Nat} {e : TypeId} {sz : Nat} {v : Value} {rows : List (List Value)}
theorem Owns.nil (w : World) (base : Nat) (e : TypeId) (sz : Nat) : Owns w base e sz (.slice none 0 0) [] := ⟨World.ownsRow_nil _ _ _ _, by simp⟩
theorem Owns.kept {row : Option Nat} (h : Owns w base e sz v rows) (hg : w.grownBy w' row) (hne : v.ownBlock = none ∨ v.ownBlock ≠ row) : Owns w' base e sz v rows := ⟨h.1.kept hg hne, h.2⟩
theorem Owns.ext (h : Owns w base e sz v rows) (hx : Ext w w') : Owns w' base e sz v rows := h.kept hx.grownBy (by cases v.ownBlock <;> simp)
theorem Owns.alloc (h : Owns w base e sz v rows) (o : Obj) : Owns (w.alloc o) base e sz v rows := ⟨h.1.alloc o, h.2⟩
theorem Owns.drew (h : Owns w base e sz v rows) : Owns w.drew base e sz v rows := ⟨h.1, h.2⟩
theorem Owns.lt (h : Owns w base e sz v rows) : ∀ k, v.ownBlock = some k → base ≤ k ∧ k < w.heap.size := h.1.lt

theorem flatten_length {rows : List (List Value)} {sz : Nat} (h : ∀ r ∈ rows, r.length = sz) : rows.flatten.length = rows.length * sz := by
  induction rows with
  | nil => simp
  | cons r rows ih =>
    simp only [List.flatten_cons, List.length_append, List.length_cons]
    rw [ih (fun x hx => h x (List.mem_cons_of_mem _ hx)), h r (List.mem_cons_self ..), Nat.add_mul]
    omega
theorem flatten_get {sz : Nat} : ∀ {rows : List (List Value)}, (∀ r ∈ rows, r.length = sz) → ∀ (k j : Nat) (r : List Value), rows[k]? = some r → j < sz → rows.flatten[k * sz + j]? = r[j]?
  | [], _, k, j, r, hr, _ => by simp at hr
  | x :: rows, h, k, j, r, hr, hj => by
    have hx := h x (List.mem_cons_self ..)
    cases k with
    | zero =>
      simp only [List.getElem?_cons_zero, Option.some.injEq] at hr
      subst hr
      rw [List.flatten_cons, List.getElem?_append_left (by omega)]
      simp
    | succ k =>
      simp only [List.getElem?_cons_succ] at hr
      rw [List.flatten_cons, List.getElem?_append_right (by rw [hx, Nat.add_mul]; omega)]
      rw [hx, show (k + 1) * sz + j - sz = k * sz + j by rw [Nat.add_mul]; omega]
      exact flatten_get (fun y hy => h y (List.mem_cons_of_mem _ hy)) k j r hr hj
theorem flatten_inv {sz : Nat} : ∀ {rows : List (List Value)}, (∀ r ∈ rows, r.length = sz) → ∀ (i : Nat) (u : Value), rows.flatten[i]? = some u → ∃ k j r, i = k * sz + j ∧ j < sz ∧ rows[k]? = some r ∧ r[j]? = some u
  | [], _, i, u, hu => by simp at hu
  | x :: rows, h, i, u, hu => by
    have hx := h x (List.mem_cons_self ..)
    rw [List.flatten_cons] at hu
    rcases Nat.lt_or_ge i x.length with hi | hi
    · rw [List.getElem?_append_left hi] at hu
      exact ⟨0, i, x, by simp, by omega, rfl, hu⟩
    · rw [List.getElem?_append_right hi] at hu
      obtain ⟨k, j, r, e, hj, hr, hu⟩ := flatten_inv (fun y hy => h y (List.mem_cons_of_mem _ hy)) _ u hu
      exact ⟨k + 1, j, r, by rw [Nat.add_mul]; omega, hj, by simpa using hr, hu⟩

theorem addr_add (b k : Nat) : (⟨b, 0, none⟩ : Addr).add k = ⟨b, k, none⟩ := by unfold Addr.add; split <;> simp_all
theorem addr_add' (b o k : Nat) : (⟨b, o, none⟩ : Addr).add k = ⟨b, o + k, none⟩ := by unfold Addr.add; split <;> simp_all

theorem SlAt.congr {a : Option Addr} {n : Nat} {f g : Nat → List Value} (h : SlAt w sz a n f) (hfg : ∀ k, k < n → f k = g k) : SlAt w sz a n g :=
  fun hn => let ⟨b, off, ha, hc⟩ := h hn; ⟨b, off, ha, fun k hk => hfg k hk ▸ hc k hk⟩

/-- what is owned can be read -/
theorem Owns.slAt (h : Owns w base e sz v rows) : ∃ a c, v = .slice a rows.length c ∧ From base a ∧ rows.length ≤ c ∧ c ≤ maxLen ∧ SlAt w sz a rows.length (fun k => rows.getD k []) := by
  obtain ⟨ho, hr⟩ := h
  rcases ho.2 with ⟨rfl, h0⟩ | ⟨g, cap, cur, rfl, hg, _, hn, hcap, _, _⟩
  · have : rows = [] := List.length_eq_zero_iff.1 h0
    subst this
    exact ⟨none, 0, rfl, From.none _, Nat.le_refl _, by unfold maxLen; omega, fun h => absurd h (by simp)⟩
  · refine ⟨_, _, rfl, fun x hx => by cases hx; exact hg, hn, hcap, fun h0 => ⟨g, 0, rfl, fun k hk j u hu => ?_⟩⟩
    obtain ⟨r, hrk⟩ : ∃ r, rows[k]? = some r := ⟨rows[k], by simp⟩
    simp only [List.getD, hrk, Option.getD_some] at hu
    have hjs : j < sz := by
      have := hr r (List.mem_of_getElem? hrk)
      rcases Nat.lt_or_ge j r.length with h | h
      · omega
      · simp [List.getElem?_eq_none h] at hu
    have := ho.cells (g := g) rfl (k * sz + j) u (by rw [flatten_get hr k j r hrk hjs]; exact hu)
    rw [addr_add] at this
    simpa using this
end

theorem Ext.app {a b c : World} {e : TypeId} {sz : Nat} {v : Value} {rows : List (List Value)} (h : Ext a b) (ho : Owns b a.heap.size e sz v rows) (hg : b.grownBy c v.ownBlock) : Ext a c :=
  Below.grown h hg h.size (fun k hk => (ho.lt k hk).1)

/-- what the laws on append ask of a slice type's element -/
structure Elem (P : Program) (T e : TypeId) (sz : Nat) : Prop where
  ht : P.underlying T = some (.slice e)
  hi : ∃ i z bytes, P.info? e = some i ∧ i.zero = some z ∧ i.size = sz ∧ i.bytes = bytes ∧ z.cells.size = sz ∧ bytes ≤ 4096
  hsz : 0 < sz

theorem run_append_zero {P : Program} {w : World} {base : Nat} {T ty e : TypeId} {sz : Nat} {v : Value} {n : Nat} {xs : List Value} (E : Elem P T e sz) (hown : w.ownsRow base e sz v n xs) (xa : Option Addr) (c : Nat) :
    (Builtin.append_ #[T, T] ty #[v, .slice xa 0 c]).run P w = .ok v w := by
  obtain ⟨i, z, bytes, hi, _⟩ := E.hi
  rcases hown.2 with ⟨rfl, rfl⟩ | ⟨g, cap, cur, rfl, _, _, hnc, _⟩ <;> cases xa
  · simp [Builtin.append_, run_underlying E.ht, sizeOf, typeInfo, hi, Builtin.lenOf, Builtin.firstCells]
  · simp [Builtin.append_, run_underlying E.ht, sizeOf, typeInfo, hi, Builtin.lenOf, Builtin.firstCells, loadCells, loadCellsFrom]
  · simp [Builtin.append_, run_underlying E.ht, sizeOf, typeInfo, hi, Builtin.lenOf, Builtin.firstCells, hnc, storeCells]
  · simp [Builtin.append_, run_underlying E.ht, sizeOf, typeInfo, hi, Builtin.lenOf, Builtin.firstCells, hnc, storeCells, loadCells, loadCellsFrom]

/-- append onto what is the call's own -/
theorem wpList_app {P : Program} {T e : TypeId} {sz : Nat} (E : Elem P T e sz) (w : World) {ops : Array Oper} {rest : List Oper} {o : Oper} {a : Act} {Q : Exit → Act → World → Prop} (hgd : o.guard = none) (s x : Operand)
    (ho : o.op = .call { callee := .builtin .append, args := #[s, x], argTypes := #[T, T] })
    (base : Nat) (v : Value) (rows : List (List Value)) (hs : a.eval s = v) (hown : Owns w base e sz v rows)
    (xa : Option Addr) (m c : Nat) (news : List (List Value)) (hx : a.eval x = .slice xa m c) (hm : news.length = m) (hsrc : SlAt w sz xa m (fun k => news.getD k []))
    (hrow : ∀ r ∈ news, r.length = sz ∧ ∀ u ∈ r, u.oneCell' = true) (hlen : rows.length + m ≤ 1000000000) (hbase : base ≤ w.heap.size)
    (h : ∀ v' w', Owns w' base e sz v' (rows ++ news) → w.grownBy w' v.ownBlock → (v'.ownBlock = v.ownBlock ∨ v'.ownBlock = some w.heap.size) → wpList P ops Q rest (a.put o.dst v') w') :
    wpList P ops Q (o :: rest) a w := by
  by_cases h0 : m = 0
  · subst h0
    obtain rfl : news = [] := List.length_eq_zero_iff.1 hm
    refine wpList_plain hgd fun K hK => ?_
    have hr := run_append_zero (P := P) (ty := o.type) E hown.1 xa c
    unfold Oper.wp execOp
    simp only [ho, resolve, invoke, builtin, Sem.run_bind, Sem.run_pure, Result.andThen_ok, List.map_toArray, List.map_cons, List.map_nil, hs, hx, hr]
    exact hK _ _ (h v w (by simpa using hown) (World.grownBy.refl w _) (.inl rfl))
  · obtain ⟨i, z, bytes, hi, hz, h1, h2, h3, h4⟩ := E.hi
    obtain ⟨b, off, rfl, hc⟩ := hsrc (by omega)
    refine wpList_append_own_at w hgd s x T ho base e i z sz bytes E.ht hi hz h1 h2 h3 E.hsz v rows.length rows.flatten hs hown.1 ⟨b, off, none⟩ m c news.flatten hx ?_ ?_ ?_ ?_ ?_ hbase ?_
    · rw [flatten_length (fun r hr => (hrow r hr).1), hm]
    · intro j u hu
      obtain ⟨k, j', r, rfl, hj', hr, hu'⟩ := flatten_inv (fun r hr => (hrow r hr).1) j u hu
      have hk : k < m := by
        rcases Nat.lt_or_ge k news.length with h | h
        · omega
        · simp [List.getElem?_eq_none h] at hr
      have := hc k hk j' u (by simp only [List.getD, hr, Option.getD_some]; exact hu')
      rw [addr_add', ← Nat.add_assoc]
      exact this
    · intro u hu
      obtain ⟨r, hr, hu'⟩ := List.mem_flatten.1 hu
      exact (hrow r hr).2 u hu'
    · unfold maxLen; omega
    · have : (rows.length + m) * bytes ≤ 1000000000 * 4096 := Nat.mul_le_mul hlen h4
      omega
    · intro v' w' o1 o2 _ o3
      refine h v' w' ⟨by rw [List.length_append, List.flatten_append, hm]; exact o1, fun r hr => ?_⟩ o2 o3
      rcases List.mem_append.1 hr with hr | hr
      · exact hown.2 r hr
      · exact (hrow r hr).1

/-! ### lists of numbers -/
def intRows (k : IntKind) (l : List Int) : List (List Value) := l.map fun z => [.int k z]
theorem intRows_append (k : IntKind) (l m : List Int) : intRows k (l ++ m) = intRows k l ++ intRows k m := by simp [intRows]
theorem intRows_row (k : IntKind) (l : List Int) : ∀ r ∈ intRows k l, r.length = 1 ∧ ∀ u ∈ r, u.oneCell' = true := by
  intro r hr
  obtain ⟨z, _, rfl⟩ := List.mem_map.1 hr
  exact ⟨rfl, fun u hu => by simp at hu; subst hu; rfl⟩
theorem IntsAt.src {k : IntKind} {w : World} {a : Option Addr} {n : Nat} {l : List Int} (h : IntsAt k w a n l) : SlAt w 1 a n (fun i => (intRows k l).getD i []) :=
  h.2.congr fun i hi => by
    have : i < l.length := by rw [h.1]; exact hi
    simp [intRows, List.getD, List.getElem?_map, List.getElem?_eq_getElem this]
theorem ints_of_owns {k : IntKind} {w : World} {B : Nat} {e : TypeId} {v : Value} {l : List Int} (h : Owns w B e 1 v (intRows k l)) : ∃ a c, v = .slice a l.length c ∧ From B a ∧ l.length ≤ c ∧ c ≤ maxLen ∧ IntsAt k w a l.length l := by
  obtain ⟨a, c, hv, h0, h1, h2, h3⟩ := h.slAt
  have e : (intRows k l).length = l.length := by simp [intRows]
  rw [e] at hv h1 h3
  refine ⟨a, c, hv, h0, h1, h2, rfl, h3.congr fun i hi => ?_⟩
  simp [intRows, List.getD, List.getElem?_map, List.getElem?_eq_getElem hi]
/-- one value, in a new block of its own -/
theorem slAt_one {w : World} {sz b : Nat} {r : List Value} (h : Cells w b 0 r) : SlAt w sz (some ⟨b, 0, none⟩) 1 (fun k => [r].getD k []) :=
  fun _ => ⟨b, 0, rfl, fun k hk => by
    obtain rfl : k = 0 := by omega
    simpa using h⟩
theorem cells_one {w : World} {b : Nat} {v : Value} (h : w.cell? ⟨b, 0, none⟩ = some v) : Cells w b 0 [v] := by
  intro j u hu
  cases j with
  | zero => simp at hu; subst hu; simpa using h
  | succ j => simp at hu

/-! ### a block of cells that is written cell by cell -/
def setIn (i : Nat) (v : Value) : Obj → Obj
  | .cells c e f => .cells (c.setIfInBounds i v) e f
  | o => o
theorem heap_setCell_box (w : World) (g i : Nat) (v : Value) : (w.setCell ⟨g, i, none⟩ v).heap[g]? = (w.heap[g]?).map (setIn i v) := by
  simp only [World.setCell, Array.getElem?_modify, if_true]
  congr 1
theorem setIn_cells (i : Nat) (v : Value) (c : Array Value) (e : TypeId) (f : Nat × Nat) : setIn i v (.cells c e f) = .cells (c.setIfInBounds i v) e f := rfl

/-- two results, the first one an aggregate in a variable of its own -/
theorem results_cell_tmp {P : Program} {fn : Func} {p t : Tmp} {ty : TypeId} (h : fn.results = #[.cell p ty, .tmp t]) (tmps : Array Value) (w : World) (g : Nat) (T : TypeId) (cs : Array Value) (fr : Nat × Nat) (d : TypeDesc)
    (hp : tmps.getD p undef = .pointer (some ⟨g, 0, none⟩)) (hg : w.heap[g]? = some (.cells cs T fr))
    (hu : P.underlying ty = some d) (hd : (match d with | .struct _ | .array _ _ => true | _ => false) = true) (hi : (P.info? ty).map (·.size) = some cs.size) :
    (results fn tmps).run P w = .ok (.tuple #[.agg cs, tmps.getD t undef]) w := by
  have hp' : tmps[p]?.getD undef = .pointer (some ⟨g, 0, none⟩) := by simpa using hp
  simp [results, h, hp', asAddr, run_loadVar_row w g T ty cs fr d hg hu hd hi]
end Go.Proofs.YtcoelhpmkhimpaaGreat

/- A range over an iterator that turns blocks of its own (O). No function of the program is named here. -/
namespace Go.Proofs.YtcoelhpmkhimpaaGreat
open Go.RowKit
set_option linter.unusedVariables false

theorem heap_lt {w : World} {b : Nat} {o : Obj} (h : w.heap[b]? = some o) : b < w.heap.size := (Array.getElem?_eq_some_iff.1 h).1
/-- nothing has changed but blocks of O; blocks may have been added -/
structure But (O : Nat → Prop) (A B : World) : Prop where
  os : B.os = A.os
  tape : B.tape = A.tape
  output : B.output = A.output
  size : A.heap.size ≤ B.heap.size
  block : ∀ b o, A.heap[b]? = some o → ¬O b → B.heap[b]? = some o
/-- nor blocks from lo on that hold no cells -/
structure ButF (O : Nat → Prop) (lo : Nat) (A B : World) : Prop where
  os : B.os = A.os
  tape : B.tape = A.tape
  output : B.output = A.output
  size : A.heap.size ≤ B.heap.size
  block : ∀ b o, A.heap[b]? = some o → ¬O b → o.isCells = true ∨ b < lo → B.heap[b]? = some o
theorem But.refl (O : Nat → Prop) (A : World) : But O A A := ⟨rfl, rfl, rfl, Nat.le_refl _, fun _ _ h _ => h⟩
theorem But.trans {O : Nat → Prop} {A B C : World} (h : But O A B) (k : But O B C) : But O A C :=
  ⟨k.os.trans h.os, k.tape.trans h.tape, k.output.trans h.output, Nat.le_trans h.size k.size, fun b o hb hn => k.block b o (h.block b o hb hn) hn⟩
theorem Ext.but {A B : World} (h : Ext A B) (O : Nat → Prop) : But O A B := ⟨h.os, h.tape, h.output, h.size, fun b o hb _ => h.heap hb⟩
theorem But.ext {O : Nat → Prop} {w A B : World} (h : Ext w A) (k : But O A B) (hO : ∀ b, O b → w.heap.size ≤ b) : Ext w B :=
  ⟨k.os.trans h.os, k.tape.trans h.tape, k.output.trans h.output, Nat.le_trans h.size k.size, fun b hb => by
    obtain ⟨o, ho⟩ : ∃ o, w.heap[b]? = some o := ⟨_, Array.getElem?_eq_getElem hb⟩
    rw [ho]
    exact k.block b o (h.heap ho) (fun e => by have := hO b e; omega)⟩
theorem But.setCell {O : Nat → Prop} (W : World) {b i : Nat} (v : Value) (hO : O b) : But O W (W.setCell ⟨b, i, none⟩ v) :=
  ⟨rfl, rfl, rfl, by simp [World.setCell], fun k o hk hn => (Below.heap_setCell _ _ _ _ (fun e => hn (by simp only at e; rw [e]; exact hO))).trans hk⟩
theorem But.f {O : Nat → Prop} {A B : World} (h : But O A B) (lo : Nat) : ButF O lo A B := ⟨h.os, h.tape, h.output, h.size, fun b o hb hn _ => h.block b o hb hn⟩
theorem ButF.put {O : Nat → Prop} {lo l : Nat} {W : World} {o : Obj} (o' : Obj) (hl : W.heap[l]? = some o) (ho : o.isCells = false) (hlo : lo ≤ l) : ButF O lo W (W.putObj l o') :=
  ⟨rfl, rfl, rfl, by rw [World.putObj_size]; exact Nat.le_refl _, fun b p hb _ hc => by
    refine (World.putObj_heap_other (fun e => ?_)).trans hb
    subst e
    rw [hl] at hb
    cases hb
    rcases hc with hc | hc
    · rw [ho] at hc; cases hc
    · omega⟩
theorem ButF.ext {O : Nat → Prop} {lo : Nat} {w A B : World} (h : Ext w A) (k : ButF O lo A B) (hO : ∀ b, O b → w.heap.size ≤ b) (hlo : w.heap.size ≤ lo) : Ext w B :=
  ⟨k.os.trans h.os, k.tape.trans h.tape, k.output.trans h.output, Nat.le_trans h.size k.size, fun b hb => by
    obtain ⟨o, ho⟩ : ∃ o, w.heap[b]? = some o := ⟨_, Array.getElem?_eq_getElem hb⟩
    rw [ho]
    exact k.block b o (h.heap ho) (fun e => by have := hO b e; omega) (.inr (by omega))⟩
theorem ButF.cells {O : Nat → Prop} {lo : Nat} {A B : World} (h : ButF O lo A B) {b : Nat} {cs : Array Value} {t : TypeId} {f : Nat × Nat} (hb : A.heap[b]? = some (.cells cs t f)) (hn : ¬O b) : B.heap[b]? = some (.cells cs t f) := h.block b _ hb hn (.inl rfl)

variable {F : Fence} {n : Nat} {P : Program}
/-- the contract of an iterator that turns blocks of O -/
def SeqStopsB {α : Type} (F : Fence) (n : Nat) (P : Program) (g : Nat) (lb : Array Value) (encs : α → Array Value) (Kp : World → World → Prop) (S Sp : List α → Prop) (N : Nat) (O : Nat → Prop) (w : World) : Prop :=
  ∀ (l : Nat) (J Jx : List α → World → Prop) (W : World), Ext w W → (∀ s A B, J s A → But O A B → J s B) → (∀ s A B, Jx s A → But O A B → Jx s B) →
    (∀ pre x W1, J pre W1 → pre.length < N → YieldAt F (n - 1) P l (encs x) W1 fun e W' =>
      (e = .returned (.bool true) ∧ J (pre ++ [x]) W' ∧ Kp W1 W') ∨ (e = .returned (.bool false) ∧ Jx (pre ++ [x]) W')) →
    J [] W →
    CallsIn F n P g (#[.func (.yield l) #[] #[]] ++ lb) W fun e W' => (∃ v, e = .returned v) ∧ ((∃ xs, S xs ∧ J xs W') ∨ (∃ pre, Sp pre ∧ Jx pre W'))
theorem wpIn_rangeFunc_but {α : Type} {g : Operand} {ps : Array Tmp} {assign body : Code} {Q : Exit → Act → World → Prop} {a : Act} {w : World}
    (hro : F.round = none) (h1 : 1 ≤ n) {gf : Nat} {lb : Array Value} (hg : a.eval g = .func (.func gf) #[] lb) (hFg : F.fn gf) (eg : ∀ args w, (callFunc gf args).run P w = .ok (.enter gf args) w)
    {encs : α → Array Value} {Kp : World → World → Prop} {S Sp : List α → Prop} {N : Nat} {O : Nat → Prop} {w0 : World} (hseq : SeqStopsB F (n - 1) P gf lb encs Kp S Sp N O w0)
    (hKt : ∀ {A B C : World}, Kp A B → Kp B C → Kp A C) (hKb : ∀ (W : World) (l : Nat) (o o' : Obj), w.heap.size ≤ l → W.heap[l]? = some o → o.isCells = false → o.isWalk = false → Kp W (W.putObj l o')) (hb0 : Ext w0 w) (hO : ∀ b, O b → b < w.heap.size) (hps : ∀ x, (encs x).size = ps.size)
    (I : List α → World → Prop) (Ix : Code → List α → World → Prop) (hI : ∀ s A B, I s A → ButF O w.heap.size A B → I s B) (hIx : ∀ c s A B, Ix c s A → ButF O w.heap.size A B → Ix c s B) (h0 : I [] w) (a₁ : α → Act)
    (hassign : ∀ (l : Nat) (x : α) (W : World) (K : Act → World → Prop), K (a₁ x) W →
      assign.wpIn (F.inRound l) (n - 1 - 1) P (Exit.then K (fun _ _ _ => False)) { tmps := (ps.zip (encs x)).foldl (fun t (p, v) => t.setIfInBounds p v) a.tmps, defers := [] } W)
    (hbody : ∀ (l : Nat) (pre : List α) (x : α) (W : World), I pre W → pre.length < N → body.wpIn (F.inRound l) (n - 1 - 1) P (ownPostK Kp I Ix (pre ++ [x]) W) (a₁ x) W)
    (hdone : ∀ (D : Nat) (xs : List α) (W : World), w.heap.size ≤ D → S xs → I xs W → W.heap[D]? = some (.deferred (some [])) → Q .normal { a with defers := { target := .collected D, args := #[] } :: a.defers } W)
    (hstop : ∀ (D : Nat) (c : Code) (pre : List α) (W : World), w.heap.size ≤ D → Sp pre → Ix c pre W → W.heap[D]? = some (.deferred (some [])) → c.wpIn F n P Q { a with defers := { target := .collected D, args := #[] } :: a.defers } W) :
    (Code.rangeFunc g ps assign body).wpIn F n P Q a w := by
  refine wpIn_rangeFunc ?_
  intro fn hfn
  rw [hro]
  obtain ⟨rec, hrec⟩ : ∃ rec : LoopState → Option Code → Loop, rec = fun st pe => { state := st, pending := pe, fn, tmps := a.tmps, params := ps, assign, body, defers := w.heap.size } := ⟨_, rfl⟩
  obtain ⟨W1, hW1⟩ : ∃ W1, (w.alloc (.deferred (some []))).alloc (.loop (rec .ready none)) = W1 := ⟨_, rfl⟩
  have hL1 : W1.heap[w.heap.size + 1]? = some (.loop (rec .ready none)) := by
    rw [← hW1]; have := World.alloc_heap_new (w.alloc (.deferred (some []))) (.loop (rec .ready none)); rwa [World.size_alloc] at this
  have hK1 : W1.heap[w.heap.size]? = some (.deferred (some [])) := by
    rw [← hW1]; exact (Below.heap_alloc _ _ _ (by simp)).trans (World.alloc_heap_new w _)
  have hx1 : Ext w W1 := by rw [← hW1]; exact ((Ext.refl w).alloc _).alloc _
  have hI1 : I [] W1 := hI _ _ _ h0 ((hx1.but O).f _)
  have hb1 : Ext w0 W1 := hb0.trans hx1
  have hO0 : ¬O w.heap.size := fun h => by have := hO _ h; omega
  have hO1 : ¬O (w.heap.size + 1) := fun h => by have := hO _ h; omega
  refine ⟨w.heap.size + 1, [{ target := .collected w.heap.size, args := #[] }], W1, { target := .fn (.func gf) lb, args := #[.func (.yield (w.heap.size + 1)) #[] #[]] }, W1, gf,
    #[.func (.yield (w.heap.size + 1)) #[] #[]] ++ lb, W1, ?_, ?_, ?_, ?_, fun _ => h1, ?_⟩
  · rw [← hW1, hrec]; exact run_enterLoop_outer _ _ _ _ _
  · simp only [resolve, hg]
    simp [go_sem]
  · intro f' hf'; simp [Target.leads] at hf'; subst hf'; exact hFg
  · simp [invoke, go_sem, eg]
  · refine (hseq (w.heap.size + 1)
      (fun pre W => I pre W ∧ W.heap[w.heap.size + 1]? = some (.loop (rec .ready none)) ∧ W.heap[w.heap.size]? = some (.deferred (some [])))
      (fun pre W => ∃ c, Ix c pre W ∧ W.heap[w.heap.size + 1]? = some (.loop (rec .done (some c))) ∧ W.heap[w.heap.size]? = some (.deferred (some [])))
      W1 hb1
      (fun s A B hs hg' => ⟨hI s A B hs.1 (hg'.f _), hg'.block _ _ hs.2.1 hO1, hg'.block _ _ hs.2.2 hO0⟩)
      (fun s A B hs hg' => by
        obtain ⟨c, hc, hl, hk⟩ := hs
        exact ⟨c, hIx c s A B hc (hg'.f _), hg'.block _ _ hl hO1, hg'.block _ _ hk hO0⟩)
      ?_ ⟨hI1, hL1, hK1⟩).mono ?_
    · rintro pre x W ⟨hi, hl, hk⟩ hlen
      have hlt : w.heap.size + 1 < W.heap.size := (Array.getElem?_eq_some_iff.1 hl).1
      have hy := run_yield (P := P) (args := encs x) hl (by rw [hrec]; exact hps x)
      rw [hrec] at hy
      refine ⟨fn, _, assign, body, hy, roundIn_of_wpIn hfn (hassign _ x W _ ⟨_, run_beginRound hl (by rw [hrec]), ?_⟩)⟩
      have hl2 : (W.putObj (w.heap.size + 1) (.loop { rec .ready none with state := .busy })).heap[w.heap.size + 1]? = some (.loop { rec .ready none with state := .busy }) := World.putObj_heap_same hlt
      have hk2 : (W.putObj (w.heap.size + 1) (.loop { rec .ready none with state := .busy })).heap[w.heap.size]? = some (.deferred (some [])) := (World.putObj_heap_other (by omega)).trans hk
      have hw2 : Kp W (W.putObj (w.heap.size + 1) (.loop { rec .ready none with state := .busy })) := hKb _ _ _ _ (by omega) hl rfl rfl
      refine wpIn_mono (hbody _ pre x _ (hI _ _ _ hi (ButF.put _ hl rfl (by omega))) hlen) ?_
      have fin : ∀ (jump : Option Code) (W3 : World), KeepsOthers (W.putObj (w.heap.size + 1) (.loop { rec .ready none with state := .busy })) W3 →
          (Instr.endRound (w.heap.size + 1) jump).run P W3 = .ok (.bool jump.isNone) (W3.putObj (w.heap.size + 1) (.loop (rec (if jump.isNone then .ready else .done) jump))) ∧
          W3.heap[w.heap.size + 1]? = some (.loop { rec .ready none with state := .busy }) ∧
          (W3.putObj (w.heap.size + 1) (.loop (rec (if jump.isNone then .ready else .done) jump))).heap[w.heap.size + 1]? = some (.loop (rec (if jump.isNone then .ready else .done) jump)) ∧
          (W3.putObj (w.heap.size + 1) (.loop (rec (if jump.isNone then .ready else .done) jump))).heap[w.heap.size]? = some (.deferred (some [])) := fun jump W3 hk3 => by
        have hl3 := hk3.same _ _ hl2 rfl
        have := run_endRound (P := P) jump hl3
        rw [hrec] at this ⊢
        exact ⟨this, by rw [hrec] at hl3; exact hl3, World.putObj_heap_same (Array.getElem?_eq_some_iff.1 hl3).1, (World.putObj_heap_other (by omega)).trans (hk3.same _ _ hk2 rfl)⟩
      rintro e a3 W3 hp
      cases e with
      | normal =>
        obtain ⟨hk3, hkp3, hi3⟩ := hp
        obtain ⟨hr, hl3, hl4, hk4⟩ := fin none W3 hk3
        exact ⟨_, _, hr, .inl ⟨rfl, ⟨hI _ _ _ hi3 (ButF.put _ hl3 rfl (by omega)), hl4, hk4⟩, hKt (hKt hw2 hkp3) (hKb _ _ _ _ (by omega) hl3 rfl rfl)⟩⟩
      | ret =>
        obtain ⟨hk3, hi3⟩ := hp
        obtain ⟨hr, hl3, hl4, hk4⟩ := fin (some .ret) W3 hk3
        exact ⟨_, _, hr, .inr ⟨rfl, .ret, hIx _ _ _ _ hi3 (ButF.put _ hl3 rfl (by omega)), hl4, hk4⟩⟩
      | exit id =>
        obtain ⟨hk3, hi3⟩ := hp
        obtain ⟨hr, hl3, hl4, hk4⟩ := fin (some (.exit id)) W3 hk3
        exact ⟨_, _, hr, .inr ⟨rfl, .exit id, hIx _ _ _ _ hi3 (ButF.put _ hl3 rfl (by omega)), hl4, hk4⟩⟩
      | goto t =>
        obtain ⟨hk3, hi3⟩ := hp
        obtain ⟨hr, hl3, hl4, hk4⟩ := fin (some (.goto t)) W3 hk3
        exact ⟨_, _, hr, .inr ⟨rfl, .goto t, hIx _ _ _ _ hi3 (ButF.put _ hl3 rfl (by omega)), hl4, hk4⟩⟩
      | panic ch => exact hp.elim
      | outgrown => exact hp.elim
    · rintro e W2 ⟨⟨v, rfl⟩, (⟨xs, hS, hi, hl, hk⟩ | ⟨pre, hSp, c, hi, hl, hk⟩)⟩
      · exact ⟨none, _, by have := run_endLoop (P := P) hl (by rw [hrec]; simp); rw [hrec] at this; exact this, hdone _ xs _ (Nat.le_refl _) hS (hI _ _ _ hi (ButF.put _ hl rfl (by omega))) ((World.putObj_heap_other (by omega)).trans hk)⟩
      · exact ⟨some c, _, by have := run_endLoop (P := P) hl (by rw [hrec]; simp); rw [hrec] at this; exact this, hstop _ c pre _ (Nat.le_refl _) hSp (hIx _ _ _ _ hi (ButF.put _ hl rfl (by omega))) ((World.putObj_heap_other (by omega)).trans hk)⟩
end Go.Proofs.YtcoelhpmkhimpaaGreat

/- A region that draws its order, in a round of a range over a function. -/
namespace Go.Proofs.YtcoelhpmkhimpaaGreat
open Go.RowKit
set_option linter.unusedVariables false

section
variable {P : Program} {ops : Array Oper} {Q : Exit → Act → World → Prop} {l : Nat}
def noDefer (o : Oper) : Bool := match o.op with | .defer _ => false | _ => true
theorem noDefer_ne {o : Oper} (h : noDefer o = true) : ∀ c, o.op ≠ .defer c := by
  intro c e
  unfold noDefer at h
  rw [e] at h
  cases h
theorem wpIn_of_wp {o : Oper} (hd : noDefer o = true) {K : Act → World → Prop} {a : Act} {w : World} (h : o.wp P a w K Q) : o.wpIn (Fence.wide.inRound l) 0 P a w K Q := by
  refine ⟨fun _ _ => trivial, ?_⟩
  rw [Oper.semAt_eq _ _ _ (noDefer_ne hd)]
  unfold Oper.wp at h
  generalize (execOp a.eval o).run P w = r at *
  cases r with
  | ok x w' =>
    cases x <;> simp only [Oper.upon, Oper.uponIn] at h ⊢ <;>
      first
        | exact h
        | exact ⟨(fun e => by cases e), (callsIn_wide (n := 0)).2 h⟩
        | exact ⟨(fun e => by cases e), fun c cs _ => let ⟨v, w', r, s⟩ := h c cs; ⟨v, w', r, stepsIn_wide.2 s⟩⟩
  | halt x w' => cases x <;> simp only [Oper.upon, Oper.uponIn] at h ⊢ <;> exact h
theorem wpAnyIn_of_wpAny (hd : ops.all noDefer = true) (hQ : ¬LetsOut Q) : ∀ (fuel : Nat) (listed : Array Bool) (a : Act) (w : World), wpAny P .any ops Q fuel listed a w → wpAnyIn (Fence.wide.inRound l) 0 P .any ops Q fuel listed a w
  | 0, _, _, _, h => h
  | fuel + 1, listed, a, w, h => ⟨h.1, fun i hi => by
      have h2 := h.2 i hi
      unfold wpOp at h2
      unfold wpOpIn
      cases ho : ops[i]? with
      | none => rw [ho] at h2; exact wpAnyIn_of_wpAny hd hQ fuel _ a w h2
      | some o =>
        rw [ho] at h2
        simp only at h2 ⊢
        have hdo : noDefer o = true := by
          obtain ⟨hi', rfl⟩ := Array.getElem?_eq_some_iff.1 ho
          exact Array.all_eq_true.1 hd i hi'
        split
        · rename_i hw
          rw [if_pos hw] at h2
          exact wpIn_of_wp hdo (Go.Oper.wp_mono (fun a' w' h' => wpAnyIn_of_wpAny hd hQ fuel _ a' w' h') (h2.resolve_right fun e => hQ e.2))
        · rename_i hw
          rw [if_neg hw] at h2
          exact ⟨fun _ _ => trivial, wpAnyIn_of_wpAny hd hQ fuel _ _ w h2⟩⟩
/-- the theorem of Tree, in a round -/
theorem wpIn_region_tree {id : Nat} {l0 : List Oper} {a : Act} {w : World} (t : TT) (S : World → Prop) (ot : OT) (hm : P.follows .mixedOrders = true)
    (hB : (treeB l0.toArray t (Array.replicate l0.toArray.size false) && decide (t.len = l0.toArray.size) && Region.noSelect l0.toArray && l0.toArray.all noDefer) = true)
    (h2 : treeOf l0.toArray t = ot) (hS : S w.drew)
    (h : ∀ (ι : Type) [Inhabited ι] (f : ι → World), (∀ p, S (f p)) → (∀ W, S W → ∃ p, W = f p) → wpOT P l0.toArray (fun W => ∃ p, W = f p) Q ot a w.drew) : (Code.region id l0.toArray true).wpIn (Fence.wide.inRound l) 0 P Q a w := by
  simp only [Bool.and_eq_true, decide_eq_true_eq] at hB
  obtain ⟨⟨⟨hB, hlen⟩, hsel⟩, hdf⟩ := hB
  have hC : (fun W => ∃ p : {W : World // S W}, W = p.1) = S := by
    funext W
    exact propext ⟨fun ⟨p, hp⟩ => hp ▸ p.2, fun hW => ⟨⟨W, hW⟩, rfl⟩⟩
  have h' := @h {W : World // S W} ⟨⟨_, hS⟩⟩ (fun p => p.1) (fun p => p.2) (fun W hW => ⟨⟨W, hW⟩, rfl⟩)
  rw [hC, ← h2] at h'
  have key := tree_sound (Q := Q) hsel t _ a w.drew hS hB h'
  rw [hlen] at key
  have key2 := wpAnyIn_of_wpAny (l := l) hdf (fun ⟨_, _, e⟩ => e) _ _ _ _ (wpAny_of_held _ _ _ _ key)
  exact wpIn_mono (wpIn_region_any (Q := normalOnly Q) hm key2) fun e a w hq => by cases e <;> first | exact hq | exact hq.elim
/-- the theorem of TreeC, in a round -/
theorem wpIn_region_plan {id : Nat} {l0 : List Oper} {a : Act} {w : World} (t : CT) (fins : List Nat) (S : World → Prop) (oc : OC) (hm : P.follows .mixedOrders = true)
    (hB : (planB l0.toArray fins t (Array.replicate l0.toArray.size false) && decide (fins.length + t.len = l0.toArray.size) && Region.noSelect l0.toArray && l0.toArray.all noDefer) = true)
    (h2 : planOf l0.toArray t = oc) (hE : EC S) (hS : S w.drew) (h : wpOC P l0.toArray Q oc S a) : (Code.region id l0.toArray true).wpIn (Fence.wide.inRound l) 0 P Q a w := by
  simp only [Bool.and_eq_true, decide_eq_true_eq] at hB
  obtain ⟨⟨⟨hB, hlen⟩, hsel⟩, hdf⟩ := hB
  rw [← h2] at h
  have key := wpAny_of_C _ _ _ _ w.drew hS (plan_sound (Q := Q) hsel t _ a S hE ⟨_, hS⟩ (closed_none _ _) hB h)
  rw [hlen] at key
  have key2 := wpAnyIn_of_wpAny (l := l) hdf (fun ⟨_, _, e⟩ => e) _ _ _ _ key
  exact wpIn_mono (wpIn_region_any (Q := normalOnly Q) hm key2) fun e a w hq => by cases e <;> first | exact hq | exact hq.elim
end
end Go.Proofs.YtcoelhpmkhimpaaGreat
