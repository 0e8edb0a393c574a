/- A region that draws its order, some of whose operations only read (they yield one value in every world that meets S), while the others follow each other in one forced order: walked once. -/
import Derived.Test.YtcoelhpmkhimpaaGreatDoorBase
import Derived.OrdersHeld
namespace Go.Proofs.YtcoelhpmkhimpaaGreatDoor
open Go.RowKit
set_option linter.unusedVariables false

section
variable {P : Program} {ops : Array Oper} {S : World → Prop} {Q : Exit → Act → World → Prop}

/-- an operation that is no call, but of 'len' -/
def plainOp (ops : Array Oper) (k : Nat) : Bool :=
  match ops[k]? with
  | some o => (match o.op with
    | .call { callee := .builtin .len, .. } => true
    | .call { callee := .builtin .max, .. } => true
    | .call { callee := .builtin .min, .. } => true
    | .call _ | .go _ | .defer _ | .send .. | .recv .. | .select .. | .store .. | .mapUpdate .. | .entryStore .. | .insert .. | .ready _ => false
    | _ => true)
  | none => false

theorem run_value_bind {s : Sem Value} {w : World} {f : FuncId} {args : Array Value} {w' : World} : ((do let x ← s; pure (Next.value x)) : Sem Next).run P w ≠ .ok (.enter f args) w' ∧ ((do let x ← s; pure (Next.value x)) : Sem Next).run P w ≠ .ok .skip w' := by
  constructor <;>
  · intro h
    rw [Sem.run_bind] at h
    cases hs : s.run P w <;> simp [hs, Result.andThen] at h
theorem plain_not_enter {k : Nat} {o : Oper} (ho : ops[k]? = some o) (h : plainOp ops k = true) (ρ : Operand → Value) (w : World) (f : FuncId) (args : Array Value) (w' : World) : (execOp ρ o).run P w ≠ .ok (.enter f args) w' ∧ (execOp ρ o).run P w ≠ .ok .skip w' := by
  obtain ⟨dst, op, type, pos, after, guard⟩ := o
  simp only [plainOp, ho] at h
  cases op
  case call c =>
    obtain ⟨callee, cargs, ats⟩ := c
    cases callee with
    | builtin b =>
      cases b <;> simp at h
      case len =>
        simp only [execOp, resolve, invoke, Sem.run_bind, Sem.run_pure, Result.andThen_ok, builtin]
        constructor <;>
        · intro h
          cases hs : (Builtin.len_ ats type (Array.map ρ cargs)).run P w <;> simp [hs, Result.andThen] at h
      case max =>
        simp only [execOp, resolve, invoke, Sem.run_bind, Sem.run_pure, Result.andThen_ok, builtin]
        constructor <;>
        · intro h
          cases hs : (Builtin.max_ ats type (Array.map ρ cargs)).run P w <;> simp [hs, Result.andThen] at h
      case min =>
        simp only [execOp, resolve, invoke, Sem.run_bind, Sem.run_pure, Result.andThen_ok, builtin]
        constructor <;>
        · intro h
          cases hs : (Builtin.min_ ats type (Array.map ρ cargs)).run P w <;> simp [hs, Result.andThen] at h
    | value f => simp at h
    | invoke r m => simp at h
  case pick c a b =>
    constructor <;>
    · intro h
      simp only [execOp] at h
      rw [Sem.run_bind] at h
      cases hs : (asBool (ρ c)).run P w <;> simp [hs, Result.andThen] at h
  case nilCheck x =>
    constructor
    · intro h
      simp only [execOp] at h
      split at h
      · simp [runtimePanic] at h
      · simp [runtimePanic] at h
      · simp [runtimePanic] at h
      · rename_i name first captured heq
        split at h
        · simp [runtimePanic] at h
        · rename_i t v hf
          rw [Sem.run_bind] at h
          revert h
          cases (program).run P w with
          | halt x w1 => simp [Result.andThen]
          | ok p w1 =>
            simp only [Result.andThen_ok]
            rw [Sem.run_bind]
            cases (nilAhead (p.types.size + Made.depth) t v name).run P w1 with
            | halt x w2 => simp [Result.andThen]
            | ok q w2 =>
              simp only [Result.andThen_ok]
              split <;> simp
        · simp at h
      · simp at h
    · intro h
      simp only [execOp] at h
      split at h
      · simp [runtimePanic] at h
      · simp [runtimePanic] at h
      · simp [runtimePanic] at h
      · rename_i name first captured heq
        split at h
        · simp [runtimePanic] at h
        · rename_i t v hf
          rw [Sem.run_bind] at h
          revert h
          cases (program).run P w with
          | halt x w1 => simp [Result.andThen]
          | ok p w1 =>
            simp only [Result.andThen_ok]
            rw [Sem.run_bind]
            cases (nilAhead (p.types.size + Made.depth) t v name).run P w1 with
            | halt x w2 => simp [Result.andThen]
            | ok q w2 =>
              simp only [Result.andThen_ok]
              split <;> simp
        · simp at h
      · simp at h
  all_goals first | (simp at h; done) | (simp only [execOp]; first | exact run_value_bind | (constructor <;> (intro h; simp at h; done)))

/-- what is asked of a region's end alone -/
def normalOnly (Q : Exit → Act → World → Prop) : Exit → Act → World → Prop
  | .normal, a, w => Q .normal a w
  | _, _, _ => False

/-- the operations that follow each other: S is shown anew behind each whose mark is false -/
def wpListS (P : Program) (ops : Array Oper) (S : World → Prop) (Q : Exit → Act → World → Prop) : List (Oper × Bool) → Act → World → Prop
  | [], a, w => Q .normal a w
  | (o, fin) :: rest, a, w => if Region.wanted o (yielded ops a.tmps) then o.wp P a w (fun a' w' => (fin = false → S w') ∧ wpListS P ops S Q rest a' w') (normalOnly Q) else (fin = false → S w) ∧ wpListS P ops S Q rest (a.put o.dst undef) w

theorem Oper.wp_monoQ {o : Oper} {a : Act} {w : World} {K : Act → World → Prop} {Q Q' : Exit → Act → World → Prop} (hq : ∀ e a w, e ≠ .normal → Q e a w → Q' e a w) (h : o.wp P a w K Q) : o.wp P a w K Q' := by
  unfold Oper.wp at *
  revert h
  cases hr : (execOp a.eval o).run P w with
  | ok n w' =>
    cases n <;> simp only [Oper.upon] <;> intro h <;> try exact h
    refine Calls.mono h fun e w'' he => ?_
    cases e with
    | returned u => exact he
    | panicked c => exact hq _ _ _ (by simp) he
    | outgrown => obtain ⟨a0, w0, h0⟩ := he; exact ⟨a0, w0, hq _ _ _ (by simp) h0⟩
  | halt x w' =>
    cases x <;> simp only [Oper.upon] <;> intro h <;> first | exact hq _ _ _ (by simp) h | exact h

theorem wpListS_nil {a : Act} {w : World} (h : Q .normal a w) : wpListS P ops S Q [] a w := h
/-- one of them, by the walk's own form -/
theorem wpListS_step {o : Oper} {rest : List (Oper × Bool)} {a : Act} {w : World} (h : wpList P ops (fun e a' w' => e = .normal ∧ S w' ∧ wpListS P ops S Q rest a' w') [o] a w) : wpListS P ops S Q ((o, false) :: rest) a w := by
  unfold wpList at h
  unfold wpListS
  split
  · rename_i hwd
    rw [if_pos hwd] at h
    rcases h with h | ⟨_, a0, w0, h0, _⟩
    · refine Oper.wp_monoQ (Q := fun e a' w' => e = .normal ∧ S w' ∧ wpListS P ops S Q rest a' w') ?_ (Go.Oper.wp_mono (fun a' w' h' => ?_) h)
      · intro e a' w' hne h'
        exact absurd h'.1 hne
      · simp only [wpList] at h'
        exact ⟨fun _ => h'.2.1, h'.2.2⟩
    · cases h0
  · rename_i hwd
    rw [if_neg hwd] at h
    simp only [wpList] at h
    exact ⟨fun _ => h.2.1, h.2.2⟩
/-- one that comes behind all that only read -/
theorem wpListS_last {o : Oper} {rest : List (Oper × Bool)} {a : Act} {w : World} (h : wpList P ops (fun e a' w' => e = .normal ∧ wpListS P ops S Q rest a' w') [o] a w) : wpListS P ops S Q ((o, true) :: rest) a w := by
  unfold wpList at h
  unfold wpListS
  split
  · rename_i hwd
    rw [if_pos hwd] at h
    rcases h with h | ⟨_, a0, w0, h0, _⟩
    · refine Oper.wp_monoQ (Q := fun e a' w' => e = .normal ∧ wpListS P ops S Q rest a' w') ?_ (Go.Oper.wp_mono (fun a' w' h' => ?_) h)
      · intro e a' w' hne h'
        exact absurd h'.1 hne
      · simp only [wpList] at h'
        exact ⟨fun h => (by cases h), h'.2⟩
    · cases h0
  · rename_i hwd
    rw [if_neg hwd] at h
    simp only [wpList] at h
    exact ⟨fun h => (by cases h), h.2⟩

/-- operation k waits, by an edge of its own, for all of these -/
def waitsAll (ops : Array Oper) (pre : List Nat) (k : Nat) : Bool :=
  match ops[k]? with
  | some o => pre.all fun i => o.after.any fun e => Region.binds .any e && e.on == i
  | none => false

def mixTail (ops : Array Oper) (pre : List Nat) : List (Nat × Bool) → Array Bool → Bool
  | [], listed => (Region.ready .any ops listed).isEmpty
  | (k, fin) :: r, listed => (Region.ready .any ops listed == [k]) && (!fin || waitsAll ops pre k) && mixTail ops pre r (listed.setIfInBounds k true)
def mixGo (ops : Array Oper) (pre : List Nat) (tail : List (Nat × Bool)) : List Nat → Array Bool → Bool
  | [], listed => mixTail ops pre tail listed
  | k :: r, listed => (Region.ready .any ops listed).contains k && Region.free .any ops listed k && plainOp ops k && pre.contains k && mixGo ops pre tail r (listed.setIfInBounds k true)
def mixB (ops : Array Oper) (pre : List Nat) (tail : List (Nat × Bool)) : Bool :=
  Region.noSelect ops && decide (pre.length + tail.length = ops.size) && mixGo ops pre tail pre (Array.replicate ops.size false) && tail.all fun t => !t.2 || waitsAll ops pre t.1

def consOp : Option Oper → List Oper → List Oper
  | some o, l => o :: l
  | none, l => l
def consOpT : Option Oper → Bool → List (Oper × Bool) → List (Oper × Bool)
  | some o, f, l => (o, f) :: l
  | none, _, l => l
def opsOf (ops : Array Oper) : List Nat → List Oper
  | [] => []
  | k :: r => consOp ops[k]? (opsOf ops r)
def opsOfT (ops : Array Oper) : List (Nat × Bool) → List (Oper × Bool)
  | [] => []
  | (k, f) :: r => consOpT ops[k]? f (opsOfT ops r)

/-- whatever order is picked from here on, S holding behind every operation but those marked by 'fin' -/
def wpAnyK (P : Program) (ops : Array Oper) (Q : Exit → Act → World → Prop) (S : World → Prop) (fin : Nat → Bool) : Nat → Array Bool → Act → World → Prop
  | 0, listed, a, w => Region.ready .any ops listed = [] ∧ Q .normal a w
  | fuel + 1, listed, a, w => (Region.ready .any ops listed = [] → Q .normal a w) ∧
    ∀ i ∈ Region.ready .any ops listed, wpOp P ops Q i (fun a' w' => (fin i = false → S w') ∧ wpAnyK P ops Q S fin fuel (listed.setIfInBounds i true) a' w') a w

theorem wpAny_of_K {fin : Nat → Bool} : ∀ (fuel : Nat) (listed : Array Bool) (a : Act) (w : World), wpAnyK P ops Q S fin fuel listed a w → wpAny P .any ops Q fuel listed a w
  | 0, _, _, _, h => h
  | fuel + 1, _, _, _, h => ⟨h.1, fun i hi => wpOp_mono (fun a' w' h' => wpAny_of_K fuel _ a' w' h'.2) (h.2 i hi)⟩

/-- an operation that yields its value in every world that meets S may be taken first -/
theorem wpAnyK_first {fin : Nat → Bool} {i : Nat} {oi : Oper} {v : Value} (hi : ops[i]? = some oi) (hsel : Region.noSelect ops = true)
    (hQ : ∀ c a w, Q (.panic c) (a.put oi.dst v) w → Q (.panic c) a w)
    (hfin : ∀ j oj, fin j = true → ops[j]? = some oj → ∃ e ∈ oj.after, Region.binds .any e = true ∧ e.on = i) (hfi : fin i = false) :
    ∀ (fuel : Nat) (listed : Array Bool) (a : Act) (w : World), Region.free .any ops listed i = true →
      i ∈ Region.ready .any ops listed → YieldsIf P ops S oi v a → S w →
      wpAnyK P ops Q S fin fuel (listed.setIfInBounds i true) (a.put oi.dst v) w → wpAnyK P ops Q S fin (fuel + 1) listed a w := by
  have core : ∀ (fuel : Nat) (listed : Array Bool) (a : Act) (w : World),
      (∀ j oj, ops[j]? = some oj → j ≠ i → listed.getD j true = false → (∀ e ∈ oj.after, Region.binds .any e = true → e.on ≠ i) → oi.apart ops oj = true) →
      i ∈ Region.ready .any ops listed → YieldsIf P ops S oi v a → S w →
      wpAnyK P ops Q S fin fuel (listed.setIfInBounds i true) (a.put oi.dst v) w → wpAnyK P ops Q S fin (fuel + 1) listed a w := by
    intro fuel
    induction fuel with
    | zero =>
      intro listed a w _ hr hy hS H
      refine ⟨fun h => (by rw [h] at hr; cases hr), fun j hj => ?_⟩
      by_cases hji : j = i
      · subst hji
        exact hy.wpOp hi hS ⟨fun _ => hS, H⟩
      · have hm := ready_mono hj hji
        rw [H.1] at hm
        cases hm
    | succ fuel ih =>
      intro listed a w hfree hr hy hS H
      refine ⟨fun h => (by rw [h] at hr; cases hr), fun j hj => ?_⟩
      by_cases hji : j = i
      · subst hji
        exact hy.wpOp hi hS ⟨fun _ => hS, H⟩
      · obtain ⟨hjun, oj, hoj, hall⟩ := mem_ready.1 hj
        have hun : listed.getD i true = false := (mem_ready.1 hr).1
        have hun' : listed.getD i false = false := by
          rcases Nat.lt_or_ge i listed.size with h' | h'
          · simp [h'] at hun ⊢; exact hun
          · simp [Array.getElem?_eq_none h']
        have hnot : ∀ e ∈ oj.after, Region.binds .any e = true → e.on ≠ i := by
          intro e he hb heq
          have h1 := hall e he hb
          rw [heq, hun'] at h1
          cases h1
        have hfj : fin j = false := by
          cases hf : fin j with
          | false => rfl
          | true =>
            obtain ⟨e, he, hb, hon⟩ := hfin j oj hf hoj
            exact absurd hon (hnot e he hb)
        have h2 := wpOp_putIf hoj (hfree j oj hoj hji hjun hnot) (fun cs b => Region.noSelect_spec hsel i oi cs b hi) (fun cs b => Region.noSelect_spec hsel j oj cs b hoj) hQ hy (H.2 j (ready_mono hj hji))
        have hfree' : ∀ k ok, ops[k]? = some ok → k ≠ i → (listed.setIfInBounds j true).getD k true = false →
            (∀ e ∈ ok.after, Region.binds .any e = true → e.on ≠ i) → oi.apart ops ok = true := fun k ok hk hki hku hno => by
          refine hfree k ok hk hki ?_ hno
          by_cases hjk : j = k
          · subst hjk; exact hjun
          · rw [getD_set_ne true hjk] at hku; exact hku
        refine wpOp_mono (fun a' w' h3 => ⟨h3.2.1, ih (listed.setIfInBounds j true) a' w' hfree' (ready_mono hr (Ne.symm hji)) h3.1 (h3.2.1 hfj) ?_⟩) h2
        rw [Array.setIfInBounds_comm _ _ hji]
        exact h3.2.2
  intro fuel listed a w hf hr hy hS H
  exact core fuel listed a w (Region.free_spec hi hf) hr hy hS H

theorem mix_tail {pre : List Nat} {fin : Nat → Bool} : ∀ (r : List (Nat × Bool)) (listed : Array Bool) (a : Act) (w : World), (∀ t ∈ r, t.2 = true → fin t.1 = true) → mixTail ops pre r listed = true → wpListS P ops S Q (opsOfT ops r) a w → wpAnyK P ops (normalOnly Q) S fin r.length listed a w
  | [], listed, a, w, _, hB, h => ⟨by simpa [mixTail] using hB, h⟩
  | (k, f) :: r, listed, a, w, hf, hB, h => by
    simp only [mixTail, Bool.and_eq_true, beq_iff_eq] at hB
    obtain ⟨⟨hr, _⟩, hB'⟩ := hB
    have hk : k ∈ Region.ready .any ops listed := by rw [hr]; exact List.mem_singleton_self k
    obtain ⟨_, o, ho, _⟩ := mem_ready.1 hk
    refine ⟨fun h0 => (by rw [h0] at hr; cases hr), fun i hi => ?_⟩
    rw [hr] at hi
    obtain rfl := List.mem_singleton.1 hi
    have e : opsOfT ops ((i, f) :: r) = (o, f) :: opsOfT ops r := by simp [opsOfT, consOpT, ho]
    rw [e] at h
    have hf' : fin i = false → f = false := fun hfi => by
      cases f with
      | false => rfl
      | true => have := hf (i, true) (by simp) rfl; simp only at this; rw [hfi] at this; cases this
    have hrest : ∀ t ∈ r, t.2 = true → fin t.1 = true := fun t ht => hf t (List.mem_cons_of_mem _ ht)
    unfold wpListS at h
    unfold wpOp
    simp only [ho]
    split
    · rename_i hw
      rw [if_pos hw] at h
      exact .inl (Go.Oper.wp_mono (fun a' w' ⟨h1, h2⟩ => ⟨fun hfi => h1 (hf' hfi), mix_tail r _ a' w' hrest hB' h2⟩) h)
    · rename_i hw
      rw [if_neg hw] at h
      exact ⟨fun hfi => h.1 (hf' hfi), mix_tail r _ _ w hrest hB' h.2⟩

theorem mix_head {pre : List Nat} {tail : List (Nat × Bool)} (hsel : Region.noSelect ops = true) {fin : Nat → Bool} (hft : ∀ t ∈ tail, t.2 = true → fin t.1 = true)
    (hfin : ∀ i ∈ pre, ∀ j oj, fin j = true → ops[j]? = some oj → ∃ e ∈ oj.after, Region.binds .any e = true ∧ e.on = i) (hpre : ∀ i ∈ pre, fin i = false) :
    ∀ (r : List Nat) (listed : Array Bool) (a : Act) (w : World), mixGo ops pre tail r listed = true → S w →
    wpQuiet P ops S (fun a' => wpListS P ops S Q (opsOfT ops tail) a' w) (opsOf ops r) a → wpAnyK P ops (normalOnly Q) S fin (r.length + tail.length) listed a w
  | [], listed, a, w, hB, hS, h => by
    simp only [List.length_nil, Nat.zero_add]
    exact mix_tail tail listed a w hft (by simpa [mixGo] using hB) (by simpa [opsOf, wpQuiet] using h)
  | k :: r, listed, a, w, hB, hS, h => by
    simp only [mixGo, Bool.and_eq_true] at hB
    obtain ⟨⟨⟨⟨hr, hf⟩, hp⟩, hkp⟩, hB'⟩ := hB
    have hk : k ∈ Region.ready .any ops listed := by simpa using hr
    have hkpre : k ∈ pre := by simpa using hkp
    obtain ⟨_, o, ho, _⟩ := mem_ready.1 hk
    have e : opsOf ops (k :: r) = o :: opsOf ops r := by simp [opsOf, consOp, ho]
    rw [e] at h
    rw [show (k :: r).length + tail.length = (r.length + tail.length) + 1 by simp; omega]
    obtain ⟨v, hy, hrest⟩ : ∃ v, YieldsIf P ops S o v a ∧ wpQuiet P ops S (fun a' => wpListS P ops S Q (opsOfT ops tail) a' w) (opsOf ops r) (a.put o.dst v) := by
      unfold wpQuiet at h
      by_cases hw : Region.wanted o (yielded ops a.tmps) = true
      · rw [if_pos hw] at h
        obtain ⟨v, h1, h2⟩ := h
        refine ⟨v, .inl ⟨hw, fun W hW => ?_⟩, h2⟩
        have h3 := h1 W hW
        unfold Oper.quietAt at h3
        cases hrun : (execOp a.eval o).run P W with
        | ok x W' =>
          rw [hrun] at h3
          cases x <;> simp only [Oper.quietUpon] at h3
          case value u => rw [h3.1, h3.2]
          case skip => exact absurd hrun (plain_not_enter ho hp a.eval W 0 #[] W').2
          case enter f args => exact absurd hrun (plain_not_enter ho hp a.eval W f args W').1
        | halt x W' => rw [hrun] at h3; simp only [Oper.quietUpon] at h3
      · rw [if_neg hw] at h
        exact ⟨undef, .inr ⟨by simpa using hw, rfl⟩, h⟩
    exact wpAnyK_first ho hsel (fun _ _ _ h => h) (hfin k hkpre) (hpre k hkpre) _ _ a w hf hk hy hS (mix_head hsel hft hfin hpre r _ _ w hB' hS hrest)

/-- the marks, as a function of the number -/
def finOf (ops : Array Oper) (pre : List Nat) (k : Nat) : Bool := waitsAll ops pre k && !pre.contains k

/-- THE THEOREM. The operations 'pre' only read: each yields one value in every world that meets S; the operations 'tail' can come in this order alone; S holds behind each of them, but behind those that wait for all of 'pre' (mark true). -/
theorem wp_region_mix {id : Nat} {l : List Oper} {a : Act} {w : World} (pre : List Nat) (tail : List (Nat × Bool)) (S : World → Prop) (l1 : List Oper) (l2 : List (Oper × Bool)) (hm : P.follows .mixedOrders = true)
    (hB : mixB l.toArray pre tail = true) (hd : (tail.all fun t => !pre.contains t.1) = true)
    (h1 : opsOf l.toArray pre = l1) (h2 : opsOfT l.toArray tail = l2) (hS : S w.drew)
    (h : ∀ (ι : Type) [Inhabited ι] (f : ι → World), (∀ p, S (f p)) → wpQuiet P l.toArray (fun W => ∃ p, W = f p) (fun a' => wpListS P l.toArray S Q l2 a' w.drew) l1 a) : (Code.region id l.toArray true).wp P Q a w := by
  simp only [mixB, Bool.and_eq_true, decide_eq_true_eq] at hB
  obtain ⟨⟨⟨hsel, hlen⟩, hB⟩, hw⟩ := hB
  have hC : (fun W => ∃ p : {W : World // S W}, W = p.1) = S := by
    funext W
    exact propext ⟨fun ⟨p, hp⟩ => hp ▸ p.2, fun hW => ⟨⟨W, hW⟩, rfl⟩⟩
  have h' := @h {W : World // S W} ⟨⟨_, hS⟩⟩ (fun p => p.1) (fun p => p.2)
  rw [hC, ← h1, ← h2] at h'
  have hft : ∀ t ∈ tail, t.2 = true → finOf l.toArray pre t.1 = true := by
    intro t ht h2
    have e1 := List.all_eq_true.1 hw t ht
    have e2 := List.all_eq_true.1 hd t ht
    rw [h2] at e1
    unfold finOf
    rw [Bool.and_eq_true]
    exact ⟨by simpa using e1, e2⟩
  have hfin : ∀ i ∈ pre, ∀ j oj, finOf l.toArray pre j = true → l.toArray[j]? = some oj → ∃ e ∈ oj.after, Region.binds .any e = true ∧ e.on = i := by
    intro i hi j oj hf hoj
    unfold finOf waitsAll at hf
    rw [hoj] at hf
    simp only [Bool.and_eq_true] at hf
    have := List.all_eq_true.1 hf.1 i hi
    obtain ⟨e, he, hb⟩ := Array.any_eq_true'.1 this
    simp only [Bool.and_eq_true, beq_iff_eq] at hb
    exact ⟨e, he, hb.1, hb.2⟩
  have hpre : ∀ i ∈ pre, finOf l.toArray pre i = false := by
    intro i hi
    unfold finOf
    have : pre.contains i = true := by simpa using hi
    rw [this]
    simp
  have key := wpAny_of_K _ _ _ _ (mix_head (Q := Q) hsel hft hfin hpre pre _ a w.drew hB hS h')
  have hq : (Code.region id l.toArray true).wp P (normalOnly Q) a w := by
    refine wp_region_any hm ?_
    rw [hlen] at key
    exact key
  exact Go.wp_mono hq fun e a w hq => by cases e <;> first | exact hq | exact hq.elim
end
end Go.Proofs.YtcoelhpmkhimpaaGreatDoor
