/- A region that draws its order and holds calls that only add blocks: such a call may be taken first, if one says of the world behind it no more than what added blocks leave as it is. -/
import Derived.Test.YtcoelhpmkhimpaaGreatDoorInv
import Derived.Test.YtcoelhpmkhimpaaGreatDoorBase
namespace Go.Proofs.YtcoelhpmkhimpaaGreatDoor
open Go.RowKit
set_option linter.unusedVariables false
set_option linter.unusedSimpArgs false

section
variable {P : Program} {ops : Array Oper} {Q : Exit → Act → World → Prop}

/-- what added blocks leave as it is -/
def EC (S : World → Prop) : Prop := ∀ W W', S W → Ext W W' → S W'
theorem EC.ext (w : World) : EC (Ext w) := fun _ _ h k => h.trans k
theorem EC.and {S T : World → Prop} (h : EC S) (k : EC T) : EC (fun W => S W ∧ T W) := fun _ _ h1 h2 => ⟨h _ _ h1.1 h2, k _ _ h1.2 h2⟩
theorem EC.heap (b : Nat) (o : Obj) : EC (fun W => W.heap[b]? = some o) := fun _ _ h k => k.heap h
/-- o yields v in every world of S, and adds blocks at the most -/
def YieldsC (P : Program) (ops : Array Oper) (S : World → Prop) (o : Oper) (v : Value) (a : Act) : Prop :=
  (Region.wanted o (yielded ops a.tmps) = true ∧ ∀ w, S w → (execOp a.eval o).run P w = .ok (.value v) w ∨ ∃ f args, (execOp a.eval o).run P w = .ok (.enter f args) w ∧ Calls P f args w fun e w' => e = .returned v ∧ Ext w w') ∨
  (Region.wanted o (yielded ops a.tmps) = false ∧ v = undef)
theorem YieldsC.sub {S S' : World → Prop} {o : Oper} {v : Value} {a : Act} (h : YieldsC P ops S o v a) (hs : ∀ w, S' w → S w) : YieldsC P ops S' o v a :=
  h.imp (fun ⟨h1, h2⟩ => ⟨h1, fun w hw => h2 w (hs w hw)⟩) id
theorem YieldsC.same {S : World → Prop} {o : Oper} {v : Value} {a a' : Act} (he : execOp a'.eval o = execOp a.eval o) (hw : Region.wanted o (yielded ops a'.tmps) = Region.wanted o (yielded ops a.tmps)) (h : YieldsC P ops S o v a) : YieldsC P ops S o v a' := by
  unfold YieldsC at *
  rw [he, hw]
  exact h
theorem YieldsC.op {S : World → Prop} {i : Nat} {o : Oper} {v : Value} {a : Act} (hi : ops[i]? = some o) (hy : YieldsC P ops S o v a) {K : Act → World → Prop} {w : World} (hS : S w) (h : ∀ w', Ext w w' → K (a.put o.dst v) w') : wpOp P ops Q i K a w := by
  unfold wpOp
  simp only [hi]
  rcases hy with ⟨hw, hv⟩ | ⟨hw, rfl⟩
  · rw [if_pos hw]
    refine .inl ?_
    unfold Oper.wp
    rcases hv w hS with hr | ⟨f, args, hr, hc⟩
    · rw [hr]
      exact h w (Ext.refl w)
    · rw [hr]
      refine Calls.mono hc ?_
      rintro e w' ⟨rfl, hx⟩
      exact h w' hx
  · rw [hw]
    exact h w (Ext.refl w)
/-- two operations apart: the one's value makes no difference to the other -/
theorem swap_op {j : Nat} {oi oj : Oper} {v : Value} (Y : Act → Prop) (hY : ∀ a a' : Act, execOp a'.eval oi = execOp a.eval oi → Region.wanted oi (yielded ops a'.tmps) = Region.wanted oi (yielded ops a.tmps) → Y a → Y a') (hj : ops[j]? = some oj) (hap : oi.apart ops oj = true)
    (hsi : ∀ cs b, oi.op ≠ .select cs b) (hsj : ∀ cs b, oj.op ≠ .select cs b) (hQ : ∀ c a w, Q (.panic c) (a.put oi.dst v) w → Q (.panic c) a w) {K : Act → World → Prop} {a : Act} {w : World}
    (hy : Y a) (h : wpOp P ops Q j K (a.put oi.dst v) w) : wpOp P ops Q j (fun a' w' => Y a' ∧ K (a'.put oi.dst v) w') a w := by
  obtain ⟨d1, d2, d3⟩ := Oper.apart_spec hap
  have put : ∀ b : Act, Y b → ∀ u, Y (b.put oj.dst u) := fun b hb u => hY b _ (execOp_put oi hsi b oj.dst u d3) (wanted_put oi b oj.dst u d3) hb
  have com : ∀ (b : Act) u, (b.put oj.dst u).put oi.dst v = (b.put oi.dst v).put oj.dst u := fun b u => (Act.put_comm b v u d2).symm
  have ex := execOp_put oj hsj a oi.dst v d1
  unfold wpOp at h ⊢
  simp only [hj] at h ⊢
  rw [wanted_put oj a oi.dst v d1] at h
  by_cases hw : Region.wanted oj (yielded ops a.tmps) = true
  · rw [if_pos hw] at h ⊢
    refine h.imp (fun h => ?_) (fun ⟨h1, h2⟩ => ⟨?_, h2⟩)
    · unfold Oper.wp at h ⊢
      rw [ex] at h
      cases hr : (execOp a.eval oj).run P w with
      | ok n w' =>
        rw [hr] at h
        cases n with
        | value u => exact ⟨put a hy u, by rw [com]; exact h⟩
        | skip => exact ⟨put a hy undef, by rw [com]; exact h⟩
        | defer d =>
          refine ⟨put { a with defers := d :: a.defers } (hY a { a with defers := d :: a.defers } rfl rfl hy) undef, ?_⟩
          rw [com, ← Act.put_defers]
          exact h
        | enter f args =>
          simp only [Oper.upon] at h ⊢
          refine Calls.mono h fun e w'' he => ?_
          cases e with
          | returned u => exact ⟨put a hy u, by rw [com]; exact he⟩
          | panicked c => exact hQ _ _ _ he
          | outgrown => exact he
        | row row args =>
          simp only [Oper.upon] at h ⊢
          exact Rows.mono h fun u w'' he => ⟨put a hy u, by rw [com]; exact he⟩
        | _ => simp only [Oper.upon] at h
      | halt x w' =>
        rw [hr] at h
        cases x with
        | panic u => exact hQ _ _ _ h
        | _ => simp only [Oper.upon] at h
    · unfold Oper.asks at h1 ⊢
      rw [ex] at h1
      exact h1
  · rw [if_neg hw] at h ⊢
    exact ⟨put a hy undef, by rw [com]; exact h⟩

/-- from here on, in any order, in any world of S; the last m, 'fins', come behind all others -/
def wpAnyC (P : Program) (ops : Array Oper) (Q : Exit → Act → World → Prop) (fins : List Nat) (m : Nat) : Nat → Array Bool → Act → (World → Prop) → Prop
  | 0, listed, a, S => (∀ j, j < ops.size → listed.getD j false = true ∨ fins.contains j = true) ∧ ∀ w, S w → wpAny P .any ops Q m listed a w
  | n + 1, listed, a, S => ∀ w, S w → Region.ready .any ops listed ≠ [] ∧ ∀ i ∈ Region.ready .any ops listed, if fins.contains i = true then wpOp P ops Q i (wpAny P .any ops Q (m + n) (listed.setIfInBounds i true)) a w else wpOp P ops Q i (fun a' w' => ∃ S', EC S' ∧ (∀ W, S' W → S W) ∧ S' w' ∧ wpAnyC P ops Q fins m n (listed.setIfInBounds i true) a' S') a w
theorem wpAny_of_C {fins : List Nat} {m : Nat} : ∀ (n : Nat) (listed : Array Bool) (a : Act) (S : World → Prop) (w : World), S w → wpAnyC P ops Q fins m n listed a S → wpAny P .any ops Q (m + n) listed a w
  | 0, _, _, _, w, hS, h => h.2 w hS
  | n + 1, listed, a, S, w, hS, h => by
    obtain ⟨h0, h1⟩ := h w hS
    refine ⟨fun e => absurd e h0, fun i hi => ?_⟩
    have h2 := h1 i hi
    split at h2
    · exact h2
    · exact wpOp_mono (fun a' w' ⟨S', _, _, hS', h'⟩ => wpAny_of_C n _ a' S' w' hS' h') h2

theorem anyC_first {fins : List Nat} {m i : Nat} {oi : Oper} {v : Value} (hi : ops[i]? = some oi) (hsel : Region.noSelect ops = true)
    (hQ : ∀ c a w, Q (.panic c) (a.put oi.dst v) w → Q (.panic c) a w) (hfin : ∀ j, fins.contains j = true → reachB ops ops.size i j = true) (hfi : fins.contains i = false) :
    ∀ (n : Nat) (listed : Array Bool) (a : Act) (S : World → Prop), EC S → Closed ops listed →
      (∀ j oj, ops[j]? = some oj → j ≠ i → listed.getD j true = false → (∀ e ∈ oj.after, Region.binds .any e = true → e.on ≠ i) → oi.apart ops oj = true) →
      i ∈ Region.ready .any ops listed → YieldsC P ops S oi v a → wpAnyC P ops Q fins m n (listed.setIfInBounds i true) (a.put oi.dst v) S → wpAnyC P ops Q fins m (n + 1) listed a S := by
  intro n
  induction n with
  | zero =>
    intro listed a S hE hcl hfree hr hy H w hS
    refine ⟨fun h => (by rw [h] at hr; cases hr), fun j hj => ?_⟩
    by_cases hji : j = i
    · subst hji
      rw [if_neg (by rw [hfi]; simp)]
      exact hy.op hi hS fun w' hx => ⟨S, hE, fun _ h => h, hE _ _ hS hx, H⟩
    · exfalso
      obtain ⟨hjun, oj, hoj, hall⟩ := mem_ready.1 hj
      have hjs : j < ops.size := (Array.getElem?_eq_some_iff.1 hoj).1
      have hun : listed.getD i true = false := (mem_ready.1 hr).1
      have hjl : (listed.setIfInBounds i true).getD j false = false := by
        rw [getD_set_ne false (Ne.symm hji)]
        rcases Nat.lt_or_ge j listed.size with h' | h'
        · simp [h'] at hjun ⊢; exact hjun
        · simp [Array.getElem?_eq_none h']
      rcases H.1 j hjs with h' | h'
      · rw [hjl] at h'; cases h'
      · have := reach_listed hcl ops.size j oj hoj hall (hfin j h')
        rcases Nat.lt_or_ge i listed.size with h2 | h2
        · simp [h2] at hun this; rw [hun] at this; cases this
        · simp [Array.getElem?_eq_none h2] at this
  | succ n ih =>
    intro listed a S hE hcl hfree hr hy H w hS
    refine ⟨fun h => (by rw [h] at hr; cases hr), fun j hj => ?_⟩
    by_cases hji : j = i
    · subst hji
      rw [if_neg (by rw [hfi]; simp)]
      exact hy.op hi hS fun w' hx => ⟨S, hE, fun _ h => h, hE _ _ hS hx, H⟩
    · have h1 := (H w hS).2 j (ready_mono hj hji)
      obtain ⟨hjun, oj, hoj, hall⟩ := mem_ready.1 hj
      have hun : listed.getD i true = false := (mem_ready.1 hr).1
      have hfj : ¬ fins.contains j = true := fun h' => by
        have := reach_listed hcl ops.size j oj hoj hall (hfin j h')
        rcases Nat.lt_or_ge i listed.size with h2 | h2
        · simp [h2] at hun this; rw [hun] at this; cases this
        · simp [Array.getElem?_eq_none h2] at this
      rw [if_neg hfj] at h1 ⊢
      have hnot : ∀ e ∈ oj.after, Region.binds .any e = true → e.on ≠ i := by
        intro e he hb heq
        have h1 := hall e he hb
        rw [heq] at h1
        rcases Nat.lt_or_ge i listed.size with h2 | h2
        · simp [h2] at hun h1; rw [hun] at h1; cases h1
        · simp [Array.getElem?_eq_none h2] at h1
      have h2 := swap_op (fun b => YieldsC P ops S oi v b) (fun b b' e1 e2 hb => hb.same e1 e2) hoj (hfree j oj hoj hji hjun hnot) (fun cs b => Region.noSelect_spec hsel i oi cs b hi) (fun cs b => Region.noSelect_spec hsel j oj cs b hoj) hQ hy h1
      have hfree' : ∀ k ok, ops[k]? = some ok → k ≠ i → (listed.setIfInBounds j true).getD k true = false →
          (∀ e ∈ ok.after, Region.binds .any e = true → e.on ≠ i) → oi.apart ops ok = true := fun k ok hk hki hku hno => by
        refine hfree k ok hk hki ?_ hno
        by_cases hjk : j = k
        · subst hjk; exact hjun
        · rw [getD_set_ne true hjk] at hku; exact hku
      refine wpOp_mono (fun a' w' h3 => ?_) h2
      obtain ⟨hy', S', e1, e2, e3, e4⟩ := h3
      refine ⟨S', e1, e2, e3, ih (listed.setIfInBounds j true) a' S' e1 (hcl.set hj) hfree' (ready_mono hr (Ne.symm hji)) (hy'.sub e2) ?_⟩
      rw [Array.setIfInBounds_comm _ _ hji]
      exact e4

/-- one that yields in whatever world -/
theorem anyC_free {fins : List Nat} {m i : Nat} {oi : Oper} {v : Value} (hi : ops[i]? = some oi) (hsel : Region.noSelect ops = true)
    (hQ : ∀ c a w, Q (.panic c) (a.put oi.dst v) w → Q (.panic c) a w) (hfi : fins.contains i = false) :
    ∀ (n : Nat) (listed : Array Bool) (a : Act) (S : World → Prop), EC S →
      (∀ j oj, ops[j]? = some oj → j ≠ i → listed.getD j true = false → (∀ e ∈ oj.after, Region.binds .any e = true → e.on ≠ i) → oi.apart ops oj = true) →
      i ∈ Region.ready .any ops listed → Yields P ops oi v a → wpAnyC P ops Q fins m n (listed.setIfInBounds i true) (a.put oi.dst v) S → wpAnyC P ops Q fins m (n + 1) listed a S := by
  intro n
  have prep : ∀ (listed : Array Bool) (j : Nat), (∀ j oj, ops[j]? = some oj → j ≠ i → listed.getD j true = false → (∀ e ∈ oj.after, Region.binds .any e = true → e.on ≠ i) → oi.apart ops oj = true) → i ∈ Region.ready .any ops listed → j ∈ Region.ready .any ops listed → j ≠ i →
      ∃ oj, ops[j]? = some oj ∧ oi.apart ops oj = true ∧ ∀ k ok, ops[k]? = some ok → k ≠ i → (listed.setIfInBounds j true).getD k true = false → (∀ e ∈ ok.after, Region.binds .any e = true → e.on ≠ i) → oi.apart ops ok = true := by
    intro listed j hfree hr hj hji
    obtain ⟨hjun, oj, hoj, hall⟩ := mem_ready.1 hj
    have hun : listed.getD i true = false := (mem_ready.1 hr).1
    refine ⟨oj, hoj, hfree j oj hoj hji hjun ?_, fun k ok hk hki hku hno => ?_⟩
    · intro e he hb heq
      have h1 := hall e he hb
      rw [heq] at h1
      rcases Nat.lt_or_ge i listed.size with h2 | h2
      · simp [h2] at hun h1; rw [hun] at h1; cases h1
      · simp [Array.getElem?_eq_none h2] at h1
    · refine hfree k ok hk hki ?_ hno
      by_cases hjk : j = k
      · subst hjk; exact hjun
      · rw [getD_set_ne true hjk] at hku; exact hku
  have keepY : ∀ b b' : Act, execOp b'.eval oi = execOp b.eval oi → Region.wanted oi (yielded ops b'.tmps) = Region.wanted oi (yielded ops b.tmps) → Yields P ops oi v b → Yields P ops oi v b' := fun b b' e1 e2 h => by
    unfold Yields at *
    rw [e1, e2]
    exact h
  induction n with
  | zero =>
    intro listed a S hE hfree hr hy H w hS
    refine ⟨fun h => (by rw [h] at hr; cases hr), fun j hj => ?_⟩
    by_cases hji : j = i
    · subst hji
      rw [if_neg (by rw [hfi]; simp)]
      exact hy.wpOp hi ⟨S, hE, fun _ h => h, hS, H⟩
    · obtain ⟨oj, hoj, hap, hfree'⟩ := prep listed j hfree hr hj hji
      have hjl := ready_mono hj hji
      have hjf : fins.contains j = true := by
        have hjs : j < ops.size := (Array.getElem?_eq_some_iff.1 hoj).1
        have hjun := (mem_ready.1 hjl).1
        rcases H.1 j hjs with h' | h'
        · rcases Nat.lt_or_ge j (listed.setIfInBounds i true).size with h2 | h2
          · rw [Array.getD_eq_getD_getElem?, Array.getElem?_eq_getElem h2] at hjun h'
            simp only [Option.getD_some] at hjun h'
            rw [hjun] at h'
            cases h'
          · rw [Array.getD_eq_getD_getElem?, Array.getElem?_eq_none h2] at h'
            cases h'
        · exact h'
      rw [if_pos hjf]
      have hm := H.2 w hS
      cases m with
      | zero =>
        have := hm.1
        rw [this] at hjl
        cases hjl
      | succ m =>
        have h2 := swap_op (fun b => Yields P ops oi v b) keepY hoj hap (fun cs b => Region.noSelect_spec hsel i oi cs b hi) (fun cs b => Region.noSelect_spec hsel j oj cs b hoj) hQ hy (hm.2 j hjl)
        refine wpOp_mono (fun a' w' ⟨hy', h3⟩ => ?_) h2
        refine wpAny_first hi (fun j o cs b => Region.noSelect_spec hsel j o cs b) hQ m _ a' w' hfree' (ready_mono hr (Ne.symm hji)) hy' ?_
        rw [Array.setIfInBounds_comm _ _ hji]
        exact h3
  | succ n ih =>
    intro listed a S hE hfree hr hy H w hS
    refine ⟨fun h => (by rw [h] at hr; cases hr), fun j hj => ?_⟩
    by_cases hji : j = i
    · subst hji
      rw [if_neg (by rw [hfi]; simp)]
      exact hy.wpOp hi ⟨S, hE, fun _ h => h, hS, H⟩
    · obtain ⟨oj, hoj, hap, hfree'⟩ := prep listed j hfree hr hj hji
      have hjl := ready_mono hj hji
      have h1 := (H w hS).2 j hjl
      by_cases hjf : fins.contains j = true
      · rw [if_pos hjf] at h1 ⊢
        have h2 := swap_op (fun b => Yields P ops oi v b) keepY hoj hap (fun cs b => Region.noSelect_spec hsel i oi cs b hi) (fun cs b => Region.noSelect_spec hsel j oj cs b hoj) hQ hy h1
        refine wpOp_mono (fun a' w' ⟨hy', h3⟩ => ?_) h2
        refine wpAny_first hi (fun j o cs b => Region.noSelect_spec hsel j o cs b) hQ (m + n) _ a' w' hfree' (ready_mono hr (Ne.symm hji)) hy' ?_
        rw [Array.setIfInBounds_comm _ _ hji]
        exact h3
      · rw [if_neg hjf] at h1 ⊢
        have h2 := swap_op (fun b => Yields P ops oi v b) keepY hoj hap (fun cs b => Region.noSelect_spec hsel i oi cs b hi) (fun cs b => Region.noSelect_spec hsel j oj cs b hoj) hQ hy h1
        refine wpOp_mono (fun a' w' h3 => ?_) h2
        obtain ⟨hy', S', e1, e2, e3, e4⟩ := h3
        refine ⟨S', e1, e2, e3, ih (listed.setIfInBounds j true) a' S' e1 hfree' (ready_mono hr (Ne.symm hji)) hy' ?_⟩
        rw [Array.setIfInBounds_comm _ _ hji]
        exact e4

/-- the plan -/
inductive CT where
  | fin (t : TT)
  | take (l : List Nat) (r : CT)
  | free (l : List Nat) (r : CT)
  | call (k : Nat) (r : CT)
  | one (k : Nat) (r : CT)
  | two (k : Nat) (r : CT) (k' : Nat) (r' : CT)
def CT.len : CT → Nat
  | .fin _ => 0
  | .take l r => l.length + r.len
  | .free l r => l.length + r.len
  | .call _ r => r.len + 1
  | .one _ r => r.len + 1
  | .two _ r _ _ => r.len + 1
inductive OC where
  | fin (t : OT)
  | take (l : List Oper) (r : OC)
  | free (l : List Oper) (r : OC)
  | call (o : Oper) (r : OC)
  | one (o : Oper) (r : OC)
  | two (o : Oper) (r : OC) (o' : Oper) (r' : OC)
def callOC : Option Oper → OC → OC
  | some o, r => .call o r
  | none, r => r
def oneOC : Option Oper → OC → OC
  | some o, r => .one o r
  | none, r => r
def twoOC : Option Oper → OC → Option Oper → OC → OC
  | some o, r, some o', r' => .two o r o' r'
  | _, r, _, _ => r
def planOf (ops : Array Oper) : CT → OC
  | .fin t => .fin (treeOf ops t)
  | .take l r => .take (opsOf ops l) (planOf ops r)
  | .free l r => .free (opsOf ops l) (planOf ops r)
  | .call k r => callOC ops[k]? (planOf ops r)
  | .one k r => oneOC ops[k]? (planOf ops r)
  | .two k r k' r' => twoOC ops[k]? (planOf ops r) ops[k']? (planOf ops r')
def freesB (ops : Array Oper) (fins : List Nat) : List Nat → Array Bool → Bool
  | [], _ => true
  | k :: r, listed => (Region.ready .any ops listed).contains k && Region.free .any ops listed k && plainOp ops k && !fins.contains k && freesB ops fins r (listed.setIfInBounds k true)
def planB (ops : Array Oper) (fins : List Nat) : CT → Array Bool → Bool
  | .fin t, listed => ((List.range ops.size).all fun j => listed.getD j false || fins.contains j) && treeB ops t listed && decide (t.len = fins.length)
  | .take l r, listed => invTakesB ops fins l listed && planB ops fins r (marked l listed)
  | .free l r, listed => freesB ops fins l listed && planB ops fins r (marked l listed)
  | .call k r, listed => (Region.ready .any ops listed).contains k && Region.free .any ops listed k && !fins.contains k && (fins.all fun j => reachB ops ops.size k j) && planB ops fins r (listed.setIfInBounds k true)
  | .one k r, listed => (Region.ready .any ops listed == [k]) && !fins.contains k && planB ops fins r (listed.setIfInBounds k true)
  | .two k r k' r', listed => (Region.ready .any ops listed == [k, k'] || Region.ready .any ops listed == [k', k]) && decide (r.len = r'.len) && !fins.contains k && !fins.contains k' && planB ops fins r (listed.setIfInBounds k true) && planB ops fins r' (listed.setIfInBounds k' true)
def wpOC (P : Program) (ops : Array Oper) (Q : Exit → Act → World → Prop) : OC → (World → Prop) → Act → Prop
  | .fin t, S, a => ∀ w, S w → wpOT P ops (fun _ => True) Q t a w
  | .take l r, S, a => ∀ (ι : Type) [Inhabited ι] (f : ι → World), (∀ p, S (f p)) → wpQuiet P ops (fun W => ∃ p, W = f p) (fun a' => wpOC P ops Q r S a') l a
  | .free l r, S, a => wpQuiet P ops (fun _ => True) (fun a' => wpOC P ops Q r S a') l a
  | .call o r, S, a => ∃ v, YieldsC P ops S o v a ∧ wpOC P ops Q r S (a.put o.dst v)
  | .one o r, S, a => ∀ w, S w → wpList P ops (fun e a' w' => e = .normal ∧ ∃ S', EC S' ∧ (∀ W, S' W → S W) ∧ S' w' ∧ wpOC P ops Q r S' a') [o] a w
  | .two o r o' r', S, a => ∀ w, S w → wpList P ops (fun e a' w' => e = .normal ∧ ∃ S', EC S' ∧ (∀ W, S' W → S W) ∧ S' w' ∧ wpOC P ops Q r S' a') [o] a w ∧ wpList P ops (fun e a' w' => e = .normal ∧ ∃ S', EC S' ∧ (∀ W, S' W → S W) ∧ S' w' ∧ wpOC P ops Q r' S' a') [o'] a w

theorem takesC {fins : List Nat} {m : Nat} (hsel : Region.noSelect ops = true) {S : World → Prop} (hE : EC S) {K : Act → Prop} : ∀ (l : List Nat) (n : Nat) (listed : Array Bool) (a : Act), Closed ops listed → invTakesB ops fins l listed = true →
    (∀ a', Closed ops (marked l listed) → K a' → wpAnyC P ops (normalOnly Q) fins m n (marked l listed) a' S) → wpQuiet P ops S K (opsOf ops l) a → wpAnyC P ops (normalOnly Q) fins m (l.length + n) listed a S
  | [], n, listed, a, hcl, hB, hK, h => by
    simp only [List.length_nil, Nat.zero_add]
    exact hK a hcl (by simpa [opsOf, wpQuiet] using h)
  | k :: r, n, listed, a, hcl, hB, hK, h => by
    simp only [invTakesB, Bool.and_eq_true] at hB
    obtain ⟨⟨⟨⟨⟨hr, hf⟩, hp⟩, hnf⟩, hre⟩, hB'⟩ := hB
    have hkr : k ∈ Region.ready .any ops listed := by simpa using hr
    obtain ⟨o, ho⟩ := op_of_ready (ops := ops) hkr
    have e : opsOf ops (k :: r) = o :: opsOf ops r := by simp [opsOf, consOp, ho]
    rw [e] at h
    rw [show (k :: r).length + n = (r.length + n) + 1 by simp; omega]
    obtain ⟨v, hy, hrest⟩ : ∃ v, YieldsC P ops S o v a ∧ wpQuiet P ops S K (opsOf ops r) (a.put o.dst v) := by
      unfold wpQuiet at h
      by_cases hw : Region.wanted o (yielded ops a.tmps) = true
      · rw [if_pos hw] at h
        obtain ⟨v, h1, h2⟩ := h
        refine ⟨v, .inl ⟨hw, fun W hW => .inl ?_⟩, h2⟩
        have h3 := h1 W hW
        unfold Oper.quietAt at h3
        cases hrun : (execOp a.eval o).run P W with
        | ok x W' =>
          rw [hrun] at h3
          cases x <;> simp only [Oper.quietUpon] at h3
          case value u => rw [h3.1, h3.2]
          case skip => exact absurd hrun (plain_not_enter ho hp a.eval W 0 #[] W').2
          case enter f args => exact absurd hrun (plain_not_enter ho hp a.eval W f args W').1
        | halt x W' => rw [hrun] at h3; simp only [Oper.quietUpon] at h3
      · rw [if_neg hw] at h
        exact ⟨undef, .inr ⟨by simpa using hw, rfl⟩, h⟩
    refine anyC_first ho hsel (fun _ _ _ h => h) (fun j hj => ?_) (by simpa using hnf) _ listed a S hE hcl (Region.free_spec ho hf) hkr hy (takesC hsel hE r n _ _ (hcl.set hkr) hB' hK hrest)
    have : j ∈ fins := by simpa using hj
    exact List.all_eq_true.1 hre j this

theorem freesC {fins : List Nat} {m : Nat} (hsel : Region.noSelect ops = true) {S : World → Prop} (hE : EC S) {K : Act → Prop} : ∀ (l : List Nat) (n : Nat) (listed : Array Bool) (a : Act), Closed ops listed → freesB ops fins l listed = true →
    (∀ a', Closed ops (marked l listed) → K a' → wpAnyC P ops (normalOnly Q) fins m n (marked l listed) a' S) → wpQuiet P ops (fun _ => True) K (opsOf ops l) a → wpAnyC P ops (normalOnly Q) fins m (l.length + n) listed a S
  | [], n, listed, a, hcl, hB, hK, h => by
    simp only [List.length_nil, Nat.zero_add]
    exact hK a hcl (by simpa [opsOf, wpQuiet] using h)
  | k :: r, n, listed, a, hcl, hB, hK, h => by
    simp only [freesB, Bool.and_eq_true] at hB
    obtain ⟨⟨⟨⟨hr, hf⟩, hp⟩, hnf⟩, hB'⟩ := hB
    have hkr : k ∈ Region.ready .any ops listed := by simpa using hr
    obtain ⟨o, ho⟩ := op_of_ready (ops := ops) hkr
    have e : opsOf ops (k :: r) = o :: opsOf ops r := by simp [opsOf, consOp, ho]
    rw [e] at h
    rw [show (k :: r).length + n = (r.length + n) + 1 by simp; omega]
    obtain ⟨v, hy, hrest⟩ : ∃ v, Yields P ops o v a ∧ wpQuiet P ops (fun _ => True) K (opsOf ops r) (a.put o.dst v) := by
      unfold wpQuiet at h
      by_cases hw : Region.wanted o (yielded ops a.tmps) = true
      · rw [if_pos hw] at h
        obtain ⟨v, h1, h2⟩ := h
        refine ⟨v, .inl ⟨hw, fun W => ?_⟩, h2⟩
        have h3 := h1 W trivial
        unfold Oper.quietAt at h3
        cases hrun : (execOp a.eval o).run P W with
        | ok x W' =>
          rw [hrun] at h3
          cases x <;> simp only [Oper.quietUpon] at h3
          case value u => rw [h3.1, h3.2]
          case skip => exact absurd hrun (plain_not_enter ho hp a.eval W 0 #[] W').2
          case enter f args => exact absurd hrun (plain_not_enter ho hp a.eval W f args W').1
        | halt x W' => rw [hrun] at h3; simp only [Oper.quietUpon] at h3
      · rw [if_neg hw] at h
        exact ⟨undef, .inr ⟨by simpa using hw, rfl⟩, h⟩
    exact anyC_free ho hsel (fun _ _ _ h => h) (by simpa using hnf) _ listed a S hE (Region.free_spec ho hf) hkr hy (freesC hsel hE r n _ _ (hcl.set hkr) hB' hK hrest)

theorem plan_sound {fins : List Nat} (hsel : Region.noSelect ops = true) : ∀ (t : CT) (listed : Array Bool) (a : Act) (S : World → Prop), EC S → (∃ w, S w) → Closed ops listed → planB ops fins t listed = true → wpOC P ops Q (planOf ops t) S a → wpAnyC P ops (normalOnly Q) fins fins.length t.len listed a S
  | .fin t, listed, a, S, hE, hne, hcl, hB, h => by
    simp only [planB, Bool.and_eq_true, decide_eq_true_eq] at hB
    obtain ⟨⟨h1, h2⟩, h3⟩ := hB
    refine ⟨fun j hj => by simpa using List.all_eq_true.1 h1 j (by simpa using hj), fun w hS => ?_⟩
    have := tree_sound (Q := Q) hsel t listed a w trivial h2 (h w hS)
    rw [h3] at this
    exact wpAny_of_held _ _ _ _ this
  | .take l r, listed, a, S, hE, ⟨w0, hw0⟩, hcl, hB, h => by
    simp only [planB, Bool.and_eq_true] at hB
    have hC : (fun W => ∃ p : {W : World // S W}, W = p.1) = S := by
      funext W
      exact propext ⟨fun ⟨p, hp⟩ => hp ▸ p.2, fun hW => ⟨⟨W, hW⟩, rfl⟩⟩
    have h' := @h {W : World // S W} ⟨⟨w0, hw0⟩⟩ (fun p => p.1) (fun p => p.2)
    rw [hC] at h'
    exact takesC hsel hE l r.len listed a hcl hB.1 (fun a' hc h' => plan_sound hsel r _ a' S hE ⟨w0, hw0⟩ hc hB.2 h') h'
  | .free l r, listed, a, S, hE, hne, hcl, hB, h => by
    simp only [planB, Bool.and_eq_true] at hB
    exact freesC hsel hE l r.len listed a hcl hB.1 (fun a' hc h' => plan_sound hsel r _ a' S hE hne hc hB.2 h') h
  | .call k r, listed, a, S, hE, hne, hcl, hB, h => by
    simp only [planB, Bool.and_eq_true] at hB
    obtain ⟨⟨⟨⟨hr, hf⟩, hnf⟩, hre⟩, hB'⟩ := hB
    have hkr : k ∈ Region.ready .any ops listed := by simpa using hr
    obtain ⟨o, ho⟩ := op_of_ready (ops := ops) hkr
    simp only [planOf, ho, callOC, wpOC] at h
    obtain ⟨v, hy, h⟩ := h
    refine anyC_first ho hsel (fun _ _ _ h => h) (fun j hj => ?_) (by simpa using hnf) _ listed a S hE hcl (Region.free_spec ho hf) hkr hy (plan_sound hsel r _ _ S hE hne (hcl.set hkr) hB' h)
    have : j ∈ fins := by simpa using hj
    exact List.all_eq_true.1 hre j this
  | .one k r, listed, a, S, hE, hne, hcl, hB, h => by
    simp only [planB, Bool.and_eq_true, beq_iff_eq] at hB
    obtain ⟨⟨hr, hnf⟩, hB'⟩ := hB
    obtain ⟨o, ho⟩ := op_of_ready (ops := ops) (show k ∈ Region.ready .any ops listed by rw [hr]; exact List.mem_singleton_self k)
    simp only [planOf, ho, oneOC, wpOC] at h
    intro w hS
    refine ⟨by rw [hr]; simp, fun i hi => ?_⟩
    have hi' := hi
    rw [hr] at hi
    obtain rfl := List.mem_singleton.1 hi
    rw [if_neg (by simpa using hnf)]
    refine wpOp_mono (fun a' w' ⟨S', e1, e2, e3, e4⟩ => ⟨S', e1, e2, e3, plan_sound hsel r _ a' S' e1 ⟨w', e3⟩ (hcl.set hi') hB' e4⟩) (wpOp_of_list ho (h w hS))
  | .two k r k' r', listed, a, S, hE, hne, hcl, hB, h => by
    simp only [planB, Bool.and_eq_true, Bool.or_eq_true, beq_iff_eq, decide_eq_true_eq] at hB
    obtain ⟨⟨⟨⟨⟨hr, hlen⟩, hnf⟩, hnf'⟩, hB1⟩, hB2⟩ := hB
    have hmem : ∀ i, i ∈ Region.ready .any ops listed ↔ i = k ∨ i = k' := fun i => by
      rcases hr with hr | hr <;> rw [hr] <;> simp [or_comm]
    obtain ⟨o, ho⟩ := op_of_ready (ops := ops) ((hmem k).2 (.inl rfl))
    obtain ⟨o', ho'⟩ := op_of_ready (ops := ops) ((hmem k').2 (.inr rfl))
    simp only [planOf, ho, ho', twoOC, wpOC] at h
    intro w hS
    refine ⟨by rcases hr with hr | hr <;> rw [hr] <;> simp, fun i hi => ?_⟩
    rcases (hmem i).1 hi with rfl | rfl
    · rw [if_neg (by simpa using hnf)]
      exact wpOp_mono (fun a' w' ⟨S', e1, e2, e3, e4⟩ => ⟨S', e1, e2, e3, plan_sound hsel r _ a' S' e1 ⟨w', e3⟩ (hcl.set hi) hB1 e4⟩) (wpOp_of_list ho (h w hS).1)
    · rw [if_neg (by simpa using hnf')]
      refine wpOp_mono (fun a' w' ⟨S', e1, e2, e3, e4⟩ => ⟨S', e1, e2, e3, ?_⟩) (wpOp_of_list ho' (h w hS).2)
      show wpAnyC P ops (normalOnly Q) fins fins.length r.len _ a' S'
      rw [hlen]
      exact plan_sound hsel r' _ a' S' e1 ⟨w', e3⟩ (hcl.set hi) hB2 e4

/-- THE THEOREM -/
theorem wp_region_plan {id : Nat} {l : List Oper} {a : Act} {w : World} (t : CT) (fins : List Nat) (S : World → Prop) (oc : OC) (hm : P.follows .mixedOrders = true)
    (hB : (planB l.toArray fins t (Array.replicate l.toArray.size false) && decide (fins.length + t.len = l.toArray.size) && Region.noSelect l.toArray) = true)
    (h2 : planOf l.toArray t = oc) (hE : EC S) (hS : S w.drew) (h : wpOC P l.toArray Q oc S a) : (Code.region id l.toArray true).wp P Q a w := by
  simp only [Bool.and_eq_true, decide_eq_true_eq] at hB
  obtain ⟨⟨hB, hlen⟩, hsel⟩ := hB
  rw [← h2] at h
  have key := wpAny_of_C _ _ _ _ w.drew hS (plan_sound (Q := Q) hsel t _ a S hE ⟨_, hS⟩ (closed_none _ _) hB h)
  rw [hlen] at key
  exact Go.wp_mono (wp_region_any hm key) fun e a w hq => by cases e <;> first | exact hq | exact hq.elim

/-- two orders, from any world of a class, that come to the same kind of end -/
theorem join_orders {F M : Nat → Nat → World → Prop} {S : World → Prop} {X Y : World → Prop} (h1 : (∀ p q W, F p q W → M p q W) → ∀ W, S W → X W) (h2 : (∀ p q W, F p q W → M p q W) → ∀ W, S W → Y W) (h : ∀ p q W, F p q W → M p q W) : ∀ W, S W → X W ∧ Y W := fun W hW => ⟨h1 h W hW, h2 h W hW⟩
theorem wpOC_two {o o' : Oper} {r r' : OC} {S : World → Prop} {a : Act} (h : ∀ w, S w → wpList P ops (fun e a' w' => e = .normal ∧ ∃ S', EC S' ∧ (∀ W, S' W → S W) ∧ S' w' ∧ wpOC P ops Q r S' a') [o] a w ∧ wpList P ops (fun e a' w' => e = .normal ∧ ∃ S', EC S' ∧ (∀ W, S' W → S W) ∧ S' w' ∧ wpOC P ops Q r' S' a') [o'] a w) : wpOC P ops Q (.two o r o' r') S a := h
theorem wpOC_free {l : List Oper} {r : OC} {S : World → Prop} {a : Act} (h : wpQuiet P ops (fun _ => True) (fun a' => wpOC P ops Q r S a') l a) : wpOC P ops Q (.free l r) S a := h
/-- a call -/
theorem wpOC_call {o : Oper} {r : OC} {S : World → Prop} {a : Act} {f : FuncId} {os : Array Operand} {ts : Array TypeId} {args : Array Value} {v : Value} (ho : o.op = .call { callee := .value (.func f), args := os, argTypes := ts }) (hg : o.guard = none) (hent : ∀ args w, (callFunc f args).run P w = .ok (.enter f args) w) (hargs : os.map a.eval = args)
    (hc : ∀ W, S W → Calls P f args W fun e w' => e = .returned v ∧ Ext W w') (h : wpOC P ops Q r S (a.put o.dst v)) : wpOC P ops Q (.call o r) S a := by
  refine ⟨v, .inl ⟨by unfold Region.wanted; rw [hg], fun W hW => .inr ⟨f, args, ?_, hc W hW⟩⟩, h⟩
  rw [← hargs]
  simp [execOp, ho, resolve, invoke, Act.eval, Deferred.ofValue, hent]
end
end Go.Proofs.YtcoelhpmkhimpaaGreatDoor
