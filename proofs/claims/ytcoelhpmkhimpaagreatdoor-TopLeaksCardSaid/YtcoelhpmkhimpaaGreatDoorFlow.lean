/- A region that draws its order, of whose operations some only add blocks and yield values (allocs, new slices, calls), each of which is told by a relation that added blocks leave as it is: each is walked once, whatever the order. -/
import Derived.Test.YtcoelhpmkhimpaaGreatDoorTreeC
namespace Go.Proofs.YtcoelhpmkhimpaaGreatDoor
open Go.RowKit
set_option linter.unusedVariables false
set_option linter.unusedSimpArgs false

inductive FT where
  | flow (gs ds : List Nat) (needs : List (List Nat)) (t : TT)
  | take (l : List Nat) (r : FT)
  | free (l : List Nat) (r : FT)
  | call (k : Nat) (r : FT)
inductive OF where
  | flow (os : List Oper) (ds : List Nat) (needs : List (List Nat)) (t : OT)
  | take (l : List Oper) (r : OF)
  | free (l : List Oper) (r : OF)
  | call (o : Oper) (r : OF)
def FT.len : FT → Nat
  | .flow gs _ _ _ => gs.length
  | .take l r => l.length + r.len
  | .free l r => l.length + r.len
  | .call _ r => r.len + 1
def callOF : Option Oper → OF → OF
  | some o, r => .call o r
  | none, r => r
def flowOf (ops : Array Oper) : FT → OF
  | .flow gs ds needs t => .flow (opsOf ops gs) ds needs (treeOf ops t)
  | .take l r => .take (opsOf ops l) (flowOf ops r)
  | .free l r => .free (opsOf ops l) (flowOf ops r)
  | .call k r => callOF ops[k]? (flowOf ops r)
def lowB (ops : Array Oper) : Bool := (List.range ops.size).all fun j => match ops[j]? with
  | some o => o.after.all fun e => !Region.binds .any e || decide (e.on < j)
  | none => true
def dstB (ops : Array Oper) : List Nat → List Nat → Bool
  | k :: ks, d :: ds => (match ops[k]? with | some o => decide (o.dst = some d) | none => false) && dstB ops ks ds
  | [], [] => true
  | _, _ => false
def needB (ops : Array Oper) (gs : List Nat) (k : Nat) (ps : List Nat) : Bool := ps.all fun p => match gs[p]?, ops[k]? with
  | some k', some o => o.after.any fun e => Region.binds .any e && e.on == k'
  | _, _ => false
def needsB (ops : Array Oper) (gs : List Nat) : List Nat → List (List Nat) → Bool
  | k :: ks, ps :: needs => needB ops gs k ps && needsB ops gs ks needs
  | [], [] => true
  | _, _ => false
def flowB (ops : Array Oper) (fins : List Nat) : FT → Array Bool → Bool
  | .flow gs ds needs t, listed => ((List.range ops.size).all fun j => listed.getD j false || fins.contains j || gs.contains j) && (gs.all fun k => !fins.contains k && decide (k < ops.size) && !listed.getD k false) && decide (gs.Nodup) && dstB ops gs ds && needsB ops gs gs needs
      && (fins.all fun j => gs.all fun k => reachB ops ops.size k j) && lowB ops && decide (listed.size = ops.size) && treeB ops t (marked gs listed) && decide (t.len = fins.length)
  | .take l r, listed => invTakesB ops fins l listed && flowB ops fins r (marked l listed)
  | .free l r, listed => freesB ops fins l listed && flowB ops fins r (marked l listed)
  | .call k r, listed => (Region.ready .any ops listed).contains k && Region.free .any ops listed k && !fins.contains k && (fins.all fun j => reachB ops ops.size k j) && flowB ops fins r (listed.setIfInBounds k true)

abbrev Rel := Value → World → Prop
def anyRel : Rel := fun _ _ => True
def relAt (Rs : List Rel) (p : Nat) : Rel := Rs.getD p anyRel
def flowAll : List Rel → List Value → World → Prop
  | R :: Rs, x :: xs, w => R x w ∧ flowAll Rs xs w
  | _, _, _ => True
def flowNeeds (Rs : List Rel) (xs : List Value) (w : World) : List Nat → Prop
  | [] => True
  | p :: r => relAt Rs p (xs.getD p undef) w ∧ flowNeeds Rs xs w r
def ecAll : List Rel → Prop
  | [] => True
  | R :: Rs => (∀ v, EC (R v)) ∧ ecAll Rs
section
variable {P : Program} {ops : Array Oper} {Q : Exit → Act → World → Prop}
/-- what an operation of the flow comes to -/
def FlowPost (Rs : List Rel) (ds : List Nat) (a : Act) (xs : List Value) (p : Nat) (W : World) (a1 : Act) (W1 : World) : Prop := ∃ v, a1 = puts a ds (xs.set p v) ∧ Ext W W1 ∧ relAt Rs p v W1
def flowSteps (P : Program) (ops : Array Oper) (Q : Exit → Act → World → Prop) (S : World → Prop) (Rs : List Rel) (ds : List Nat) (needs : List (List Nat)) (a : Act) (n : Nat) : List Oper → Nat → Prop
  | [], _ => True
  | o :: r, p => (∀ xs W, xs.length = n → S W → flowNeeds Rs xs W (needs.getD p []) → wpList P ops (fun e a1 W1 => e = .normal ∧ FlowPost Rs ds a xs p W a1 W1) [o] (puts a ds xs) W) ∧ flowSteps P ops Q S Rs ds needs a n r (p + 1)
def wpOF (P : Program) (ops : Array Oper) (Q : Exit → Act → World → Prop) : OF → (World → Prop) → Act → Prop
  | .flow os ds needs t, S, a => ∃ Rs : List Rel, Rs.length = os.length ∧ ecAll Rs ∧ flowSteps P ops Q S Rs ds needs a os.length os 0 ∧ ∀ xs w, xs.length = os.length → S w → flowAll Rs xs w → wpOT P ops (fun _ => True) Q t (puts a ds xs) w
  | .take l r, S, a => ∀ (ι : Type) [Inhabited ι] (f : ι → World), (∀ p, S (f p)) → wpQuiet P ops (fun W => ∃ p, W = f p) (fun a' => wpOF P ops Q r S a') l a
  | .free l r, S, a => wpQuiet P ops (fun _ => True) (fun a' => wpOF P ops Q r S a') l a
  | .call o r, S, a => ∃ v, YieldsC P ops S o v a ∧ wpOF P ops Q r S (a.put o.dst v)

theorem ecAll_at : ∀ {Rs : List Rel} (p : Nat), ecAll Rs → ∀ v, EC (relAt Rs p v)
  | [], p, _, v => fun _ _ _ _ => by simp [relAt, anyRel]
  | R :: Rs, 0, h, v => h.1 v
  | R :: Rs, p + 1, h, v => by
    have := ecAll_at p h.2 v
    simpa [relAt] using this
theorem flowNeeds_of {Rs : List Rel} {xs : List Value} {w : World} : ∀ {l : List Nat}, (∀ p ∈ l, relAt Rs p (xs.getD p undef) w) → flowNeeds Rs xs w l
  | [], _ => trivial
  | p :: r, h => ⟨h p (List.mem_cons_self ..), flowNeeds_of fun q hq => h q (List.mem_cons_of_mem _ hq)⟩
theorem flowAll_of {w : World} : ∀ {Rs : List Rel} {xs : List Value}, xs.length = Rs.length → (∀ p, p < Rs.length → relAt Rs p (xs.getD p undef) w) → flowAll Rs xs w
  | [], [], _, _ => trivial
  | R :: Rs, [], h, _ => by simp at h
  | [], x :: xs, h, _ => trivial
  | R :: Rs, x :: xs, h, k => ⟨by simpa [relAt] using k 0 (by simp), flowAll_of (by simpa using h) fun p hp => by simpa [relAt] using k (p + 1) (by simpa using hp)⟩
theorem act_put_self (a : Act) (d : Nat) : a.put (some d) (a.tmps.getD d undef) = a := by
  obtain ⟨tmps, defers⟩ := a
  simp only [Act.put]
  congr 1
  refine Array.ext_getElem? fun i => ?_
  rw [Array.getElem?_setIfInBounds]
  split
  · rename_i h
    subst h
    split
    · rename_i h2
      rw [Array.getElem?_eq_getElem h2]
      simp [h2]
    · rename_i h2
      rw [Array.getElem?_eq_none (by omega)]
  · rfl
theorem puts_self (a : Act) : ∀ (ds : List Nat), puts a ds (ds.map fun d => a.tmps.getD d undef) = a
  | [] => rfl
  | d :: ds => by
    simp only [List.map_cons, puts]
    rw [act_put_self]
    exact puts_self a ds
theorem getD_set_eq {listed : Array Bool} {k j : Nat} (h : k ≠ j) : (listed.setIfInBounds k true).getD j false = listed.getD j false := getD_set_ne false h
theorem getD_set_same {listed : Array Bool} {k : Nat} (h : k < listed.size) : (listed.setIfInBounds k true).getD k false = true := by simp [h]
theorem marked_getD : ∀ (l : List Nat) (listed : Array Bool) (j : Nat), (∀ k ∈ l, k < listed.size) → (marked l listed).getD j false = (listed.getD j false || l.contains j)
  | [], listed, j, _ => by simp [marked]
  | k :: r, listed, j, h => by
    simp only [marked]
    rw [marked_getD r _ j (fun q hq => by simpa using h q (List.mem_cons_of_mem _ hq))]
    by_cases e : k = j
    · subst e
      rw [getD_set_same (h k (List.mem_cons_self ..))]
      simp
    · rw [getD_set_eq e, List.contains_cons]
      have : (j == k) = false := by simpa using Ne.symm e
      rw [this, Bool.false_or]
theorem array_ext_getD {x y : Array Bool} (h : x.size = y.size) (k : ∀ j, x.getD j false = y.getD j false) : x = y := by
  refine Array.ext h fun i h1 h2 => ?_
  have := k i
  simpa [h1, h2] using this
theorem flowSteps_at {S : World → Prop} {Rs : List Rel} {ds : List Nat} {needs : List (List Nat)} {a : Act} {n : Nat} : ∀ {os : List Oper} {p0 : Nat} (p : Nat) (o : Oper), flowSteps P ops Q S Rs ds needs a n os p0 → os[p]? = some o →
    ∀ xs W, xs.length = n → S W → flowNeeds Rs xs W (needs.getD (p0 + p) []) → wpList P ops (fun e a1 W1 => e = .normal ∧ FlowPost Rs ds a xs (p0 + p) W a1 W1) [o] (puts a ds xs) W
  | [], p0, p, o, _, ho => by simp at ho
  | x :: r, p0, 0, o, h, ho => by
    simp at ho
    subst ho
    exact h.1
  | x :: r, p0, p + 1, o, h, ho => by
    have := flowSteps_at p o h.2 (by simpa using ho)
    rw [show p0 + 1 + p = p0 + (p + 1) by omega] at this
    exact this
theorem opsOf_get : ∀ {gs : List Nat} {p k : Nat}, (∀ k ∈ gs, k < ops.size) → gs[p]? = some k → (opsOf ops gs)[p]? = ops[k]?
  | [], p, k, _, h => by simp at h
  | g :: gs, p, k, hin, h => by
    have hg := hin g (List.mem_cons_self ..)
    have e : opsOf ops (g :: gs) = ops[g] :: opsOf ops gs := by simp [opsOf, consOp, Array.getElem?_eq_getElem hg]
    rw [e]
    cases p with
    | zero =>
      simp at h
      subst h
      simp [Array.getElem?_eq_getElem hg]
    | succ p =>
      simp only [List.getElem?_cons_succ] at h ⊢
      exact opsOf_get (fun q hq => hin q (List.mem_cons_of_mem _ hq)) h
theorem opsOf_len : ∀ {gs : List Nat}, (∀ k ∈ gs, k < ops.size) → (opsOf ops gs).length = gs.length
  | [], _ => rfl
  | g :: gs, hin => by
    have hg := hin g (List.mem_cons_self ..)
    have e : opsOf ops (g :: gs) = ops[g] :: opsOf ops gs := by simp [opsOf, consOp, Array.getElem?_eq_getElem hg]
    rw [e, List.length_cons, List.length_cons, opsOf_len (fun q hq => hin q (List.mem_cons_of_mem _ hq))]
theorem needsB_at {gs : List Nat} : ∀ {ks : List Nat} {needs : List (List Nat)} (p k : Nat), needsB ops gs ks needs = true → ks[p]? = some k → needB ops gs k (needs.getD p []) = true
  | [], _, p, k, _, h => by simp at h
  | q :: ks, [], p, k, hB, h => by simp [needsB] at hB
  | q :: ks, n :: needs, 0, k, hB, h => by
    simp only [needsB, Bool.and_eq_true] at hB
    simp at h
    subst h
    simpa using hB.1
  | q :: ks, n :: needs, p + 1, k, hB, h => by
    simp only [needsB, Bool.and_eq_true] at hB
    have := needsB_at p k hB.2 (by simpa using h)
    simpa using this
theorem dstB_len : ∀ {ks ds : List Nat}, dstB ops ks ds = true → ks.length = ds.length
  | [], [], _ => rfl
  | [], _ :: _, h => by simp [dstB] at h
  | _ :: _, [], h => by simp [dstB] at h
  | q :: ks, d :: ds, h => by
    simp only [dstB, Bool.and_eq_true] at h
    simp [dstB_len h.2]
/-- the least that is not listed is ready -/
theorem low_ready {listed : Array Bool} (hlow : lowB ops = true) (hsz : listed.size = ops.size) {j : Nat} (hj : j < ops.size) (hu : listed.getD j false = false) : Region.ready .any ops listed ≠ [] := by
  have key : ∀ n j, j ≤ n → j < ops.size → listed.getD j false = false → Region.ready .any ops listed ≠ [] := by
    intro n
    induction n with
    | zero =>
      intro j hjn hj hu e
      have hj0 : j = 0 := by omega
      subst hj0
      have hm : 0 ∈ Region.ready .any ops listed := by
        refine mem_ready.2 ⟨by simp [hsz, hj] at hu ⊢; exact hu, ops[0], Array.getElem?_eq_getElem hj, fun e he hb => ?_⟩
        have h1 := List.all_eq_true.1 hlow 0 (by simpa using hj)
        rw [Array.getElem?_eq_getElem hj] at h1
        have h2 := Array.all_eq_true'.1 h1 e he
        simp [hb] at h2
      rw [e] at hm
      cases hm
    | succ n ih =>
      intro j hjn hj hu e
      by_cases hall : ∀ i, i < j → listed.getD i false = true
      · have hm : j ∈ Region.ready .any ops listed := by
          refine mem_ready.2 ⟨by simp [hsz, hj] at hu ⊢; exact hu, ops[j], Array.getElem?_eq_getElem hj, fun e he hb => ?_⟩
          have h1 := List.all_eq_true.1 hlow j (by simpa using hj)
          rw [Array.getElem?_eq_getElem hj] at h1
          have h2 := Array.all_eq_true'.1 h1 e he
          simp [hb] at h2
          exact hall _ h2
        rw [e] at hm
        cases hm
      · obtain ⟨i, hi⟩ := Classical.not_forall.1 hall
        obtain ⟨hij, hi⟩ := Classical.not_imp.1 hi
        exact ih i (by omega) (by omega) (by simpa using hi) e
  exact key j j (Nat.le_refl _) hj hu
theorem flow_sound (hsel : Region.noSelect ops = true) {fins gs ds : List Nat} {needs : List (List Nat)} {t : TT} {listed0 : Array Bool} {S : World → Prop} (hE : EC S) {a : Act}
    (hB : flowB ops fins (.flow gs ds needs t) listed0 = true) {Rs : List Rel} (hR : Rs.length = gs.length) (hec : ecAll Rs) (hst : flowSteps P ops Q S Rs ds needs a gs.length (opsOf ops gs) 0)
    (hend : ∀ xs w, xs.length = gs.length → S w → flowAll Rs xs w → wpOT P ops (fun _ => True) Q (treeOf ops t) (puts a ds xs) w) :
    ∀ (n : Nat) (listed : Array Bool) (xs : List Value), (gs.filter fun k => !listed.getD k false).length = n → listed.size = ops.size → Closed ops listed → (∀ j, j ∉ gs → listed.getD j false = listed0.getD j false) → xs.length = gs.length →
      wpAnyC P ops (normalOnly Q) fins fins.length n listed (puts a ds xs) (fun W => S W ∧ ∀ p k, gs[p]? = some k → listed.getD k false = true → relAt Rs p (xs.getD p undef) W) := by
  simp only [flowB, Bool.and_eq_true, decide_eq_true_eq] at hB
  obtain ⟨⟨⟨⟨⟨⟨⟨⟨⟨b1, b2⟩, b3⟩, b4⟩, b5⟩, b6⟩, b7⟩, b8⟩, b9⟩, b10⟩ := hB
  have hin : ∀ k ∈ gs, k < ops.size ∧ fins.contains k = false := fun k hk => by
    have := List.all_eq_true.1 b2 k hk
    simp only [Bool.and_eq_true, Bool.not_eq_true', decide_eq_true_eq] at this
    exact ⟨this.1.2, this.1.1⟩
  intro n
  induction n with
  | zero =>
    intro listed xs hn hsz hcl hout hxs
    have hall : ∀ k ∈ gs, listed.getD k false = true := fun k hk => by
      have h0 := List.length_eq_zero_iff.1 hn
      rw [List.filter_eq_nil_iff] at h0
      simpa using h0 k hk
    refine ⟨fun j hj => ?_, fun w hw => ?_⟩
    · have := List.all_eq_true.1 b1 j (by simpa using hj)
      simp only [Bool.or_eq_true] at this
      rcases this with (h | h) | h
      · by_cases hg : j ∈ gs
        · exact .inl (hall j hg)
        · exact .inl ((hout j hg).trans h)
      · exact .inr h
      · exact .inl (hall j (by simpa using h))
    · have he : listed = marked gs listed0 := by
        refine array_ext_getD (by rw [marked_size, hsz, b8]) fun j => ?_
        rw [marked_getD gs listed0 j (fun k hk => by rw [b8]; exact (hin k hk).1)]
        by_cases hg : j ∈ gs
        · rw [hall j hg]
          have : gs.contains j = true := by simpa using hg
          rw [this, Bool.or_true]
        · rw [hout j hg]
          have : gs.contains j = false := by simpa using hg
          rw [this, Bool.or_false]
      have hw2 := hend xs w hxs hw.1 (flowAll_of (by rw [hxs, hR]) fun p hp => by
        rw [hR] at hp
        exact hw.2 p gs[p] (List.getElem?_eq_getElem hp) (hall _ (List.getElem_mem hp)))
      have := tree_sound (Q := Q) hsel t (marked gs listed0) (puts a ds xs) w trivial b9 hw2
      rw [b10] at this
      rw [he]
      exact wpAny_of_held _ _ _ _ this
  | succ n ih =>
    intro listed xs hn hsz hcl hout hxs w hw
    obtain ⟨k0, hk0, hu0⟩ : ∃ k ∈ gs, listed.getD k false = false := by
      have : (gs.filter fun k => !listed.getD k false) ≠ [] := fun e => by rw [e] at hn; simp at hn
      obtain ⟨k, hk⟩ := List.exists_mem_of_ne_nil _ this
      rw [List.mem_filter] at hk
      exact ⟨k, hk.1, by simpa using hk.2⟩
    refine ⟨low_ready b7 hsz (hin k0 hk0).1 hu0, fun i hi => ?_⟩
    have hi' := hi
    obtain ⟨hui, oi, hoi, hdeps⟩ := mem_ready.1 hi
    have his : i < ops.size := (Array.getElem?_eq_some_iff.1 hoi).1
    have hui' : listed.getD i false = false := by simp [hsz, his] at hui ⊢; exact hui
    have hnf : fins.contains i = false := by
      cases hf : fins.contains i with
      | false => rfl
      | true =>
        have h1 := List.all_eq_true.1 b6 i (by simpa using hf)
        have h2 := List.all_eq_true.1 h1 k0 hk0
        have := reach_listed hcl ops.size i oi hoi hdeps h2
        rw [hu0] at this
        cases this
    have hig : i ∈ gs := by
      have := List.all_eq_true.1 b1 i (by simpa using his)
      simp only [Bool.or_eq_true] at this
      rcases this with (h | h) | h
      · by_cases hg : i ∈ gs
        · exact hg
        · rw [hout i hg, h] at hui'
          cases hui'
      · rw [hnf] at h; cases h
      · simpa using h
    obtain ⟨p, hp, hgp⟩ := List.mem_iff_getElem.1 hig
    have hgp' : gs[p]? = some i := by rw [List.getElem?_eq_getElem hp, hgp]
    rw [if_neg (by rw [hnf]; simp)]
    have hneed : flowNeeds Rs xs w (needs.getD (0 + p) []) := by
      rw [Nat.zero_add]
      refine flowNeeds_of fun q hq => ?_
      have h1 := needsB_at p i b5 hgp'
      have h2 := List.all_eq_true.1 h1 q hq
      cases hgq : gs[q]? with
      | none => rw [hgq] at h2; cases h2
      | some k' =>
        rw [hgq, hoi] at h2
        obtain ⟨e, he, hb⟩ := Array.any_eq_true'.1 h2
        simp only [Bool.and_eq_true, beq_iff_eq] at hb
        exact hw.2 q k' hgq (by rw [← hb.2]; exact hdeps e he hb.1)
    have hop := flowSteps_at p oi hst (by rw [opsOf_get (fun k hk => (hin k hk).1) hgp']; exact hoi) xs w hxs hw.1 hneed
    refine wpOp_mono ?_ (wpOp_of_list hoi hop)
    rintro a1 W1 ⟨v, rfl, hx, hr⟩
    rw [Nat.zero_add] at hr ⊢
    have hsz' : (listed.setIfInBounds i true).size = ops.size := by simpa using hsz
    have hlen' : (xs.set p v).length = gs.length := by simpa using hxs
    have hgv : (xs.set p v).getD p undef = v := by
      rw [List.getD_eq_getElem?_getD, List.getElem?_set_self (by rw [hxs]; exact hp)]
      rfl
    have hgo : ∀ q, q ≠ p → (xs.set p v).getD q undef = xs.getD q undef := fun q hq => by
      rw [List.getD_eq_getElem?_getD, List.getD_eq_getElem?_getD, List.getElem?_set_ne (Ne.symm hq)]
    refine ⟨_, ?_, ?_, ?_, ih (listed.setIfInBounds i true) (xs.set p v) ?_ hsz' (hcl.set hi') ?_ hlen'⟩
    · rintro A B ⟨h1, h2⟩ hAB
      exact ⟨hE A B h1 hAB, fun q k hk hl => ecAll_at q hec _ A B (h2 q k hk hl) hAB⟩
    · rintro A ⟨h1, h2⟩
      refine ⟨h1, fun q k hk hl => ?_⟩
      have hne : q ≠ p := fun e => by
        subst e
        rw [hgp'] at hk
        cases hk
        rw [hui'] at hl
        cases hl
      have := h2 q k hk (getD_set_mono hl)
      rwa [hgo q hne] at this
    · refine ⟨hE _ _ hw.1 hx, fun q k hk hl => ?_⟩
      by_cases hq : q = p
      · subst hq
        rw [hgv]
        exact hr
      · rw [hgo q hq]
        have hki : k ≠ i := fun e => by
          subst e
          have h1 : q < gs.length := (List.getElem?_eq_some_iff.1 hk).1
          have h2 := (List.getElem?_eq_some_iff.1 hk).2
          exact hq ((List.getElem?_inj h1 b3).1 (hk.trans hgp'.symm))
        rw [getD_set_eq (Ne.symm hki)] at hl
        exact ecAll_at q hec _ _ _ (hw.2 q k hk hl) hx
    · have key : ∀ (l : List Nat), l.Nodup → i ∈ l → (l.filter fun k => !(listed.setIfInBounds i true).getD k false).length + 1 = (l.filter fun k => !listed.getD k false).length := by
        intro l
        induction l with
        | nil => intro _ h; cases h
        | cons x l ihl =>
          intro hnd hm
          rw [List.nodup_cons] at hnd
          by_cases e : x = i
          · subst e
            have hsame : (l.filter fun k => !(listed.setIfInBounds x true).getD k false) = (l.filter fun k => !listed.getD k false) := by
              refine List.filter_congr fun k hk => ?_
              rw [getD_set_eq (fun e => by subst e; exact hnd.1 hk)]
            rw [List.filter_cons_of_neg (by rw [getD_set_same (by rw [hsz]; exact his)]; simp), List.filter_cons_of_pos (by rw [hui']; rfl), hsame, List.length_cons]
          · have hm' : i ∈ l := by
              rcases List.mem_cons.1 hm with h | h
              · exact absurd h.symm e
              · exact h
            have := ihl hnd.2 hm'
            by_cases hx1 : listed.getD x false = true
            · rw [List.filter_cons_of_neg (by rw [getD_set_eq (Ne.symm e), hx1]; simp), List.filter_cons_of_neg (by rw [hx1]; simp)]
              exact this
            · have hx2 : listed.getD x false = false := by simpa using hx1
              rw [List.filter_cons_of_pos (by rw [getD_set_eq (Ne.symm e), hx2]; rfl), List.filter_cons_of_pos (by rw [hx2]; rfl), List.length_cons, List.length_cons, this]
      have := key gs b3 hig
      omega
    · intro j hj
      rw [getD_set_eq (fun e => hj (by rw [← e]; exact hig))]
      exact hout j hj
theorem flowPlan_sound {fins : List Nat} (hsel : Region.noSelect ops = true) : ∀ (t : FT) (listed : Array Bool) (a : Act) (S : World → Prop), EC S → (∃ w, S w) → Closed ops listed → flowB ops fins t listed = true → wpOF P ops Q (flowOf ops t) S a → wpAnyC P ops (normalOnly Q) fins fins.length t.len listed a S
  | .flow gs ds needs t, listed, a, S, hE, hne, hcl, hB, h => by
    have hB' := hB
    simp only [flowB, Bool.and_eq_true, decide_eq_true_eq] at hB'
    obtain ⟨⟨⟨⟨⟨⟨⟨⟨⟨b1, b2⟩, b3⟩, b4⟩, b5⟩, b6⟩, b7⟩, b8⟩, b9⟩, b10⟩ := hB'
    have hin : ∀ k ∈ gs, k < ops.size ∧ listed.getD k false = false := fun k hk => by
      have := List.all_eq_true.1 b2 k hk
      simp only [Bool.and_eq_true, Bool.not_eq_true', decide_eq_true_eq] at this
      exact ⟨this.1.2, this.2⟩
    have hlen := opsOf_len (ops := ops) fun k hk => (hin k hk).1
    obtain ⟨Rs, h1, h2, h3, h4⟩ := h
    rw [hlen] at h1 h3 h4
    have hf := flow_sound (P := P) (Q := Q) hsel hE hB h1 h2 h3 h4 gs.length listed (ds.map fun d => a.tmps.getD d undef) (by rw [List.filter_eq_self.2 (fun k hk => by rw [(hin k hk).2]; rfl)]) b8 hcl (fun _ _ => rfl) (by rw [List.length_map, dstB_len b4])
    rw [puts_self] at hf
    have hS : (fun W => S W ∧ ∀ p k, gs[p]? = some k → listed.getD k false = true → relAt Rs p ((ds.map fun d => a.tmps.getD d undef).getD p undef) W) = S := by
      funext W
      refine propext ⟨fun h => h.1, fun h => ⟨h, fun p k hk hl => ?_⟩⟩
      rw [(hin k (List.mem_of_getElem? hk)).2] at hl
      cases hl
    rw [hS] at hf
    exact hf
  | .take l r, listed, a, S, hE, ⟨w0, hw0⟩, hcl, hB, h => by
    simp only [flowB, Bool.and_eq_true] at hB
    have hC : (fun W => ∃ p : {W : World // S W}, W = p.1) = S := by
      funext W
      exact propext ⟨fun ⟨p, hp⟩ => hp ▸ p.2, fun hW => ⟨⟨W, hW⟩, rfl⟩⟩
    have h' := @h {W : World // S W} ⟨⟨w0, hw0⟩⟩ (fun p => p.1) (fun p => p.2)
    rw [hC] at h'
    exact takesC hsel hE l r.len listed a hcl hB.1 (fun a' hc h' => flowPlan_sound hsel r _ a' S hE ⟨w0, hw0⟩ hc hB.2 h') h'
  | .free l r, listed, a, S, hE, hne, hcl, hB, h => by
    simp only [flowB, Bool.and_eq_true] at hB
    exact freesC hsel hE l r.len listed a hcl hB.1 (fun a' hc h' => flowPlan_sound hsel r _ a' S hE hne hc hB.2 h') h
  | .call k r, listed, a, S, hE, hne, hcl, hB, h => by
    simp only [flowB, Bool.and_eq_true] at hB
    obtain ⟨⟨⟨⟨hr, hf⟩, hnf⟩, hre⟩, hB'⟩ := hB
    have hkr : k ∈ Region.ready .any ops listed := by simpa using hr
    obtain ⟨o, ho⟩ := op_of_ready (ops := ops) hkr
    simp only [flowOf, ho, callOF, wpOF] at h
    obtain ⟨v, hy, h⟩ := h
    refine anyC_first ho hsel (fun _ _ _ h => h) (fun j hj => ?_) (by simpa using hnf) _ listed a S hE hcl (Region.free_spec ho hf) hkr hy (flowPlan_sound hsel r _ _ S hE hne (hcl.set hkr) hB' h)
    have : j ∈ fins := by simpa using hj
    exact List.all_eq_true.1 hre j this
/-- THE THEOREM -/
theorem wp_region_flow {id : Nat} {l : List Oper} {a : Act} {w : World} (t : FT) (fins : List Nat) (S : World → Prop) (oc : OF) (hm : P.follows .mixedOrders = true)
    (hB : (flowB l.toArray fins t (Array.replicate l.toArray.size false) && decide (fins.length + t.len = l.toArray.size) && Region.noSelect l.toArray) = true)
    (h2 : flowOf l.toArray t = oc) (hE : EC S) (hS : S w.drew) (h : wpOF P l.toArray Q oc S a) : (Code.region id l.toArray true).wp P Q a w := by
  simp only [Bool.and_eq_true, decide_eq_true_eq] at hB
  obtain ⟨⟨hB, hlen⟩, hsel⟩ := hB
  rw [← h2] at h
  have key := wpAny_of_C _ _ _ _ w.drew hS (flowPlan_sound (Q := Q) hsel t _ a S hE ⟨_, hS⟩ (closed_none _ _) hB h)
  rw [hlen] at key
  exact Go.wp_mono (wp_region_any hm key) fun e a w hq => by cases e <;> first | exact hq | exact hq.elim
theorem wpOF_flow {os : List Oper} {ds : List Nat} {needs : List (List Nat)} {t : OT} {S : World → Prop} {a : Act} (Rs : List Rel) (h1 : Rs.length = os.length) (h2 : ecAll Rs) (h3 : flowSteps P ops Q S Rs ds needs a os.length os 0)
    (h4 : ∀ xs w, xs.length = os.length → S w → flowAll Rs xs w → wpOT P ops (fun _ => True) Q t (puts a ds xs) w) : wpOF P ops Q (.flow os ds needs t) S a := ⟨Rs, h1, h2, h3, h4⟩
theorem wpOF_free {l : List Oper} {r : OF} {S : World → Prop} {a : Act} (h : wpQuiet P ops (fun _ => True) (fun a' => wpOF P ops Q r S a') l a) : wpOF P ops Q (.free l r) S a := h
theorem flowSteps_cons {S : World → Prop} {Rs : List Rel} {ds : List Nat} {needs : List (List Nat)} {a : Act} {n : Nat} {o : Oper} {r : List Oper} {p : Nat}
    (h : ∀ xs W, xs.length = n → S W → flowNeeds Rs xs W (needs.getD p []) → wpList P ops (fun e a1 W1 => e = .normal ∧ FlowPost Rs ds a xs p W a1 W1) [o] (puts a ds xs) W) (k : flowSteps P ops Q S Rs ds needs a n r (p + 1)) : flowSteps P ops Q S Rs ds needs a n (o :: r) p := ⟨h, k⟩
theorem flowSteps_nil {S : World → Prop} {Rs : List Rel} {ds : List Nat} {needs : List (List Nat)} {a : Act} {n p : Nat} : flowSteps P ops Q S Rs ds needs a n [] p := trivial
theorem FlowPost.mk {Rs : List Rel} {ds : List Nat} {a : Act} {xs : List Value} {p : Nat} {W : World} {a1 : Act} {W1 : World} (v : Value) (h : a1 = puts a ds (xs.set p v)) (hx : Ext W W1) (hr : relAt Rs p v W1) : FlowPost Rs ds a xs p W a1 W1 := ⟨v, h, hx, hr⟩
end
/-- a new slice -/
def IsSl (T : TypeId) (n : Nat) (cs : Array Value) : Rel := fun v W => ∃ b, v = .slice (some ⟨b, 0, none⟩) n n ∧ W.heap[b]? = some (.cells cs T (0, 0))
def IsV (u : Value) : Rel := fun v _ => v = u
/-- a new variable -/
def IsBox (B : Nat) (T : TypeId) (cs : Array Value) : Rel := fun v W => ∃ b, v = .pointer (some ⟨b, 0, none⟩) ∧ B ≤ b ∧ W.heap[b]? = some (.cells cs T (0, 0))
theorem isSl_ec (T : TypeId) (n : Nat) (cs : Array Value) (v : Value) : EC (IsSl T n cs v) := fun _ _ ⟨b, h1, h2⟩ e => ⟨b, h1, e.heap h2⟩
theorem isV_ec (u v : Value) : EC (IsV u v) := fun _ _ h _ => h
theorem isBox_ec (B : Nat) (T : TypeId) (cs : Array Value) (v : Value) : EC (IsBox B T cs v) := fun _ _ ⟨b, h1, h2, h3⟩ e => ⟨b, h1, h2, e.heap h3⟩
theorem IsSl.new {T : TypeId} {n : Nat} {cs : Array Value} {W : World} : IsSl T n cs (.slice (some ⟨W.heap.size, 0, none⟩) n n) (W.alloc (.cells cs T)) := ⟨_, rfl, heap_alloc_new W _⟩
theorem IsBox.new {B : Nat} {T : TypeId} {cs : Array Value} {W : World} (h : B ≤ W.heap.size) : IsBox B T cs (.pointer (some ⟨W.heap.size, 0, none⟩)) (W.alloc (.cells cs T)) := ⟨_, rfl, h, heap_alloc_new W _⟩
theorem len1 {α : Type} {l : List α} (h : l.length = 1) : ∃ a, l = [a] := by
  match l, h with
  | [a], _ => exact ⟨a, rfl⟩
theorem len2 {α : Type} {l : List α} (h : l.length = 2) : ∃ a b, l = [a, b] := by
  match l, h with
  | [a, b], _ => exact ⟨a, b, rfl⟩
theorem len3 {α : Type} {l : List α} (h : l.length = 3) : ∃ a b c, l = [a, b, c] := by
  match l, h with
  | [a, b, c], _ => exact ⟨a, b, c, rfl⟩
theorem len4 {α : Type} {l : List α} (h : l.length = 4) : ∃ a b c d, l = [a, b, c, d] := by
  match l, h with
  | [a, b, c, d], _ => exact ⟨a, b, c, d, rfl⟩
theorem len5 {α : Type} {l : List α} (h : l.length = 5) : ∃ a b c d e, l = [a, b, c, d, e] := by
  match l, h with
  | [a, b, c, d, e], _ => exact ⟨a, b, c, d, e, rfl⟩
theorem len6 {α : Type} {l : List α} (h : l.length = 6) : ∃ a b c d e f, l = [a, b, c, d, e, f] := by
  match l, h with
  | [a, b, c, d, e, f], _ => exact ⟨a, b, c, d, e, f, rfl⟩
end Go.Proofs.YtcoelhpmkhimpaaGreatDoor
