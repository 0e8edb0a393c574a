/- A region that draws its order, in a round of a range over a function. -/
import Derived.Test.YtcoelhpmkhimpaaGreatDoorTreeC
import Derived.RangeFuncNested
import Derived.OrdersIn
namespace Go.Proofs.YtcoelhpmkhimpaaGreatDoor
open Go.RowKit
set_option linter.unusedVariables false

section
variable {P : Program} {ops : Array Oper} {Q : Exit → Act → World → Prop} {l : Nat}
def noDefer (o : Oper) : Bool := match o.op with | .defer _ => false | _ => true
theorem noDefer_ne {o : Oper} (h : noDefer o = true) : ∀ c, o.op ≠ .defer c := by
  intro c e
  unfold noDefer at h
  rw [e] at h
  cases h
theorem wpIn_of_wp {o : Oper} (hd : noDefer o = true) {K : Act → World → Prop} {a : Act} {w : World} (h : o.wp P a w K Q) : o.wpIn (Fence.wide.inRound l) 0 P a w K Q := by
  refine ⟨fun _ _ => trivial, ?_⟩
  rw [Oper.semAt_eq _ _ _ (noDefer_ne hd)]
  unfold Oper.wp at h
  generalize (execOp a.eval o).run P w = r at *
  cases r with
  | ok x w' =>
    cases x <;> simp only [Oper.upon, Oper.uponIn] at h ⊢ <;>
      first
        | exact h
        | exact ⟨(fun e => by cases e), (callsIn_wide (n := 0)).2 h⟩
        | exact ⟨(fun e => by cases e), fun c cs _ => let ⟨v, w', r, s⟩ := h c cs; ⟨v, w', r, stepsIn_wide.2 s⟩⟩
  | halt x w' => cases x <;> simp only [Oper.upon, Oper.uponIn] at h ⊢ <;> exact h
theorem wpAnyIn_of_wpAny (hd : ops.all noDefer = true) (hQ : ¬LetsOut Q) : ∀ (fuel : Nat) (listed : Array Bool) (a : Act) (w : World), wpAny P .any ops Q fuel listed a w → wpAnyIn (Fence.wide.inRound l) 0 P .any ops Q fuel listed a w
  | 0, _, _, _, h => h
  | fuel + 1, listed, a, w, h => ⟨h.1, fun i hi => by
      have h2 := h.2 i hi
      unfold wpOp at h2
      unfold wpOpIn
      cases ho : ops[i]? with
      | none => rw [ho] at h2; exact wpAnyIn_of_wpAny hd hQ fuel _ a w h2
      | some o =>
        rw [ho] at h2
        simp only at h2 ⊢
        have hdo : noDefer o = true := by
          obtain ⟨hi', rfl⟩ := Array.getElem?_eq_some_iff.1 ho
          exact Array.all_eq_true.1 hd i hi'
        split
        · rename_i hw
          rw [if_pos hw] at h2
          exact wpIn_of_wp hdo (Go.Oper.wp_mono (fun a' w' h' => wpAnyIn_of_wpAny hd hQ fuel _ a' w' h') (h2.resolve_right fun e => hQ e.2))
        · rename_i hw
          rw [if_neg hw] at h2
          exact ⟨fun _ _ => trivial, wpAnyIn_of_wpAny hd hQ fuel _ _ w h2⟩⟩
/-- the theorem of Tree, in a round -/
theorem wpIn_region_tree {id : Nat} {l0 : List Oper} {a : Act} {w : World} (t : TT) (S : World → Prop) (ot : OT) (hm : P.follows .mixedOrders = true)
    (hB : (treeB l0.toArray t (Array.replicate l0.toArray.size false) && decide (t.len = l0.toArray.size) && Region.noSelect l0.toArray && l0.toArray.all noDefer) = true)
    (h2 : treeOf l0.toArray t = ot) (hS : S w.drew)
    (h : ∀ (ι : Type) [Inhabited ι] (f : ι → World), (∀ p, S (f p)) → (∀ W, S W → ∃ p, W = f p) → wpOT P l0.toArray (fun W => ∃ p, W = f p) Q ot a w.drew) : (Code.region id l0.toArray true).wpIn (Fence.wide.inRound l) 0 P Q a w := by
  simp only [Bool.and_eq_true, decide_eq_true_eq] at hB
  obtain ⟨⟨⟨hB, hlen⟩, hsel⟩, hdf⟩ := hB
  have hC : (fun W => ∃ p : {W : World // S W}, W = p.1) = S := by
    funext W
    exact propext ⟨fun ⟨p, hp⟩ => hp ▸ p.2, fun hW => ⟨⟨W, hW⟩, rfl⟩⟩
  have h' := @h {W : World // S W} ⟨⟨_, hS⟩⟩ (fun p => p.1) (fun p => p.2) (fun W hW => ⟨⟨W, hW⟩, rfl⟩)
  rw [hC, ← h2] at h'
  have key := tree_sound (Q := Q) hsel t _ a w.drew hS hB h'
  rw [hlen] at key
  have key2 := wpAnyIn_of_wpAny (l := l) hdf (fun ⟨_, _, e⟩ => e) _ _ _ _ (wpAny_of_held _ _ _ _ key)
  exact wpIn_mono (wpIn_region_any (Q := normalOnly Q) hm key2) fun e a w hq => by cases e <;> first | exact hq | exact hq.elim
/-- the theorem of TreeC, in a round -/
theorem wpIn_region_plan {id : Nat} {l0 : List Oper} {a : Act} {w : World} (t : CT) (fins : List Nat) (S : World → Prop) (oc : OC) (hm : P.follows .mixedOrders = true)
    (hB : (planB l0.toArray fins t (Array.replicate l0.toArray.size false) && decide (fins.length + t.len = l0.toArray.size) && Region.noSelect l0.toArray && l0.toArray.all noDefer) = true)
    (h2 : planOf l0.toArray t = oc) (hE : EC S) (hS : S w.drew) (h : wpOC P l0.toArray Q oc S a) : (Code.region id l0.toArray true).wpIn (Fence.wide.inRound l) 0 P Q a w := by
  simp only [Bool.and_eq_true, decide_eq_true_eq] at hB
  obtain ⟨⟨⟨hB, hlen⟩, hsel⟩, hdf⟩ := hB
  rw [← h2] at h
  have key := wpAny_of_C _ _ _ _ w.drew hS (plan_sound (Q := Q) hsel t _ a S hE ⟨_, hS⟩ (closed_none _ _) hB h)
  rw [hlen] at key
  have key2 := wpAnyIn_of_wpAny (l := l) hdf (fun ⟨_, _, e⟩ => e) _ _ _ _ key
  exact wpIn_mono (wpIn_region_any (Q := normalOnly Q) hm key2) fun e a w hq => by cases e <;> first | exact hq | exact hq.elim
end
end Go.Proofs.YtcoelhpmkhimpaaGreatDoor
