/- Walk, plain: how the ends and the stops come about, leg by leg; and what an append leaves as it is. -/
import Derived.Test.YtcoelhpmkhimpaaGreatDoorEndC
namespace Go.Proofs.YtcoelhpmkhimpaaGreatDoor
open Go.RowKit
set_option linter.unusedVariables false
set_option linter.unusedSimpArgs false
theorem drop_at {α : Type} {l : List α} {k : Nat} {x : α} (h : l[k]? = some x) : l.drop k = x :: l.drop (k + 1) := by
  have hk := (List.getElem?_eq_some_iff.1 h).1
  rw [List.drop_eq_getElem_cons hk]
  congr 1
  have := List.getElem?_eq_getElem hk
  rw [h] at this
  exact (Option.some.inj this).symm
def addE {α : Type} (k : Nat) (es : List α) : Except Nat (List α) → Except Nat (List α)
  | .error j => .error (k + j)
  | .ok fs => .ok (es ++ fs)
theorem addE_zero {α : Type} (x : Except Nat (List α)) : addE 0 [] x = x := by
  cases x
  · simp [addE]
  · rfl
theorem addE_end {α : Type} (k : Nat) (es : List α) : addE k es (.ok []) = .ok es := by simp [addE]
theorem ends_step {l : Land} {gs es : List Int} {k : Nat} {g w : Int} (h : gs[k]? = some g) :
    addE k es (endsOf l w (gs.drop k)) = if endOf l g w < 0 then .error k else addE (k + 1) (es ++ [endOf l g w]) (endsOf l (endOf l g w) (gs.drop (k + 1))) := by
  rw [drop_at h]
  conv => lhs; unfold endsOf
  by_cases h0 : endOf l g w < 0
  · rw [if_pos h0, if_pos h0]
    rfl
  · rw [if_neg h0, if_neg h0]
    cases endsOf l (endOf l g w) (gs.drop (k + 1)) with
    | error j => simp only [addE]; congr 1; omega
    | ok fs => simp [addE]
theorem stops_step {l : Land} {p a : Span} {gs es : List Int} {ss : List Stop} {k : Nat} {g e : Int} (h : gs[k]? = some g) (he : es[k]? = some e) :
    addE k ss (stopsOf l p a (gs.drop k) (es.drop k)) = if 100000 < (arriveOf (legAt l g) p a).hi then .error k else addE (k + 1) (ss ++ [⟨g, e, leaveOf (legAt l g) p a, arriveOf (legAt l g) p a⟩]) (stopsOf l p (arriveOf (legAt l g) p a) (gs.drop (k + 1)) (es.drop (k + 1))) := by
  rw [drop_at h, drop_at he]
  conv => lhs; unfold stopsOf
  by_cases h0 : 100000 < (arriveOf (legAt l g) p a).hi
  · rw [if_pos h0, if_pos h0]
    rfl
  · rw [if_neg h0, if_neg h0]
    cases stopsOf l p (arriveOf (legAt l g) p a) (gs.drop (k + 1)) (es.drop (k + 1)) with
    | error j => simp only [addE]; congr 1; omega
    | ok fs => simp [addE]
theorem ends_legs {l : Land} (hl : l.legs.all (legOk l.wells.length) = true) : ∀ {gs : List Int} {w : Int} {es : List Int}, endsOf l w gs = .ok es → es.length = gs.length ∧ ∀ g ∈ gs, (0 ≤ g ∧ g < l.legs.length) ∧ LegOk l.wells.length (legAt l g)
  | [], w, es, h => by
    cases h
    exact ⟨rfl, by simp⟩
  | g :: gs, w, es, h => by
    unfold endsOf at h
    split at h
    · cases h
    · rename_i hw
      obtain ⟨hg, hx, _⟩ := end_is hl hw
      split at h
      · cases h
      · rename_i es' he'
        cases h
        obtain ⟨h1, h2⟩ := ends_legs hl he'
        refine ⟨by simp [h1], fun g' hg' => ?_⟩
        rcases List.mem_cons.1 hg' with rfl | hg'
        · exact ⟨hg, hx⟩
        · exact h2 g' hg'
def walkOf (l : Land) (p : Span) (from' day : Int) (gs : List Int) : List Stop × Int × Int :=
  if openErr l p ≠ 0 then ([], 0, openErr l p) else if (inB from' 0 (l.wells.length - 1) && inB day 0 100000) = false then ([], 0, 2) else if 24 < gs.length then ([], 0, 4) else
    match endsOf l from' gs with
    | .error k => ([], k, 8)
    | .ok es => match stopsOf l p ⟨day, day⟩ gs es with
      | .error k => ([], k, 34)
      | .ok ss => (ss, 0, 0)
theorem but_grown {W W' : World} {v : Value} (h : W.grownBy W' v.ownBlock) : But (fun b => v.ownBlock = some b) W W' := by
  obtain ⟨h1, h2, h3, h4, h5⟩ := h
  exact ⟨h1, h2, h3, h4, fun b o hb hn => (h5 b (heap_lt hb) (fun e => hn e.symm)).trans hb⟩
theorem But.box {O : Nat → Prop} {w w' : World} (h : But O w w') {b : Nat} {cs : Array Value} {t : TypeId} (hb : w.heap[b]? = some (.cells cs t (0, 0))) (hn : ¬O b) : (∀ j, w'.cell? ⟨b, j, none⟩ = cs[j]?) ∧ (∀ j, w'.frozen? ⟨b, j, none⟩ = false) := (Ext.refl w').box (h.block _ _ hb hn)
/-- what is turned lies behind A -/
theorem But.behind {O P : Nat → Prop} {A B C : World} (h : But O A B) (k : But P B C) (hP : ∀ b, P b → A.heap.size ≤ b) : But O A C :=
  ⟨k.os.trans h.os, k.tape.trans h.tape, k.output.trans h.output, Nat.le_trans h.size k.size, fun b o hb hn => k.block b o (h.block b o hb hn) (fun e => by have := hP b e; have := heap_lt hb; omega)⟩
theorem SlAt.but {O : Nat → Prop} {A B : World} {sz : Nat} {a : Option Addr} {n : Nat} {f : Nat → List Value} (h : SlAt A sz a n f) (k : But O A B) (hn : ∀ x, a = some x → ¬O x.block) : SlAt B sz a n f := fun h0 => by
  obtain ⟨b, off, ha, hc⟩ := h h0
  refine ⟨b, off, ha, fun i hi j v hv => ?_⟩
  have hcell := hc i hi j v hv
  obtain ⟨o, ho, _⟩ := cells_of_cell hcell
  exact (World.cell?_of_block ((k.block _ o ho (show ¬O b from hn _ ha)).trans ho.symm)).trans hcell
def stopRows (l : List Stop) : List (List Value) := l.map Stop.cells
theorem stopRows_row (l : List Stop) : ∀ r ∈ stopRows l, r.length = 6 ∧ ∀ u ∈ r, u.oneCell' = true := by
  intro r hr
  obtain ⟨s, _, rfl⟩ := List.mem_map.1 hr
  refine ⟨rfl, fun u hu => ?_⟩
  simp only [Stop.cells, List.mem_cons, List.not_mem_nil, or_false] at hu
  rcases hu with rfl | rfl | rfl | rfl | rfl | rfl <;> rfl
theorem stopRows_append (l m : List Stop) : stopRows (l ++ m) = stopRows l ++ stopRows m := by simp [stopRows]
theorem stops_of_owns {w : World} {B : Nat} {e : TypeId} {v : Value} {l : List Stop} (h : Owns w B e 6 v (stopRows l)) : ∃ a c, v = .slice a l.length c ∧ From B a ∧ l.length ≤ c ∧ c ≤ maxLen ∧ StopsAt w a l.length l := by
  obtain ⟨a, c, hv, h0, h1, h2, h3⟩ := h.slAt
  have e : (stopRows l).length = l.length := by simp [stopRows]
  rw [e] at hv h1 h3
  refine ⟨a, c, hv, h0, h1, h2, rfl, h3.congr fun i hi => ?_⟩
  simp [stopRows, List.getD, List.getElem?_map, List.getElem?_eq_getElem hi]
theorem info3w : (Tryz.prog.info? 3).map (fun i => (i.zero, i.size, i.bytes)) = some (some (.int .i64 0), 1, 8) := by kernel_rfl
theorem elem34 : Elem Tryz.prog 29 3 1 := by
  obtain ⟨i, h1, h2, h3, h4⟩ := info_parts info3w
  exact ⟨Tryz.underlying29, ⟨i, _, _, h1, h2, h3, h4, rfl, by decide⟩, by decide⟩
end Go.Proofs.YtcoelhpmkhimpaaGreatDoor
