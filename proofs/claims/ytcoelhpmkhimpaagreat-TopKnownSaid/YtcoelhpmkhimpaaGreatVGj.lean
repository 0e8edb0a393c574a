/- The iterator over the legs of a well: its contract. -/
import Derived.Test.YtcoelhpmkhimpaaGreatVGi
import Derived.Test.YtcoelhpmkhimpaaGreatVGe
namespace Go.Proofs.YtcoelhpmkhimpaaGreat
open Go.RowKit
set_option linter.unusedVariables false
set_option linter.unusedSimpArgs false
attribute [local go_sem] Oper.semAt_some
/-- the legs' cells; what the slices of gates hold is left open -/
def LegCells (w : World) (a : Option Addr) (n : Nat) (l : List Leg) : Prop :=
  l.length = n ∧ (0 < n → ∃ b off, a = some ⟨b, off, none⟩ ∧ ∀ k f, l[k]? = some f → ∃ ka kn kc, Cells w b (off + k * 5) [.int .i64 f.frm, .int .i64 f.to, .int .i64 f.long.lo, .int .i64 f.long.hi, .slice ka kn kc])
theorem LegsAt.cells {w : World} {a : Option Addr} {n : Nat} {l : List Leg} (h : LegsAt w a n l) : LegCells w a n l :=
  ⟨h.1, fun hn => let ⟨b, off, ha, hc⟩ := h.2 hn; ⟨b, off, ha, fun k f hf => let ⟨ka, kn, kc, h1, _⟩ := hc k f hf; ⟨ka, kn, kc, h1⟩⟩⟩
theorem LegCells.ext {w w' : World} {a : Option Addr} {n : Nat} {l : List Leg} (h : LegCells w a n l) (e : Ext w w') : LegCells w' a n l :=
  ⟨h.1, fun hn => let ⟨b, off, ha, hc⟩ := h.2 hn; ⟨b, off, ha, fun k f hf => let ⟨ka, kn, kc, h1⟩ := hc k f hf; ⟨ka, kn, kc, h1.ext e⟩⟩⟩
theorem LegCells.kpO {O : Nat → Prop} {A B : World} {a : Option Addr} {n : Nat} {l : List Leg} (h : LegCells A a n l) (k : KpO O A B) (hn : ∀ x, a = some x → ¬O x.block) : LegCells B a n l :=
  ⟨h.1, fun h0 => let ⟨b, off, ha, hc⟩ := h.2 h0; ⟨b, off, ha, fun i f hf => let ⟨ka, kn, kc, h1⟩ := hc i f hf; ⟨ka, kn, kc, fun j v hv => k.cell (h1 j v hv) (show ¬O b from hn _ ha)⟩⟩⟩
theorem LegCells.get {w : World} {a : Option Addr} {n : Nat} {l : List Leg} (h : LegCells w a n l) (k : Nat) (hk : k < n) :
    ∃ b off x ka kn kc, a = some ⟨b, off, none⟩ ∧ l[k]? = some x ∧ b < w.heap.size ∧ w.cell? ⟨b, off + k * 5, none⟩ = some (.int .i64 x.frm) ∧ w.cell? ⟨b, off + k * 5 + 1, none⟩ = some (.int .i64 x.to) ∧ w.cell? ⟨b, off + k * 5 + 2, none⟩ = some (.int .i64 x.long.lo) ∧ w.cell? ⟨b, off + k * 5 + 3, none⟩ = some (.int .i64 x.long.hi)
      ∧ w.cell? ⟨b, off + k * 5 + 4, none⟩ = some (.slice ka kn kc) := by
  obtain ⟨hl, h⟩ := h
  obtain ⟨b, off, ha, hc⟩ := h (by omega)
  obtain ⟨x, hx⟩ : ∃ x, l[k]? = some x := ⟨l[k], by simp⟩
  obtain ⟨ka, kn, kc, h1⟩ := hc k x hx
  have h0 := h1 0 _ rfl
  simp only [Nat.add_zero] at h0
  exact ⟨b, off, x, ka, kn, kc, ha, hx, block_lt_of_cell h0, h0, h1 1 _ rfl, h1 2 _ rfl, h1 3 _ rfl, h1 4 _ rfl⟩
structure Lead where
  i : Nat
  o : Int
def Lead.enc (x : Lead) : Array Value := #[.int .i64 x.i, .int .i64 x.o]
def leadsFrom (w : Int) : Nat → List Leg → List Lead
  | _, [] => []
  | i, x :: l => if w = x.frm then ⟨i, x.to⟩ :: leadsFrom w (i + 1) l else if w = x.to then ⟨i, x.frm⟩ :: leadsFrom w (i + 1) l else leadsFrom w (i + 1) l
theorem leads_drop {w : Int} {l : List Leg} {k : Nat} {x : Leg} (h : l[k]? = some x) : leadsFrom w k (l.drop k) = if w = x.frm then ⟨k, x.to⟩ :: leadsFrom w (k + 1) (l.drop (k + 1)) else if w = x.to then ⟨k, x.frm⟩ :: leadsFrom w (k + 1) (l.drop (k + 1)) else leadsFrom w (k + 1) (l.drop (k + 1)) := by
  have hk := (List.getElem?_eq_some_iff.1 h).1
  have e : l.drop k = x :: l.drop (k + 1) := by
    rw [List.drop_eq_getElem_cons hk]
    congr 1
    have := List.getElem?_eq_getElem hk
    rw [h] at this
    exact (Option.some.inj this).symm
  rw [e]
  rfl
end Go.Proofs.YtcoelhpmkhimpaaGreat

/- Contract of layer 3: the other end of a leg. -/
namespace Go.Proofs.YtcoelhpmkhimpaaGreat
open Go.RowKit
set_option linter.unusedVariables false
set_option linter.unusedSimpArgs false
attribute [local go_sem] Oper.semAt_some
theorem leads_mem {w : Int} {x : Lead} : ∀ {l : List Leg} {i : Nat}, x ∈ leadsFrom w i l → ∃ f k, x.i = i + k ∧ l[k]? = some f ∧ (if w = f.frm then x.o = f.to else w = f.to ∧ x.o = f.frm)
  | [], i, h => by cases h
  | f :: l, i, h => by
    have tl : x ∈ leadsFrom w (i + 1) l → ∃ g k, x.i = i + k ∧ (f :: l)[k]? = some g ∧ (if w = g.frm then x.o = g.to else w = g.to ∧ x.o = g.frm) := fun h => by
      obtain ⟨g, k, h1, h2, h3⟩ := leads_mem h
      exact ⟨g, k + 1, by omega, by simpa using h2, h3⟩
    unfold leadsFrom at h
    by_cases h1 : w = f.frm
    · rw [if_pos h1] at h
      rcases List.mem_cons.1 h with rfl | h
      · exact ⟨f, 0, rfl, rfl, by rw [if_pos h1]⟩
      · exact tl h
    · rw [if_neg h1] at h
      by_cases h2 : w = f.to
      · rw [if_pos h2] at h
        rcases List.mem_cons.1 h with rfl | h
        · exact ⟨f, 0, rfl, rfl, by rw [if_neg h1]; exact ⟨h2, rfl⟩⟩
        · exact tl h
      · rw [if_neg h2] at h
        exact tl h
theorem leads_has {w : Int} {f : Leg} : ∀ {l : List Leg} {i k : Nat}, l[k]? = some f → (w = f.frm ∨ w = f.to) → ∃ x ∈ leadsFrom w i l, x.i = i + k
  | [], i, k, h, _ => by simp at h
  | g :: l, i, 0, h, hw => by
    simp only [List.getElem?_cons_zero, Option.some.injEq] at h
    subst h
    unfold leadsFrom
    by_cases h1 : w = g.frm
    · rw [if_pos h1]
      exact ⟨_, List.mem_cons_self .., rfl⟩
    · rw [if_neg h1, if_pos (hw.resolve_left h1)]
      exact ⟨_, List.mem_cons_self .., rfl⟩
  | g :: l, i, k + 1, h, hw => by
    obtain ⟨x, hx, hi⟩ := leads_has (i := i + 1) (show l[k]? = some f by simpa using h) hw
    refine ⟨x, ?_, by omega⟩
    unfold leadsFrom
    split
    · exact List.mem_cons_of_mem _ hx
    · split
      · exact List.mem_cons_of_mem _ hx
      · exact hx
theorem end_found {l : Land} {w g : Int} {x : Lead} (h : x ∈ leadsFrom w 0 l.legs) (hg : (x.i : Int) = g) : endOf l g w = x.o := by
  obtain ⟨f, k, h1, h2, h3⟩ := leads_mem h
  have hk := (List.getElem?_eq_some_iff.1 h2).1
  have e : l.legs.getD g.toNat zleg = f := by
    rw [List.getD_eq_getElem?_getD, show g.toNat = k by omega, h2]
    rfl
  unfold endOf
  rw [if_pos (by omega), e]
  by_cases q : w = f.frm
  · rw [if_pos q] at h3 ⊢
    exact h3.symm
  · rw [if_neg q] at h3 ⊢
    rw [if_pos h3.1]
    exact h3.2.symm
theorem end_none {l : Land} {w g : Int} (h : ∀ x ∈ leadsFrom w 0 l.legs, (x.i : Int) ≠ g) : endOf l g w = -1 := by
  unfold endOf
  by_cases hg : 0 ≤ g ∧ g < l.legs.length
  · rw [if_pos hg]
    have e : l.legs[g.toNat]? = some (l.legs.getD g.toNat zleg) := by
      rw [List.getD_eq_getElem?_getD, List.getElem?_eq_getElem (show g.toNat < l.legs.length by omega)]
      rfl
    have no : ¬(w = (l.legs.getD g.toNat zleg).frm ∨ w = (l.legs.getD g.toNat zleg).to) := fun hw => by
      obtain ⟨x, hx, hi⟩ := leads_has (i := 0) e hw
      exact h x hx (by omega)
    rw [if_neg (fun q => no (.inl q)), if_neg (fun q => no (.inr q))]
  · rw [if_neg hg]
structure EndI (w : World) (g : Int) (pre : List Lead) (V : World) : Prop where
  ext : Ext w V
  lg : V.heap[w.heap.size + 1]? = some (.cells #[.int .i64 g] 3 (0, 0))
  r : V.heap[w.heap.size + 1 + 1]? = some (.cells #[.int .i64 0] 3 (0, 0))
  ne : ∀ x ∈ pre, (x.i : Int) ≠ g
def EndX (w : World) (g : Int) (c : Code) (pre : List Lead) (V : World) : Prop := ∃ p x, pre = p ++ [x] ∧ (x.i : Int) = g ∧ c = .ret ∧ Ext w V ∧ V.heap[w.heap.size + 1 + 1]? = some (.cells #[.int .i64 x.o] 3 (0, 0))
theorem EndI.f {w : World} {g : Int} {lo : Nat} {pre : List Lead} {A B : World} (h : EndI w g pre A) (h2 : w.heap.size ≤ lo) (k : ButF (fun _ => False) lo A B) : EndI w g pre B :=
  ⟨ButF.ext h.ext k (fun b hb => hb.elim) h2, k.cells h.lg id, k.cells h.r id, h.ne⟩
theorem EndX.f {w : World} {g : Int} {lo : Nat} {c : Code} {pre : List Lead} {A B : World} (h : EndX w g c pre A) (h2 : w.heap.size ≤ lo) (k : ButF (fun _ => False) lo A B) : EndX w g c pre B := by
  obtain ⟨p, x, e1, e2, e3, h, r⟩ := h
  exact ⟨p, x, e1, e2, e3, ButF.ext h k (fun b hb => hb.elim) h2, k.cells r id⟩
theorem kpO_set' {O : Nat → Prop} (W : World) {b i : Nat} (v : Value) (hO : O b) : KpO O W (W.setCell ⟨b, i, none⟩ v) :=
  ⟨by simp [World.setCell], fun k o hk _ hn => (Below.heap_setCell _ _ _ _ (fun e => hn (by simp only at e; rw [e]; exact hO))).trans hk⟩
end Go.Proofs.YtcoelhpmkhimpaaGreat

/- Walk, plain: how the ends and the stops come about, leg by leg; and what an append leaves as it is. -/
namespace Go.Proofs.YtcoelhpmkhimpaaGreat
open Go.RowKit
set_option linter.unusedVariables false
set_option linter.unusedSimpArgs false
theorem drop_at {α : Type} {l : List α} {k : Nat} {x : α} (h : l[k]? = some x) : l.drop k = x :: l.drop (k + 1) := by
  have hk := (List.getElem?_eq_some_iff.1 h).1
  rw [List.drop_eq_getElem_cons hk]
  congr 1
  have := List.getElem?_eq_getElem hk
  rw [h] at this
  exact (Option.some.inj this).symm
def addE {α : Type} (k : Nat) (es : List α) : Except Nat (List α) → Except Nat (List α)
  | .error j => .error (k + j)
  | .ok fs => .ok (es ++ fs)
theorem addE_zero {α : Type} (x : Except Nat (List α)) : addE 0 [] x = x := by
  cases x
  · simp [addE]
  · rfl
theorem addE_end {α : Type} (k : Nat) (es : List α) : addE k es (.ok []) = .ok es := by simp [addE]
theorem ends_step {l : Land} {gs es : List Int} {k : Nat} {g w : Int} (h : gs[k]? = some g) :
    addE k es (endsOf l w (gs.drop k)) = if endOf l g w < 0 then .error k else addE (k + 1) (es ++ [endOf l g w]) (endsOf l (endOf l g w) (gs.drop (k + 1))) := by
  rw [drop_at h]
  conv => lhs; unfold endsOf
  by_cases h0 : endOf l g w < 0
  · rw [if_pos h0, if_pos h0]
    rfl
  · rw [if_neg h0, if_neg h0]
    cases endsOf l (endOf l g w) (gs.drop (k + 1)) with
    | error j => simp only [addE]; congr 1; omega
    | ok fs => simp [addE]
theorem stops_step {l : Land} {p a : Span} {gs es : List Int} {ss : List Stop} {k : Nat} {g e : Int} (h : gs[k]? = some g) (he : es[k]? = some e) :
    addE k ss (stopsOf l p a (gs.drop k) (es.drop k)) = if 100000 < (arriveOf (legAt l g) p a).hi then .error k else addE (k + 1) (ss ++ [⟨g, e, leaveOf (legAt l g) p a, arriveOf (legAt l g) p a⟩]) (stopsOf l p (arriveOf (legAt l g) p a) (gs.drop (k + 1)) (es.drop (k + 1))) := by
  rw [drop_at h, drop_at he]
  conv => lhs; unfold stopsOf
  by_cases h0 : 100000 < (arriveOf (legAt l g) p a).hi
  · rw [if_pos h0, if_pos h0]
    rfl
  · rw [if_neg h0, if_neg h0]
    cases stopsOf l p (arriveOf (legAt l g) p a) (gs.drop (k + 1)) (es.drop (k + 1)) with
    | error j => simp only [addE]; congr 1; omega
    | ok fs => simp [addE]
theorem ends_legs {l : Land} (hl : l.legs.all (legOk l.wells.length) = true) : ∀ {gs : List Int} {w : Int} {es : List Int}, endsOf l w gs = .ok es → es.length = gs.length ∧ ∀ g ∈ gs, (0 ≤ g ∧ g < l.legs.length) ∧ LegOk l.wells.length (legAt l g)
  | [], w, es, h => by
    cases h
    exact ⟨rfl, by simp⟩
  | g :: gs, w, es, h => by
    unfold endsOf at h
    split at h
    · cases h
    · rename_i hw
      obtain ⟨hg, hx, _⟩ := end_is hl hw
      split at h
      · cases h
      · rename_i es' he'
        cases h
        obtain ⟨h1, h2⟩ := ends_legs hl he'
        refine ⟨by simp [h1], fun g' hg' => ?_⟩
        rcases List.mem_cons.1 hg' with rfl | hg'
        · exact ⟨hg, hx⟩
        · exact h2 g' hg'
def walkOf (l : Land) (p : Span) (from' day : Int) (gs : List Int) : List Stop × Int × Int :=
  if openErr l p ≠ 0 then ([], 0, openErr l p) else if (inB from' 0 (l.wells.length - 1) && inB day 0 100000) = false then ([], 0, 2) else if 24 < gs.length then ([], 0, 4) else
    match endsOf l from' gs with
    | .error k => ([], k, 8)
    | .ok es => match stopsOf l p ⟨day, day⟩ gs es with
      | .error k => ([], k, 34)
      | .ok ss => (ss, 0, 0)
theorem but_grown {W W' : World} {v : Value} (h : W.grownBy W' v.ownBlock) : But (fun b => v.ownBlock = some b) W W' := by
  obtain ⟨h1, h2, h3, h4, h5⟩ := h
  exact ⟨h1, h2, h3, h4, fun b o hb hn => (h5 b (heap_lt hb) (fun e => hn e.symm)).trans hb⟩
theorem But.box {O : Nat → Prop} {w w' : World} (h : But O w w') {b : Nat} {cs : Array Value} {t : TypeId} (hb : w.heap[b]? = some (.cells cs t (0, 0))) (hn : ¬O b) : (∀ j, w'.cell? ⟨b, j, none⟩ = cs[j]?) ∧ (∀ j, w'.frozen? ⟨b, j, none⟩ = false) := (Ext.refl w').box (h.block _ _ hb hn)
/-- what is turned lies behind A -/
theorem But.behind {O P : Nat → Prop} {A B C : World} (h : But O A B) (k : But P B C) (hP : ∀ b, P b → A.heap.size ≤ b) : But O A C :=
  ⟨k.os.trans h.os, k.tape.trans h.tape, k.output.trans h.output, Nat.le_trans h.size k.size, fun b o hb hn => k.block b o (h.block b o hb hn) (fun e => by have := hP b e; have := heap_lt hb; omega)⟩
theorem SlAt.but {O : Nat → Prop} {A B : World} {sz : Nat} {a : Option Addr} {n : Nat} {f : Nat → List Value} (h : SlAt A sz a n f) (k : But O A B) (hn : ∀ x, a = some x → ¬O x.block) : SlAt B sz a n f := fun h0 => by
  obtain ⟨b, off, ha, hc⟩ := h h0
  refine ⟨b, off, ha, fun i hi j v hv => ?_⟩
  have hcell := hc i hi j v hv
  obtain ⟨o, ho, _⟩ := cells_of_cell hcell
  exact (World.cell?_of_block ((k.block _ o ho (show ¬O b from hn _ ha)).trans ho.symm)).trans hcell
def stopRows (l : List Stop) : List (List Value) := l.map Stop.cells
theorem stopRows_row (l : List Stop) : ∀ r ∈ stopRows l, r.length = 6 ∧ ∀ u ∈ r, u.oneCell' = true := by
  intro r hr
  obtain ⟨s, _, rfl⟩ := List.mem_map.1 hr
  refine ⟨rfl, fun u hu => ?_⟩
  simp only [Stop.cells, List.mem_cons, List.not_mem_nil, or_false] at hu
  rcases hu with rfl | rfl | rfl | rfl | rfl | rfl <;> rfl
theorem stopRows_append (l m : List Stop) : stopRows (l ++ m) = stopRows l ++ stopRows m := by simp [stopRows]
theorem stops_of_owns {w : World} {B : Nat} {e : TypeId} {v : Value} {l : List Stop} (h : Owns w B e 6 v (stopRows l)) : ∃ a c, v = .slice a l.length c ∧ From B a ∧ l.length ≤ c ∧ c ≤ maxLen ∧ StopsAt w a l.length l := by
  obtain ⟨a, c, hv, h0, h1, h2, h3⟩ := h.slAt
  have e : (stopRows l).length = l.length := by simp [stopRows]
  rw [e] at hv h1 h3
  refine ⟨a, c, hv, h0, h1, h2, rfl, h3.congr fun i hi => ?_⟩
  simp [stopRows, List.getD, List.getElem?_map, List.getElem?_eq_getElem hi]
theorem info3w : (Tryz.prog.info? 3).map (fun i => (i.zero, i.size, i.bytes)) = some (some (.int .i64 0), 1, 8) := by kernel_rfl
theorem elem34 : Elem Tryz.prog 160 3 1 := by
  obtain ⟨i, h1, h2, h3, h4⟩ := info_parts info3w
  exact ⟨Tryz.underlying160, ⟨i, _, _, h1, h2, h3, h4, rfl, by decide⟩, by decide⟩
end Go.Proofs.YtcoelhpmkhimpaaGreat
