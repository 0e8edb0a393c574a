/- A function that leaves with several marks of loops over functions among its deferred calls. No function of the program is named here. -/
import Derived.Test.YtcoelhpmkhimpaaLastsP
namespace Go.Proofs.Ytcoelhpmkhimpaa
open Go.RowKit
set_option linter.unusedVariables false
/-- marks, each one's block being a new one -/
def Hung (lo : Nat) : List Deferred → World → Prop
  | [], _ => True
  | d :: ds, w => (∃ D, d = { target := .collected D, args := #[] } ∧ lo ≤ D ∧ w.heap[D]? = some (.deferred (some [])) ∧ ∀ d' ∈ ds, d' ≠ d) ∧ Hung lo ds w
theorem Hung.keep {lo : Nat} {w w' : World} : ∀ {ds : List Deferred}, Hung lo ds w → (∀ D, lo ≤ D → w.heap[D]? = some (.deferred (some [])) → ({ target := .collected D, args := #[] } : Deferred) ∈ ds → w'.heap[D]? = some (.deferred (some []))) → Hung lo ds w'
  | [], _, _ => trivial
  | d :: ds, h, hk => by
    obtain ⟨⟨D, h1, h2, h3, h4⟩, h5⟩ := h
    exact ⟨⟨D, h1, h2, hk D h2 h3 (by rw [h1]; exact List.mem_cons_self ..), h4⟩, h5.keep fun D' a b c => hk D' a b (List.mem_cons_of_mem _ c)⟩
theorem Hung.lt {lo : Nat} {w : World} : ∀ {ds : List Deferred}, Hung lo ds w → ∀ D, ({ target := .collected D, args := #[] } : Deferred) ∈ ds → D < w.heap.size
  | [], _, _, h => by cases h
  | d :: ds, h, D, hm => by
    obtain ⟨⟨E, h1, h2, h3, h4⟩, h5⟩ := h
    rcases List.mem_cons.1 hm with e | e
    · rw [h1] at e
      have : D = E := by
        injection e with e1 e2
        injection e1
      rw [this]
      exact heap_lt h3
    · exact h5.lt D e
theorem Hung.ext {lo : Nat} {w w' : World} {ds : List Deferred} (h : Hung lo ds w) (e : Ext w w') : Hung lo ds w' := h.keep fun D _ h3 _ => e.heap h3
theorem Hung.others {lo : Nat} {w w' : World} {ds : List Deferred} (h : Hung lo ds w) (e : KeepsOthers w w') : Hung lo ds w' := h.keep fun D _ h3 _ => e.same D _ h3 rfl
theorem Hung.but {lo : Nat} {O : Nat → Prop} {w w' : World} {ds : List Deferred} (h : Hung lo ds w) (e : But O w w') (hO : ∀ b, O b → ∃ cs t f, w.heap[b]? = some (.cells cs t f)) : Hung lo ds w' := h.keep fun D _ h3 _ => e.block D _ h3 fun hb => by
  obtain ⟨cs, t, f, h4⟩ := hO D hb
  rw [h3] at h4
  cases h4
/-- a new mark -/
theorem Hung.more {lo : Nat} {v w : World} {ds : List Deferred} {D : Nat} (h0 : Hung lo ds v) (h : Hung lo ds w) (hD : v.heap.size ≤ D) (hlo : lo ≤ D) (hd : w.heap[D]? = some (.deferred (some []))) : Hung lo ({ target := .collected D, args := #[] } :: ds) w :=
  ⟨⟨D, rfl, hlo, hd, fun d' hd' e => by
    subst e
    have := h0.lt D hd'
    omega⟩, h⟩
/-- the marks' blocks are shut -/
structure Took (lo : Nat) (w w' : World) : Prop where
  os : w'.os = w.os
  tape : w'.tape = w.tape
  output : w'.output = w.output
  size : w'.heap.size = w.heap.size
  block : ∀ k, k < lo → w'.heap[k]? = w.heap[k]?
  cells : ∀ (k : Nat) (cs : Array Value) (t : TypeId) (f : Nat × Nat), w.heap[k]? = some (.cells cs t f) → w'.heap[k]? = some (.cells cs t f)
  map : ∀ (k : Nat) (es : Array MapEntry) (c : Nat), w.heap[k]? = some (.map es c) → w'.heap[k]? = some (.map es c)
theorem Took.refl (lo : Nat) (w : World) : Took lo w w := ⟨rfl, rfl, rfl, rfl, fun _ _ => rfl, fun _ _ _ _ h => h, fun _ _ _ h => h⟩
theorem Took.put {lo D : Nat} {v w : World} (h : Took lo v w) (hD : lo ≤ D) (hd : w.heap[D]? = some (.deferred (some []))) : Took lo v (w.putObj D (.deferred none)) :=
  ⟨h.os, h.tape, h.output, by rw [World.putObj_size]; exact h.size, fun k hk => (World.putObj_heap_other (by omega)).trans (h.block k hk),
    fun k cs t f hk => (World.putObj_heap_other (fun e => by subst e; have := h.cells _ _ _ _ hk; rw [hd] at this; cases this)).trans (h.cells _ _ _ _ hk),
    fun k es c hk => (World.putObj_heap_other (fun e => by subst e; have := h.map _ _ _ hk; rw [hd] at this; cases this)).trans (h.map _ _ _ hk)⟩
theorem Took.ext {lo : Nat} {w v w' : World} (h : Took lo v w') (e : Ext w v) (hlo : w.heap.size ≤ lo) : Ext w w' := ⟨h.os.trans e.os, h.tape.trans e.tape, h.output.trans e.output, by rw [h.size]; exact e.size, fun k hk => (h.block k (by omega)).trans (e.block k hk)⟩
theorem leaves_all {F : Fence} {n : Nat} {P : Program} {fn : Func} {R : Ending → World → Prop} {tmps : Array Value} {lo : Nat} {v : World} : ∀ {ds : List Deferred} {w : World}, Hung lo ds w → Took lo v w → (∀ w', Took lo v w' → ∃ x, (results fn tmps).run P w' = .ok x w' ∧ R (.returned x) w') → LeavesInM F n P fn tmps R ds .returning w
  | [], w, _, ht, h => by
    obtain ⟨x, h1, h2⟩ := h w ht
    exact ⟨x, h1, h2⟩
  | d :: ds, w, hh, ht, h => by
    obtain ⟨⟨D, rfl, h2, h3, h4⟩, h5⟩ := hh
    refine ⟨by simp, .inl ⟨D, _, rfl, run_takeDeferred h3, leaves_all (h5.keep fun D' a b c => ?_) (ht.put h2 h3) h⟩⟩
    refine (World.putObj_heap_other (fun e => ?_)).trans b
    subst e
    exact h4 _ c rfl
theorem marks_rets {F : Fence} {n : Nat} {P : Program} {fn : Func} {R : Ending → World → Prop} {tmps : Array Value} {lo : Nat} {ds : List Deferred} {w : World} (hh : Hung lo ds w) (h : ∀ w', Took lo w w' → ∃ x, (results fn tmps).run P w' = .ok x w' ∧ R (.returned x) w') :
    bodyPostM F n P fn R .ret { tmps := tmps, defers := ds } w := leaves_all hh (Took.refl _ _) h
end Go.Proofs.Ytcoelhpmkhimpaa
