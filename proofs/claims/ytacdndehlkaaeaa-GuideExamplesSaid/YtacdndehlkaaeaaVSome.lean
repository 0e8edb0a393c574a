/- Whether some place is in all halves of lists. -/
import Derived.Test.YtacdndehlkaaeaaVIter
import Derived.Test.YtacdndehlkaaeaaVConcat
import Derived.RangeFuncFrom
namespace Go.Proofs.Ytacdndehlkaaeaa
open Go.RowKit
set_option linter.unusedVariables false
set_option linter.unusedSimpArgs false
attribute [local go_sem] Oper.semAt_some

theorem corners_any (a : Option Addr) (len cap : Nat) (w : World) : Calls Try.prog 78 #[.slice a len cap] w fun e w' => e = .returned (.func (.func 103) #[] #[.pointer (some ⟨w.heap.size, 0, none⟩)]) ∧ w' = w.alloc (.cells #[.slice a len cap] 22) := by
  go_enter Try.func78, Try.ntmps78
  go_wp2_with fail
  go_ret
  exact ⟨rfl, rfl⟩
/-- a block of cells abides the turns of what is no cells -/
theorem heap_own {A B : World} {row : Option Nat} {b lo : Nat} {cs : Array Value} {t : TypeId} {f : Nat × Nat} (h : A.heap[b]? = some (.cells cs t f)) (hg : A.grownBy B row) (hr : ∀ r, row = some r → lo ≤ r ∧ ∃ o : Obj, A.heap[r]? = some o ∧ o.isCells = false) : B.heap[b]? = some (.cells cs t f) := by
  refine (hg.block b (heap_lt h) (fun e => ?_)).trans h
  obtain ⟨_, o, ho, hc⟩ := hr b e.symm
  rw [h] at ho
  cases ho
  cases hc
theorem kpO_t {O : Nat → Prop} {A B C : World} (h : KpO O A B) (k : KpO O B C) : KpO O A C := h.trans k
theorem kpO_b {O : Nat → Prop} {n : Nat} (W : World) (l : Nat) (o o' : Obj) (_ : n ≤ l) (hl : W.heap[l]? = some o) (ho : o.isCells = false) (_ : o.isWalk = false) : KpO O W (W.putObj l o') := by
  refine ⟨by rw [World.putObj_size]; exact Nat.le_refl _, fun b p hb hc _ => ?_⟩
  refine (World.putObj_heap_other (fun e => ?_)).trans hb
  subst e
  rw [hl] at hb
  cases hb
  rw [ho] at hc
  cases hc
theorem ext_own {β : Type} {w : World} {B : Nat} (hB : w.heap.size ≤ B) : OwnFrom B (fun (_ : β) W => Ext w W) := ownFrom_below (Nat.le_refl _) hB
/-- the deferred calls of a loop are taken up -/
theorem ext_taken {w W : World} {D : Nat} (h : Ext w W) (hD : w.heap.size ≤ D) : Ext w (W.putObj D (.deferred none)) := by
  refine ⟨h.os, h.tape, h.output, by rw [World.putObj_size]; exact h.size, fun k hk => ?_⟩
  exact (World.putObj_heap_other (by omega)).trans (h.block k hk)
theorem taken_heap {W : World} {D b : Nat} {cs : Array Value} {t : TypeId} {f : Nat × Nat} (h : W.heap[b]? = some (.cells cs t f)) (hK : W.heap[D]? = some (.deferred (some []))) : (W.putObj D (.deferred none)).heap[b]? = some (.cells cs t f) := by
  refine (World.putObj_heap_other (fun e => ?_)).trans h
  subst e
  rw [hK] at h
  cases h
set_option maxRecDepth 100000 in
set_option maxHeartbeats 4000000 in
theorem some_any (a : Option Addr) (n cap : Nat) (ls : List (List Half)) (w : World) (hl : ListsAt w a n ls) (hn : n ≤ 1000) (hN : ls.flatten.length ≤ 1000) (hh : ∀ h ∈ ls.flatten, HalfIn h) :
    Calls Try.prog 52 #[.slice a n cap] w fun e w' => e = .returned (.bool (someB ls.flatten)) ∧ Ext w w' := by
  have hx1 : Ext w (w.alloc (.cells #[.bool false] 4)) := (Ext.refl _).alloc _
  have hcon := concat_any a n cap ls (w.alloc (.cells #[.bool false] 4)) (hl.ext hx1) hn hN
  have hrb := heap_alloc_new w (.cells #[.bool false] 4)
  have hS : someB ls.flatten = !(cornersOf ls.flatten).isEmpty := rfl
  generalize ls.flatten = L at *
  have Hcon := Lib.hid hcon
  have Hx1 := Lib.hid hx1
  have Hrb := Lib.hid hrb
  have HS := Lib.hid hS
  clear hcon hx1 hrb hS
  clear hl
  refine (callsIn_wide (n := 3)).1 ?_
  refine callsIn_of_wp_marks Try.func52 rfl trivial ?_ rfl
  simp only [Try.ntmps52, List.size_toArray, List.length_cons, List.length_nil, Nat.reduceAdd, Nat.reduceSub, Array.replicate_succ, Array.replicate_zero, List.push_toArray, List.append_toArray, List.nil_append, List.cons_append]
  gi_wp2_with (first | (refine ⟨trivial, ?_⟩; gi_at_call 79; refine (callsIn_wide.2 Hcon.out).mono ?_; rintro e w2 ⟨ka, kc, rfl, hx2, hk2, hkc, hkm, hkf⟩) | (refine ⟨trivial, ?_⟩; gi_at_call 78; refine (callsIn_wide.2 (corners_any _ _ _ _)).mono ?_; rintro e w3 ⟨rfl, rfl⟩))
  have hc3 := heap_alloc_new w2 (.cells #[.slice ka L.length kc] 22)
  have hx23 : Ext w2 (w2.alloc (.cells #[.slice ka L.length kc] 22)) := (Ext.refl _).alloc _
  have hrb3 := hx23.heap (hx2.heap Hrb.out)
  have hx3 := (Hx1.out.trans hx2).trans hx23
  have hk3 := hk2.ext hx23
  obtain ⟨W0, hW0⟩ : ∃ W0, w2.alloc (.cells #[.slice ka L.length kc] 22) = W0 := ⟨_, rfl⟩
  rw [hW0] at hc3 hrb3 hx3 hk3 ⊢
  have hsz : w2.heap.size < W0.heap.size := heap_lt hc3
  have hwz : w.heap.size < W0.heap.size := heap_lt hrb3
  have hw2 : w.heap.size < w2.heap.size := by
    have := hx2.size
    simp at this
    omega
  refine wpIn_rangeFunc_ownF rfl (by omega) (gf := 103) (lb := #[.pointer (some ⟨w2.heap.size, 0, none⟩)]) rfl trivial (enters_of Try.func103 (by kernel_rfl) rfl)
    (corners_stops _ w2.heap.size ka L.length kc L (fun b => b = w.heap.size) W0 hc3 hk3 hh hN hkc hkm (by omega) (fun x hx => by have := hkf x hx; simp at this; omega) (fun b hb => by omega)) kpO_t kpO_b (Below.refl _ _) (fun _ => rfl)
    (fun pre W => pre = [] ∧ W.heap[w.heap.size]? = some (.cells #[.bool false] 4 (0, 0)) ∧ Ext w W)
    (fun c pre W => c = .ret ∧ pre ≠ [] ∧ W.heap[w.heap.size]? = some (.cells #[.bool true] 4 (0, 0)) ∧ Ext w W)
    (fun s A B row hs hg hr => ⟨hs.1, heap_own hs.2.1 hg hr, ext_own (by omega) s A B row hs.2.2 hg hr⟩)
    (fun c s A B row hs hg hr => ⟨hs.1, hs.2.1, heap_own hs.2.2.1 hg hr, ext_own (by omega) s A B row hs.2.2.2 hg hr⟩)
    ⟨rfl, hrb3, hx3⟩
    (fun x => { tmps := #[.slice a n cap, undef, .pointer (some ⟨w.heap.size, 0, none⟩), .slice a n cap, .slice ka L.length kc, .func (.func 103) #[] #[.pointer (some ⟨w2.heap.size, 0, none⟩)], x.1.val], defers := [] }) ?assign ?body ?done ?stop
  case assign =>
    intro l x W K hK
    gi_wp2
    simpa using hK
  case body =>
    rintro l pre x W ⟨rfl, hr, hx⟩ _
    obtain ⟨f0, f1⟩ := (Ext.refl W).box hr
    gi_wp2
    refine ⟨KeepsOthers.setCell _ _ _, rfl, by simp, ?_, hx.setCell (p := ⟨w.heap.size, 0, none⟩) (Nat.le_refl _) _⟩
    rw [heap_setCell_box, hr]
    rfl
  case done =>
    rintro D xs W hD hxs ⟨rfl, hr, hx⟩ hK
    obtain ⟨f0, f1⟩ := (Ext.refl W).box hr
    have hse : someB L = false := by rw [HS.out, ← hxs]; rfl
    gi_wp2
    have hK' := (KeepsOthers.setCell W ⟨w.heap.size, 0, none⟩ (.bool false)).same D _ hK rfl
    have hr' : (W.setCell ⟨w.heap.size, 0, none⟩ (.bool false)).heap[w.heap.size]? = some (.cells #[.bool false] 4 (0, 0)) := by
      rw [heap_setCell_box, hr]
      rfl
    have hx' := hx.setCell (p := ⟨w.heap.size, 0, none⟩) (Nat.le_refl _) (.bool false)
    generalize W.setCell ⟨w.heap.size, 0, none⟩ (.bool false) = W2 at *
    refine ⟨by simp, .inl ⟨_, _, rfl, run_takeDeferred hK', ?_⟩⟩
    have hc5 := ((Ext.refl _).box (taken_heap hr' hK')).1 0
    refine ⟨.bool false, ?_, by rw [hse], ext_taken hx' (by omega)⟩
    simp [results, Try.f52, go_sem, hc5]
  case stop =>
    rintro D c pre W hD hpre ⟨rfl, hne, hr, hx⟩ hK
    have hse : someB L = true := by
      rw [HS.out]
      cases hc : cornersOf L with
      | nil =>
        rw [hc] at hpre
        have := List.prefix_nil.1 hpre
        simp only [vals, List.map_eq_nil_iff] at this
        exact absurd this hne
      | cons x r => rfl
    gi_wp2
    refine ⟨by simp, .inl ⟨_, _, rfl, run_takeDeferred hK, ?_⟩⟩
    have hc5 := ((Ext.refl _).box (taken_heap hr hK)).1 0
    refine ⟨.bool true, ?_, by rw [hse], ext_taken hx (by omega)⟩
    simp [results, Try.f52, go_sem, hc5]
end Go.Proofs.Ytacdndehlkaaeaa
