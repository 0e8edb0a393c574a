/- Contract of layer 3: the other end of a leg. -/
import Derived.Test.YtcoelhpmkhimpaaLeadsIt
import Derived.Test.YtcoelhpmkhimpaaLastsP
namespace Go.Proofs.Ytcoelhpmkhimpaa
open Go.RowKit
set_option linter.unusedVariables false
set_option linter.unusedSimpArgs false
attribute [local go_sem] Oper.semAt_some
theorem leads_mem {w : Int} {x : Lead} : ∀ {l : List Leg} {i : Nat}, x ∈ leadsFrom w i l → ∃ f k, x.i = i + k ∧ l[k]? = some f ∧ (if w = f.frm then x.o = f.to else w = f.to ∧ x.o = f.frm)
  | [], i, h => by cases h
  | f :: l, i, h => by
    have tl : x ∈ leadsFrom w (i + 1) l → ∃ g k, x.i = i + k ∧ (f :: l)[k]? = some g ∧ (if w = g.frm then x.o = g.to else w = g.to ∧ x.o = g.frm) := fun h => by
      obtain ⟨g, k, h1, h2, h3⟩ := leads_mem h
      exact ⟨g, k + 1, by omega, by simpa using h2, h3⟩
    unfold leadsFrom at h
    by_cases h1 : w = f.frm
    · rw [if_pos h1] at h
      rcases List.mem_cons.1 h with rfl | h
      · exact ⟨f, 0, rfl, rfl, by rw [if_pos h1]⟩
      · exact tl h
    · rw [if_neg h1] at h
      by_cases h2 : w = f.to
      · rw [if_pos h2] at h
        rcases List.mem_cons.1 h with rfl | h
        · exact ⟨f, 0, rfl, rfl, by rw [if_neg h1]; exact ⟨h2, rfl⟩⟩
        · exact tl h
      · rw [if_neg h2] at h
        exact tl h
theorem leads_has {w : Int} {f : Leg} : ∀ {l : List Leg} {i k : Nat}, l[k]? = some f → (w = f.frm ∨ w = f.to) → ∃ x ∈ leadsFrom w i l, x.i = i + k
  | [], i, k, h, _ => by simp at h
  | g :: l, i, 0, h, hw => by
    simp only [List.getElem?_cons_zero, Option.some.injEq] at h
    subst h
    unfold leadsFrom
    by_cases h1 : w = g.frm
    · rw [if_pos h1]
      exact ⟨_, List.mem_cons_self .., rfl⟩
    · rw [if_neg h1, if_pos (hw.resolve_left h1)]
      exact ⟨_, List.mem_cons_self .., rfl⟩
  | g :: l, i, k + 1, h, hw => by
    obtain ⟨x, hx, hi⟩ := leads_has (i := i + 1) (show l[k]? = some f by simpa using h) hw
    refine ⟨x, ?_, by omega⟩
    unfold leadsFrom
    split
    · exact List.mem_cons_of_mem _ hx
    · split
      · exact List.mem_cons_of_mem _ hx
      · exact hx
theorem end_found {l : Land} {w g : Int} {x : Lead} (h : x ∈ leadsFrom w 0 l.legs) (hg : (x.i : Int) = g) : endOf l g w = x.o := by
  obtain ⟨f, k, h1, h2, h3⟩ := leads_mem h
  have hk := (List.getElem?_eq_some_iff.1 h2).1
  have e : l.legs.getD g.toNat zleg = f := by
    rw [List.getD_eq_getElem?_getD, show g.toNat = k by omega, h2]
    rfl
  unfold endOf
  rw [if_pos (by omega), e]
  by_cases q : w = f.frm
  · rw [if_pos q] at h3 ⊢
    exact h3.symm
  · rw [if_neg q] at h3 ⊢
    rw [if_pos h3.1]
    exact h3.2.symm
theorem end_none {l : Land} {w g : Int} (h : ∀ x ∈ leadsFrom w 0 l.legs, (x.i : Int) ≠ g) : endOf l g w = -1 := by
  unfold endOf
  by_cases hg : 0 ≤ g ∧ g < l.legs.length
  · rw [if_pos hg]
    have e : l.legs[g.toNat]? = some (l.legs.getD g.toNat zleg) := by
      rw [List.getD_eq_getElem?_getD, List.getElem?_eq_getElem (show g.toNat < l.legs.length by omega)]
      rfl
    have no : ¬(w = (l.legs.getD g.toNat zleg).frm ∨ w = (l.legs.getD g.toNat zleg).to) := fun hw => by
      obtain ⟨x, hx, hi⟩ := leads_has (i := 0) e hw
      exact h x hx (by omega)
    rw [if_neg (fun q => no (.inl q)), if_neg (fun q => no (.inr q))]
  · rw [if_neg hg]
structure EndI (w : World) (g : Int) (pre : List Lead) (V : World) : Prop where
  ext : Ext w V
  lg : V.heap[w.heap.size + 1]? = some (.cells #[.int .i64 g] 3 (0, 0))
  r : V.heap[w.heap.size + 1 + 1]? = some (.cells #[.int .i64 0] 3 (0, 0))
  ne : ∀ x ∈ pre, (x.i : Int) ≠ g
def EndX (w : World) (g : Int) (c : Code) (pre : List Lead) (V : World) : Prop := ∃ p x, pre = p ++ [x] ∧ (x.i : Int) = g ∧ c = .ret ∧ Ext w V ∧ V.heap[w.heap.size + 1 + 1]? = some (.cells #[.int .i64 x.o] 3 (0, 0))
theorem EndI.f {w : World} {g : Int} {lo : Nat} {pre : List Lead} {A B : World} (h : EndI w g pre A) (h2 : w.heap.size ≤ lo) (k : ButF (fun _ => False) lo A B) : EndI w g pre B :=
  ⟨ButF.ext h.ext k (fun b hb => hb.elim) h2, k.cells h.lg id, k.cells h.r id, h.ne⟩
theorem EndX.f {w : World} {g : Int} {lo : Nat} {c : Code} {pre : List Lead} {A B : World} (h : EndX w g c pre A) (h2 : w.heap.size ≤ lo) (k : ButF (fun _ => False) lo A B) : EndX w g c pre B := by
  obtain ⟨p, x, e1, e2, e3, h, r⟩ := h
  exact ⟨p, x, e1, e2, e3, ButF.ext h k (fun b hb => hb.elim) h2, k.cells r id⟩
theorem kpO_set' {O : Nat → Prop} (W : World) {b i : Nat} (v : Value) (hO : O b) : KpO O W (W.setCell ⟨b, i, none⟩ v) :=
  ⟨by simp [World.setCell], fun k o hk _ hn => (Below.heap_setCell _ _ _ _ (fun e => hn (by simp only at e; rw [e]; exact hO))).trans hk⟩
set_option maxRecDepth 100000 in
set_option maxHeartbeats 8000000 in
theorem end_any (wa : Option Addr) (wn wc : Nat) (la : Option Addr) (ln lc : Nat) (l : Land) (p0 p1 g wl : Int) (w : World) (hl : LegCells w la ln l.legs) (hln : ln ≤ 1000000000) (hlc : ln ≤ lc) (hlm : lc ≤ maxLen) (hls : ∀ x, la = some x → x.block < w.heap.size) :
    Calls Try.prog 46 #[.agg #[.slice wa wn wc, .slice la ln lc, .int .i64 p0, .int .i64 p1], .int .i64 g, .int .i64 wl] w fun e w' => e = .returned (.int .i64 (endOf l g wl)) ∧ Ext w w' := by
  have hfd := fun x h h2 => @end_found l wl g x h h2
  have hno := @end_none l wl g
  obtain ⟨E, hE⟩ : ∃ E, endOf l g wl = E := ⟨_, rfl⟩
  rw [hE] at hfd hno ⊢
  clear hE
  obtain ⟨W0, hW0⟩ : ∃ W0, ((w.alloc (.cells #[.slice wa wn wc, .slice la ln lc, .int .i64 p0, .int .i64 p1] 108)).alloc (.cells #[.int .i64 g] 3)).alloc (.cells #[.int .i64 0] 3) = W0 := ⟨_, rfl⟩
  have hx0 : Ext w W0 := by rw [← hW0]; exact (((Ext.refl w).alloc _).alloc _).alloc _
  have hb0 : W0.heap[w.heap.size]? = some (.cells #[.slice wa wn wc, .slice la ln lc, .int .i64 p0, .int .i64 p1] 108 (0, 0)) := by rw [← hW0]; exact alloc_heap (alloc_heap (heap_alloc_new w _) _) _
  have hb1 : W0.heap[w.heap.size + 1]? = some (.cells #[.int .i64 g] 3 (0, 0)) := by rw [← hW0]; exact alloc_heap (alloc_at _ _ _ (by simp)) _
  have hb2 : W0.heap[w.heap.size + 1 + 1]? = some (.cells #[.int .i64 0] 3 (0, 0)) := by rw [← hW0]; exact alloc_at _ _ _ (by simp)
  obtain ⟨z0, _⟩ := (Ext.refl W0).box hb0
  have Hx0 := Lib.hid hx0
  have Hb0 := Lib.hid hb0
  have Hb1 := Lib.hid hb1
  have Hb2 := Lib.hid hb2
  have Hfd := Lib.hid hfd
  have Hno := Lib.hid hno
  have Hls := Lib.hid hls
  have Hl := Lib.hid hl
  clear hx0 hb0 hb1 hb2 hfd hno hls hl
  refine (callsIn_wide (n := 3)).1 ?_
  refine callsIn_of_wp_marks Try.func46 rfl trivial ?_ rfl
  simp only [Try.ntmps46, List.size_toArray, List.length_cons, List.length_nil, Nat.reduceAdd, Nat.reduceSub, Array.replicate_succ, Array.replicate_zero, List.push_toArray, List.append_toArray, List.nil_append, List.cons_append]
  refine wpIn_wide.2 ?_
  go_wp2_with (go_at_call 95; refine (leadsFn_any wa wn wc la ln lc p0 p1 wl _).mono ?_; rintro e W4 ⟨rfl, rfl⟩)
  have hx4 : Ext W0 ((W0.alloc (.cells #[.slice wa wn wc, .slice la ln lc, .int .i64 p0, .int .i64 p1] 108)).alloc (.cells #[.int .i64 wl] 3)) := ((Ext.refl W0).alloc _).alloc _
  have hpc : ((W0.alloc (.cells #[.slice wa wn wc, .slice la ln lc, .int .i64 p0, .int .i64 p1] 108)).alloc (.cells #[.int .i64 wl] 3)).heap[W0.heap.size]? = some (.cells #[.slice wa wn wc, .slice la ln lc, .int .i64 p0, .int .i64 p1] 108 (0, 0)) := alloc_heap (heap_alloc_new W0 _) _
  have hpw : ((W0.alloc (.cells #[.slice wa wn wc, .slice la ln lc, .int .i64 p0, .int .i64 p1] 108)).alloc (.cells #[.int .i64 wl] 3)).heap[W0.heap.size + 1]? = some (.cells #[.int .i64 wl] 3 (0, 0)) := alloc_at _ _ _ (by simp)
  generalize ((W0.alloc (.cells #[.slice wa wn wc, .slice la ln lc, .int .i64 p0, .int .i64 p1] 108)).alloc (.cells #[.int .i64 wl] 3)) = W4 at *
  have hs2 := heap_lt Hb2.out
  have hw4 : w.heap.size ≤ W4.heap.size := (Hx0.out.trans hx4).size
  generalize W0.heap.size = pc at *
  have hseq := leads_stops 2 pc (pc + 1) wa wn wc la ln lc p0 p1 l.legs wl (fun b => b = w.heap.size + 1 + 1) W4 hpc hpw (Hl.out.ext (Hx0.out.trans hx4)) hln hlc hlm (by omega) (by omega) (fun x hx => by have := Hls.out x hx; omega)
  have hI0 : EndI w g [] W4 := ⟨Hx0.out.trans hx4, hx4.heap Hb1.out, hx4.heap Hb2.out, by simp⟩
  have Hseq := Lib.hid hseq
  have HI0 := Lib.hid hI0
  clear hseq hI0
  clear hx4 hpc hpw hs2 hW0 z0
  refine (wpIn_wide (n := 3)).1 (wpIn_rangeFunc_but rfl (by omega) (gf := 135) (lb := #[.pointer (some ⟨pc, 0, none⟩), .pointer (some ⟨pc + 1, 0, none⟩)]) rfl trivial (enters_of Try.func135 (by kernel_rfl) rfl) Hseq.out kpO_t kpO_b (Ext.refl _) (fun b hb => hb.elim) (fun _ => rfl)
    (EndI w g) (EndX w g)
    (fun q A B h k => h.f (by omega) k)
    (fun c q A B h k => h.f (by omega) k)
    HI0.out ?a1 ?assign ?body ?done ?stop)
  case assign =>
    intro l x W K hK
    gi_wp2
    simp [Lead.enc]
    exact hK
  case body =>
    intro l pre x W hI hlt
    obtain ⟨y0, y1⟩ := (Ext.refl W).box hI.lg
    obtain ⟨y2, y3⟩ := (Ext.refl W).box hI.r
    have hnl := heap_lt hI.lg
    have hrl := heap_lt hI.r
    obtain ⟨xi, xo⟩ := x
    by_cases h2 : (xi : Int) = g
    · have h2B : ((xi : Int) == g) = true := by simpa using h2
      have hr2 : (W.setCell ⟨w.heap.size + 1 + 1, 0, none⟩ (.int .i64 xo)).heap[w.heap.size + 1 + 1]? = some (.cells #[.int .i64 xo] 3 (0, 0)) := by
        rw [heap_setCell_box, hI.r]
        rfl
      have hx2 := hI.ext.setCell (p := ⟨w.heap.size + 1 + 1, 0, none⟩) (by simp only; omega) (.int .i64 xo)
      have HI := Lib.hid hI
      have Hr2 := Lib.hid hr2
      have Hx2 := Lib.hid hx2
      have H2 := Lib.hid h2
      clear hI hr2 hx2 h2
      gi_wp2
      exact ⟨KeepsOthers.setCell _ _ _, pre, ⟨xi, xo⟩, rfl, H2.out, rfl, Hx2.out, Hr2.out⟩
    · have h2B : ((xi : Int) == g) = false := by simpa using h2
      have HI := Lib.hid hI
      have H2 := Lib.hid h2
      clear hI h2
      gi_wp2
      exact ⟨KeepsOthers.refl _, KpO.refl _ _, HI.out.ext, HI.out.lg, HI.out.r, fun y hy => by
        rcases List.mem_append.1 hy with h | h
        · exact HI.out.ne y h
        · rw [List.mem_singleton.1 h]
          exact H2.out⟩
  case done =>
    rintro D xs W hD hxs hI hK
    have hE := Hno.out (by rw [← hxs]; exact hI.ne)
    have hrl := heap_lt hI.r
    obtain ⟨y2, y3⟩ := (Ext.refl W).box hI.r
    have hIe := hI.ext
    have hIr := hI.r
    have HIe := Lib.hid hIe
    have HIr := Lib.hid hIr
    have HE := Lib.hid hE
    clear hIe hIr hE
    clear hI hxs
    go_wp2_with fail
    have hK' := ((KeepsOthers.setCell W ⟨w.heap.size + 1 + 1, 0, none⟩ (.int .i64 (-1)))).same D _ hK rfl
    have hr9 : (W.setCell ⟨w.heap.size + 1 + 1, 0, none⟩ (.int .i64 (-1))).heap[w.heap.size + 1 + 1]? = some (.cells #[.int .i64 (-1)] 3 (0, 0)) := by
      rw [heap_setCell_box, HIr.out]
      rfl
    have hx9 := HIe.out.setCell (p := ⟨w.heap.size + 1 + 1, 0, none⟩) (by simp only; omega) (.int .i64 (-1))
    generalize W.setCell ⟨w.heap.size + 1 + 1, 0, none⟩ (.int .i64 (-1)) = W9 at *
    have hc5 := ((Ext.refl _).box (taken_heap hr9 hK')).1 0
    refine marks_ret1 hK' (v := .int .i64 (-1)) (by simp [results, Try.f46, go_sem, hc5]) ⟨by rw [HE.out], ext_taken hx9 (by omega)⟩
  case stop =>
    rintro D c pre W hD hpre ⟨p, x, rfl, hg, rfl, hIe, hIr⟩ hK
    have hE := Hfd.out x (hpre.subset (by simp)) hg
    have hc5 := ((Ext.refl _).box (taken_heap hIr hK)).1 0
    have HIe := Lib.hid hIe
    have HE := Lib.hid hE
    clear hIe hE
    gi_wp2
    refine marks_ret1 hK (v := .int .i64 x.o) (by simp [results, Try.f46, go_sem, hc5]) ⟨by rw [HE.out], ext_taken HIe.out (by omega)⟩
end Go.Proofs.Ytcoelhpmkhimpaa
