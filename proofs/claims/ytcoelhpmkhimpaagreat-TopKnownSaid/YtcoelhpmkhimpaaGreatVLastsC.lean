/- Contract of layer 1: Lasts. -/
import Derived.Test.YtcoelhpmkhimpaaGreatVGe
import Derived.Test.YtcoelhpmkhimpaaGreatVGf
import Derived.Test.YtcoelhpmkhimpaaGreatVGb
namespace Go.Proofs.YtcoelhpmkhimpaaGreat
open Go.RowKit
set_option linter.unusedVariables false
set_option linter.unusedSimpArgs false
attribute [local go_sem] Oper.semAt_some
def lastsVal (s : Breed) (c : Camel) (m : March) : Span × Int := if askDays s c [m] ≠ 0 then (⟨0, 0⟩, askDays s c [m]) else (⟨(lastsOf s m c 60).1, (lastsOf s m c 60).2⟩, 0)
theorem ask_zero {s : Breed} {c : Camel} {l : List March} (h : askDays s c l = 0) : BreedOk s ∧ CamelOk s c ∧ l.length ≤ 60 ∧ ∀ m ∈ l, DayOk m := by
  unfold askDays at h
  by_cases h1 : camelErr s c = 0
  · rw [if_neg (by simp [h1])] at h
    by_cases h2 : 60 < l.length
    · rw [if_pos h2] at h; omega
    · rw [if_neg h2] at h
      unfold camelErr at h1
      unfold daysErr at h
      cases hb : breedOk s with
      | false => rw [hb] at h1; simp at h1
      | true =>
        cases hc : camelOk s c with
        | false => rw [hb, hc] at h1; simp at h1
        | true =>
          cases hd : l.all dayOk with
          | false => rw [hd] at h; simp at h
          | true => exact ⟨breedIs hb, camelIs.1 hc, by omega, fun m hm => dayIs (List.all_eq_true.1 hd m hm)⟩
  · rw [if_pos h1] at h
    exact absurd h h1
/-- the slice that holds a day sixty times -/
def IsRep (B : Nat) (m : March) : Rel := fun v W => ∃ g, v = .slice (some ⟨g, 0, none⟩) 60 60 ∧ B ≤ g ∧ DaysAt W (some ⟨g, 0, none⟩) 60 (List.replicate 60 m)
theorem isRep_ec (B : Nat) (m : March) (v : Value) : EC (IsRep B m v) := fun _ _ ⟨g, h1, h2, h3⟩ e => ⟨g, h1, h2, h3.ext e⟩
def LastsPost (s : Breed) (c : Camel) (m : March) (w : World) (e : Ending) (w' : World) : Prop := e = .returned (.tuple #[(lastsVal s c m).1.val, .int .i64 (lastsVal s c m).2]) ∧ Ext w w'
structure LastsI (w : World) (bn : Nat) (pre : List DayStep) (V : World) : Prop where
  ext : Ext w V
  r : V.heap[w.heap.size + 1 + 1 + 1]? = some (.cells #[.int .i64 0, .int .i64 0] 27 (0, 0))
  n : V.heap[bn]? = some (.cells #[.int .i64 (sureOf pre : Nat), .int .i64 (pre.length : Nat)] 27 (0, 0))
  s : V.heap[bn + 1]? = some (.cells #[.bool (allSure pre)] 4 (0, 0))
  ne : ∀ x ∈ pre, x.f ≠ 2
def LastsX (w : World) (bn : Nat) (c : Code) (pre : List DayStep) (V : World) : Prop := ∃ p x, pre = p ++ [x] ∧ x.f = 2 ∧ c = .exit 0 ∧ LastsI w bn p V
theorem LastsI.f {w : World} {bn pa lo : Nat} {pre : List DayStep} {A B : World} (h : LastsI w bn pre A) (h1 : w.heap.size ≤ pa) (h2 : w.heap.size ≤ lo) (h3 : w.heap.size + 1 + 1 + 1 ≠ pa) (h4 : bn ≠ pa) (h5 : bn + 1 ≠ pa) (k : ButF (fun b => b = pa) lo A B) : LastsI w bn pre B :=
  ⟨ButF.ext h.ext k (fun b hb => by subst hb; exact h1) h2, k.cells h.r h3, k.cells h.n h4, k.cells h.s h5, h.ne⟩
theorem LastsX.f {w : World} {bn pa lo : Nat} {c : Code} {pre : List DayStep} {A B : World} (h : LastsX w bn c pre A) (h1 : w.heap.size ≤ pa) (h2 : w.heap.size ≤ lo) (h3 : w.heap.size + 1 + 1 + 1 ≠ pa) (h4 : bn ≠ pa) (h5 : bn + 1 ≠ pa) (k : ButF (fun b => b = pa) lo A B) : LastsX w bn c pre B := by
  obtain ⟨p, x, e1, e2, e3, h⟩ := h
  exact ⟨p, x, e1, e2, e3, h.f h1 h2 h3 h4 h5 k⟩
theorem kpO_set {O : Nat → Prop} (W : World) {b i : Nat} (v : Value) (hO : O b) : KpO O W (W.setCell ⟨b, i, none⟩ v) :=
  ⟨by simp [World.setCell], fun k o hk _ hn => (Below.heap_setCell _ _ _ _ (fun e => hn (by simp only at e; rw [e]; exact hO))).trans hk⟩
theorem LastsI.two {w : World} {bn N M : Nat} {S T : Bool} {ps : List DayStep} {W : World} (hx : Ext w W) (hr : W.heap[w.heap.size + 1 + 1 + 1]? = some (.cells #[.int .i64 0, .int .i64 0] 27 (0, 0))) (hn : W.heap[bn]? = some (.cells #[.int .i64 (N : Nat), .int .i64 (M : Nat)] 27 (0, 0))) (hs : W.heap[bn + 1]? = some (.cells #[.bool S] 4 (0, 0)))
    (e1 : sureOf ps = N) (e2 : ps.length = M + 1) (e3 : allSure ps = T) (ne : ∀ x ∈ ps, x.f ≠ 2) (h1 : w.heap.size + 1 + 1 + 1 < bn) : LastsI w bn ps ((W.setCell ⟨bn, 1, none⟩ (.int .i64 ((M : Int) + 1))).setCell ⟨bn + 1, 0, none⟩ (.bool T)) := by
  refine ⟨(hx.setCell (p := ⟨bn, 1, none⟩) (by simp only; omega) _).setCell (p := ⟨bn + 1, 0, none⟩) (by simp only; omega) _, ?_, ?_, ?_, ne⟩
  · exact (Below.heap_setCell _ _ _ _ (by simp only; omega)).trans ((Below.heap_setCell _ _ _ _ (by simp only; omega)).trans hr)
  · refine (Below.heap_setCell _ _ _ _ (by simp only; omega)).trans ?_
    rw [heap_setCell_box, hn, e1, e2]
    rfl
  · rw [heap_setCell_box, (Below.heap_setCell _ _ _ _ (by simp only; omega)).trans hs, e3]
    rfl
theorem LastsI.three {w : World} {bn N M : Nat} {S T : Bool} {ps : List DayStep} {W : World} (hx : Ext w W) (hr : W.heap[w.heap.size + 1 + 1 + 1]? = some (.cells #[.int .i64 0, .int .i64 0] 27 (0, 0))) (hn : W.heap[bn]? = some (.cells #[.int .i64 (N : Nat), .int .i64 (M : Nat)] 27 (0, 0))) (hs : W.heap[bn + 1]? = some (.cells #[.bool S] 4 (0, 0)))
    (e1 : sureOf ps = N + 1) (e2 : ps.length = M + 1) (e3 : allSure ps = T) (ne : ∀ x ∈ ps, x.f ≠ 2) (h1 : w.heap.size + 1 + 1 + 1 < bn) : LastsI w bn ps (((W.setCell ⟨bn, 1, none⟩ (.int .i64 ((M : Int) + 1))).setCell ⟨bn + 1, 0, none⟩ (.bool T)).setCell ⟨bn, 0, none⟩ (.int .i64 ((N : Int) + 1))) := by
  refine ⟨((hx.setCell (p := ⟨bn, 1, none⟩) (by simp only; omega) _).setCell (p := ⟨bn + 1, 0, none⟩) (by simp only; omega) _).setCell (p := ⟨bn, 0, none⟩) (by simp only; omega) _, ?_, ?_, ?_, ne⟩
  · exact (Below.heap_setCell _ _ _ _ (by simp only; omega)).trans ((Below.heap_setCell _ _ _ _ (by simp only; omega)).trans ((Below.heap_setCell _ _ _ _ (by simp only; omega)).trans hr))
  · rw [heap_setCell_box, (Below.heap_setCell _ _ _ _ (by simp only; omega)), heap_setCell_box, hn, e1, e2]
    rfl
  · refine (Below.heap_setCell _ _ _ _ (by simp only; omega)).trans ?_
    rw [heap_setCell_box, (Below.heap_setCell _ _ _ _ (by simp only; omega)).trans hs, e3]
    rfl
set_option maxRecDepth 100000 in
set_option maxHeartbeats 8000000 in
theorem lasts_any (s : Breed) (c : Camel) (m : March) (w : World) : Calls Tryz.prog 14 #[s.val, c.val, m.val] w (LastsPost s c m w) := by
  have hck := fun (W : World) (b : Nat) (h : W.heap[b]? = some (.cells m.cells.toArray 33 (0, 0))) => check_any s c (some ⟨b, 0, none⟩) 1 1 [m] W (days_built (m := m) (n := 1) (by simpa [repCells] using h)) (by omega)
  have hrep := fun (W : World) (b : Nat) (h : W.heap[b]? = some (.cells m.cells.toArray 33 (0, 0))) => repeat_any b m W h
  have hfn := fun (ln lc : Nat) (la : Option Addr) (W : World) => daysFn_any s c la ln lc W
  rw [beastVal_eq] at hfn
  have hdef : lastsVal s c m = if askDays s c [m] ≠ 0 then (⟨0, 0⟩, askDays s c [m]) else (⟨(lastsOf s m c 60).1, (lastsOf s m c 60).2⟩, 0) := rfl
  have hz := @ask_zero s c [m]
  obtain ⟨Q, hQ⟩ : ∃ Q, LastsPost s c m w = Q := ⟨_, rfl⟩
  have hfin : ∀ lo hi k, lastsVal s c m = (⟨lo, hi⟩, k) → ∀ w', Ext w w' → Q (.returned (.tuple #[.agg #[.int .i64 lo, .int .i64 hi], .int .i64 k])) w' := fun lo hi k h w' hx => by
    rw [← hQ]
    unfold LastsPost
    rw [h]
    exact ⟨rfl, hx⟩
  rw [hQ]
  clear hQ
  obtain ⟨K, hK⟩ : ∃ K, askDays s c [m] = K := ⟨_, rfl⟩
  rw [hK] at hck hdef hz
  obtain ⟨W0, hW0⟩ : ∃ W0, (((w.alloc (.cells s.cells.toArray 29)).alloc (.cells c.cells.toArray 31)).alloc (.cells m.cells.toArray 33)).alloc (.cells #[.int .i64 0, .int .i64 0] 27) = W0 := ⟨_, rfl⟩
  have hx0 : Ext w W0 := by rw [← hW0]; exact ((((Ext.refl w).alloc _).alloc _).alloc _).alloc _
  have hb0 : W0.heap[w.heap.size]? = some (.cells s.cells.toArray 29 (0, 0)) := by rw [← hW0]; exact alloc_heap (alloc_heap (alloc_heap (heap_alloc_new w _) _) _) _
  have hc0 : W0.heap[w.heap.size + 1]? = some (.cells c.cells.toArray 31 (0, 0)) := by rw [← hW0]; exact alloc_heap (alloc_heap (alloc_at _ _ _ (by simp)) _) _
  have hm0 : W0.heap[w.heap.size + 1 + 1]? = some (.cells m.cells.toArray 33 (0, 0)) := by rw [← hW0]; exact alloc_heap (alloc_at _ _ _ (by simp)) _
  have hr0 : W0.heap[w.heap.size + 1 + 1 + 1]? = some (.cells #[.int .i64 0, .int .i64 0] 27 (0, 0)) := by rw [← hW0]; exact alloc_at _ _ _ (by simp)
  have hseq1 := @seq_lasts s m 60 c
  have hseq2 := @seq_lasts_stop s m 60 c
  have hsl := seq_len s (List.replicate 60 m) c
  rw [List.length_replicate] at hsl
  have hst := fun (W : World) (pl pa : Nat) (la : Option Addr) (ln lc : Nat) (O : Nat → Prop) (h1 : W.heap[pl]? = some (.cells #[.slice la ln lc] 92 (0, 0))) (h2 : W.heap[pa]? = some (.cells (bCells s c).toArray 96 (0, 0))) (h3 : DaysAt W la ln (List.replicate 60 m)) (hb : BreedOk s) (hc : CamelOk s c) (hd : DayOk m) => days_stops 2 pl pa la ln lc (List.replicate 60 m) s c O W h1 h2 h3 hb hc (fun x hx => by rw [(List.mem_replicate.1 hx).2]; exact hd)
  obtain ⟨ys, hys⟩ : ∃ ys, seqOf s c (List.replicate 60 m) = ys := ⟨_, rfl⟩
  obtain ⟨L, hL⟩ : ∃ L, lastsOf s m c 60 = L := ⟨_, rfl⟩
  rw [hys] at hseq1 hseq2 hsl hst
  rw [hL] at hseq1 hseq2 hdef
  clear hys hL hK
  have hd48 : ∀ (W W' : World) (a : Option Addr), DaysAt W a 60 (List.replicate 60 m) → True := fun _ _ _ _ => trivial
  clear hd48
  generalize lastsVal s c m = LV at *
  unfold bCells at hfn hst
  obtain ⟨fu, fe, ⟨r0, r1⟩, ⟨h0, h1⟩, ⟨t0, t1⟩, ⟨b0, b1⟩, ⟨u0, u1⟩, ⟨m0, m1⟩, hl, ⟨s0, s1⟩⟩ := s
  obtain ⟨⟨w0, w1⟩, ⟨k0, k1⟩, ⟨o0, o1⟩, mk⟩ := c
  obtain ⟨hh, ll, ⟨e0, e1⟩, ⟨g0, g1⟩, ⟨d0, d1⟩⟩ := m
  unfold Breed.val Camel.val at hck ⊢
  unfold March.val
  unfold Breed.cells at hb0 hW0
  unfold Camel.cells at hc0 hW0
  unfold March.cells at hm0 hW0 hck hrep
  simp only at hck hrep hfn hst hb0 hc0 hm0 hW0 ⊢
  have Hck := Lib.hid hck
  have Hrep := Lib.hid hrep
  have Hfn := Lib.hid hfn
  have Hx0 := Lib.hid hx0
  have Hb0 := Lib.hid hb0
  have Hc0 := Lib.hid hc0
  have Hm0 := Lib.hid hm0
  have Hr0 := Lib.hid hr0
  have Hfin := Lib.hid hfin
  have Hseq1 := Lib.hid hseq1
  have Hseq2 := Lib.hid hseq2
  have Hsl := Lib.hid hsl
  have Hz := Lib.hid hz
  have Hdef := Lib.hid hdef
  have Hst := Lib.hid hst
  clear hck hrep hfn hx0 hb0 hc0 hm0 hr0 hfin hseq1 hseq2 hsl hz hdef hst
  refine (callsIn_wide (n := 3)).1 ?_
  refine callsIn_of_wp_marks Tryz.func14 rfl trivial ?_ rfl
  simp only [Tryz.ntmps14, List.size_toArray, List.length_cons, List.length_nil, Nat.reduceAdd, Nat.reduceSub, Array.replicate_succ, Array.replicate_zero, List.push_toArray, List.append_toArray, List.nil_append, List.cons_append]
  refine wpIn_wide.2 ?_
  by_cases hk : K ≠ 0
  · have hkB : (K != 0) = true := by simpa using hk
    have hfk := Hfin.out 0 0 K (by rw [Hdef.out, if_pos hk])
    have Hfk := Lib.hid hfk
    clear hfk
    clear hk
    go_wp2_with (first | (refine wpList_load_part rfl 29 (.tmp 3) rfl w.heap.size 0 rfl 29 _ (0, 0) _ Hb0.out [.int .i64 fu, .int .i64 fe, .int .i64 r0, .int .i64 r1, .int .i64 h0, .int .i64 h1, .int .i64 t0, .int .i64 t1, .int .i64 b0, .int .i64 b1, .int .i64 u0, .int .i64 u1, .int .i64 m0, .int .i64 m1, .int .i64 hl, .int .i64 s0, .int .i64 s1] rfl Tryz.underlying29 rfl (by kernel_rfl) ?_) | (refine wpList_load_part rfl 31 (.tmp 4) rfl (w.heap.size + 1) 0 rfl 31 _ (0, 0) _ Hc0.out [.int .i64 w0, .int .i64 w1, .int .i64 k0, .int .i64 k1, .int .i64 o0, .int .i64 o1, .bool mk] rfl Tryz.underlying31 rfl (by kernel_rfl) ?_) | (refine wpList_load_part rfl 33 (.tmp 5) rfl (w.heap.size + 1 + 1) 0 rfl 33 _ (0, 0) _ Hm0.out [.int .i64 hh, .int .i64 ll, .int .i64 e0, .int .i64 e1, .int .i64 g0, .int .i64 g1, .int .i64 d0, .int .i64 d1] rfl Tryz.underlying33 rfl (by kernel_rfl) ?_) | (go_at_call 39; refine (Hck.out _ _ (heap_alloc_new _ _)).mono ?_; rintro e w1 ⟨rfl, hx1⟩; have hx01 := ((Ext.refl W0).alloc _).trans hx1; have hr1 := hx01.heap Hr0.out; have hrl := heap_lt hr1; obtain ⟨z1, z2⟩ := (Ext.refl w1).box hr1))
    refine marks_ret0 (results_cell_tmp (P := Tryz.prog) (fn := Tryz.f14) rfl _ _ (w.heap.size + 1 + 1 + 1) 27 #[.int .i64 0, .int .i64 0] (0, 0) _ rfl (set2_box hr1 _ _) Tryz.underlying27 rfl (by kernel_rfl)) ?_
    exact Hfk.out _ (set2_ext (Hx0.out.trans hx01) (by omega) _ _)
  · obtain rfl : K = 0 := by omega
    obtain ⟨hbo, hco, -, hdo⟩ := Hz.out rfl
    have hdo := hdo _ (List.mem_singleton_self _)
    have hdf := Hdef.out
    rw [if_neg (by simp)] at hdf
    have Hbo := Lib.hid hbo
    have Hco := Lib.hid hco
    have Hdo := Lib.hid hdo
    have Hdf := Lib.hid hdf
    clear hbo hco hdo hdf
    clear hk Hz Hdef
    go_upto_region 6 with (first | (refine wpList_load_part rfl 29 (.tmp 3) rfl w.heap.size 0 rfl 29 _ (0, 0) _ Hb0.out [.int .i64 fu, .int .i64 fe, .int .i64 r0, .int .i64 r1, .int .i64 h0, .int .i64 h1, .int .i64 t0, .int .i64 t1, .int .i64 b0, .int .i64 b1, .int .i64 u0, .int .i64 u1, .int .i64 m0, .int .i64 m1, .int .i64 hl, .int .i64 s0, .int .i64 s1] rfl Tryz.underlying29 rfl (by kernel_rfl) ?_) | (refine wpList_load_part rfl 31 (.tmp 4) rfl (w.heap.size + 1) 0 rfl 31 _ (0, 0) _ Hc0.out [.int .i64 w0, .int .i64 w1, .int .i64 k0, .int .i64 k1, .int .i64 o0, .int .i64 o1, .bool mk] rfl Tryz.underlying31 rfl (by kernel_rfl) ?_) | (refine wpList_load_part rfl 33 (.tmp 5) rfl (w.heap.size + 1 + 1) 0 rfl 33 _ (0, 0) _ Hm0.out [.int .i64 hh, .int .i64 ll, .int .i64 e0, .int .i64 e1, .int .i64 g0, .int .i64 g1, .int .i64 d0, .int .i64 d1] rfl Tryz.underlying33 rfl (by kernel_rfl) ?_) | (go_at_call 39; refine (Hck.out _ _ (heap_alloc_new _ _)).mono ?_; rintro e WA ⟨rfl, hx1⟩; have hx01 := ((Ext.refl W0).alloc _).trans hx1))
    have hn2 : ((WA.alloc (.cells #[.int .i64 0, .int .i64 0] 27)).alloc (.cells #[.bool true] 4)).heap[WA.heap.size]? = some (.cells #[.int .i64 0, .int .i64 0] 27 (0, 0)) := alloc_heap (heap_alloc_new WA _) _
    have hs2 : ((WA.alloc (.cells #[.int .i64 0, .int .i64 0] 27)).alloc (.cells #[.bool true] 4)).heap[WA.heap.size + 1]? = some (.cells #[.bool true] 4 (0, 0)) := alloc_at _ _ _ (by simp)
    have hx2 : Ext W0 ((WA.alloc (.cells #[.int .i64 0, .int .i64 0] 27)).alloc (.cells #[.bool true] 4)) := (hx01.alloc _).alloc _
    have hwa : w.heap.size + 1 + 1 + 1 < WA.heap.size := by
      have := heap_lt Hr0.out
      have := hx01.size
      omega
    generalize (WA.alloc (.cells #[.int .i64 0, .int .i64 0] 27)).alloc (.cells #[.bool true] 4) = W2 at *
    generalize WA.heap.size = bn at *
    clear hx01 hx1 hW0
    have hb2 := hx2.heap Hb0.out
    have hc2 := hx2.heap Hc0.out
    have hm2 := hx2.heap Hm0.out
    have Hn2 := Lib.hid hn2
    have Hs2 := Lib.hid hs2
    have Hx2 := Lib.hid hx2
    have Hb2 := Lib.hid hb2
    have Hc2 := Lib.hid hc2
    have Hm2 := Lib.hid hm2
    clear hn2 hs2 hx2 hb2 hc2 hm2
    refine wp_region_flow (.take [0, 1, 2, 3] (.flow [4, 5] [26, 27] [[], [0]] (.one 6 .done))) [6] (Ext W2) _ (by kernel_rfl) (by kernel_rfl) rfl (EC.ext W2) ((Ext.refl _).drew) ?_
    simp only [flowOf, treeOf, oneOp, twoOp, opsOf, consOp, callOF, List.getElem?_toArray, List.getElem?_cons_succ, List.getElem?_cons_zero]
    intro ι _ f hf
    have q0 := fun q => ((hf q).box Hb2.out).1
    have q1 := fun q => ((hf q).box Hc2.out).1
    have q2 := fun q => ((hf q).box Hm2.out).1
    clear hf
    repeat (go_big_quiet_step (fail))
    refine wpQuiet_nil ?_
    clear q0 q1 q2
    refine wpOF_flow [IsSl 33 1 #[.int .i64 hh, .int .i64 ll, .int .i64 e0, .int .i64 e1, .int .i64 g0, .int .i64 g1, .int .i64 d0, .int .i64 d1], IsRep W2.heap.size ⟨hh, ll, ⟨e0, e1⟩, ⟨g0, g1⟩, ⟨d0, d1⟩⟩] rfl ⟨isSl_ec 33 1 #[.int .i64 hh, .int .i64 ll, .int .i64 e0, .int .i64 e1, .int .i64 g0, .int .i64 g1, .int .i64 d0, .int .i64 d1], isRep_ec W2.heap.size ⟨hh, ll, ⟨e0, e1⟩, ⟨g0, g1⟩, ⟨d0, d1⟩⟩, trivial⟩ (flowSteps_cons ?_ (flowSteps_cons ?_ flowSteps_nil)) ?_
    · intro xs W hlen hS hn
      obtain ⟨x0, x1, rfl⟩ := len2 hlen
      simp only [puts, Act.put, List.setIfInBounds_toArray, List.set_cons_succ, List.set_cons_zero]
      go_wp2_with fail
      exact FlowPost.mk (.slice (some ⟨W.heap.size, 0, none⟩) 1 1) rfl ((Ext.refl _).alloc _) IsSl.new
    · intro xs W hlen hS hn
      obtain ⟨x0, x1, rfl⟩ := len2 hlen
      simp only [puts, Act.put, List.setIfInBounds_toArray, List.set_cons_succ, List.set_cons_zero]
      obtain ⟨b, rfl, hbs⟩ : IsSl 33 1 #[.int .i64 hh, .int .i64 ll, .int .i64 e0, .int .i64 e1, .int .i64 g0, .int .i64 g1, .int .i64 d0, .int .i64 d1] x0 W := hn.1
      go_wp2_with (go_at_call 41; refine (Hrep.out W b hbs).mono ?_; rintro e W1 ⟨g, rfl, hx1, hg1, hg2⟩)
      exact FlowPost.mk (.slice (some ⟨g, 0, none⟩) 60 60) rfl hx1 ⟨g, rfl, Nat.le_trans hS.size hg1, hg2⟩
    intro xs W hlen hS hn
    obtain ⟨x0, x1, rfl⟩ := len2 hlen
    simp only [puts, Act.put, List.setIfInBounds_toArray, List.set_cons_succ, List.set_cons_zero]
    obtain ⟨-, ⟨g, rfl, hg0, hg⟩, -⟩ := hn
    refine wpOT_one ?_
    go_wp2_with (go_at_call 40; refine (Hfn.out 60 60 _ _).mono ?_; rintro e W4 ⟨rfl, rfl⟩)
    refine wpOT_done ?_
    have hx4 : Ext W ((W.alloc (.cells #[.int .i64 fu, .int .i64 fe, .int .i64 r0, .int .i64 r1, .int .i64 h0, .int .i64 h1, .int .i64 t0, .int .i64 t1, .int .i64 b0, .int .i64 b1, .int .i64 u0, .int .i64 u1, .int .i64 m0, .int .i64 m1, .int .i64 hl, .int .i64 s0, .int .i64 s1, .int .i64 w0, .int .i64 w1, .int .i64 k0, .int .i64 k1, .int .i64 o0, .int .i64 o1, .bool mk] 96)).alloc (.cells #[.slice (some ⟨g, 0, none⟩) 60 60] 92)) := ((Ext.refl W).alloc _).alloc _
    have hpa : ((W.alloc (.cells #[.int .i64 fu, .int .i64 fe, .int .i64 r0, .int .i64 r1, .int .i64 h0, .int .i64 h1, .int .i64 t0, .int .i64 t1, .int .i64 b0, .int .i64 b1, .int .i64 u0, .int .i64 u1, .int .i64 m0, .int .i64 m1, .int .i64 hl, .int .i64 s0, .int .i64 s1, .int .i64 w0, .int .i64 w1, .int .i64 k0, .int .i64 k1, .int .i64 o0, .int .i64 o1, .bool mk] 96)).alloc (.cells #[.slice (some ⟨g, 0, none⟩) 60 60] 92)).heap[W.heap.size]? = some (.cells #[.int .i64 fu, .int .i64 fe, .int .i64 r0, .int .i64 r1, .int .i64 h0, .int .i64 h1, .int .i64 t0, .int .i64 t1, .int .i64 b0, .int .i64 b1, .int .i64 u0, .int .i64 u1, .int .i64 m0, .int .i64 m1, .int .i64 hl, .int .i64 s0, .int .i64 s1, .int .i64 w0, .int .i64 w1, .int .i64 k0, .int .i64 k1, .int .i64 o0, .int .i64 o1, .bool mk] 96 (0, 0)) := alloc_heap (heap_alloc_new W _) _
    have hpl : ((W.alloc (.cells #[.int .i64 fu, .int .i64 fe, .int .i64 r0, .int .i64 r1, .int .i64 h0, .int .i64 h1, .int .i64 t0, .int .i64 t1, .int .i64 b0, .int .i64 b1, .int .i64 u0, .int .i64 u1, .int .i64 m0, .int .i64 m1, .int .i64 hl, .int .i64 s0, .int .i64 s1, .int .i64 w0, .int .i64 w1, .int .i64 k0, .int .i64 k1, .int .i64 o0, .int .i64 o1, .bool mk] 96)).alloc (.cells #[.slice (some ⟨g, 0, none⟩) 60 60] 92)).heap[W.heap.size + 1]? = some (.cells #[.slice (some ⟨g, 0, none⟩) 60 60] 92 (0, 0)) := alloc_at _ _ _ (by simp)
    have hgW : g < W.heap.size := by
      obtain ⟨b, off, _, e, _, hb, _⟩ := hg.get 0 (by omega)
      cases e
      exact hb
    have hnW := heap_lt (hS.heap Hn2.out)
    have hsW := heap_lt (hS.heap Hs2.out)
    have hn2W := heap_lt Hn2.out
    have hs2W := heap_lt Hs2.out
    have hrW := heap_lt (hS.heap (Hx2.out.heap Hr0.out))
    have hwW := Nat.le_trans Hx0.out.size (Nat.le_trans Hx2.out.size hS.size)
    have hseq := Hst.out _ (W.heap.size + 1) W.heap.size (some ⟨g, 0, none⟩) 60 60 (fun b => b = bn ∨ b = bn + 1) hpl hpa (hg.ext hx4) Hbo.out Hco.out Hdo.out (by omega) (by omega) (by unfold maxLen; omega) (by omega) (by omega) (fun x hx => by cases hx; simp only; omega) (by omega) (fun b hb => by simp; omega)
    have hI0 : Ext w ((W.alloc (.cells #[.int .i64 fu, .int .i64 fe, .int .i64 r0, .int .i64 r1, .int .i64 h0, .int .i64 h1, .int .i64 t0, .int .i64 t1, .int .i64 b0, .int .i64 b1, .int .i64 u0, .int .i64 u1, .int .i64 m0, .int .i64 m1, .int .i64 hl, .int .i64 s0, .int .i64 s1, .int .i64 w0, .int .i64 w1, .int .i64 k0, .int .i64 k1, .int .i64 o0, .int .i64 o1, .bool mk] 96)).alloc (.cells #[.slice (some ⟨g, 0, none⟩) 60 60] 92)) := Hx0.out.trans (Hx2.out.trans (hS.trans hx4))
    have hIn := (hS.trans hx4).heap Hn2.out
    have hIs := (hS.trans hx4).heap Hs2.out
    have hIr := (Hx2.out.trans (hS.trans hx4)).heap Hr0.out
    have hsz4 : ((W.alloc (.cells #[.int .i64 fu, .int .i64 fe, .int .i64 r0, .int .i64 r1, .int .i64 h0, .int .i64 h1, .int .i64 t0, .int .i64 t1, .int .i64 b0, .int .i64 b1, .int .i64 u0, .int .i64 u1, .int .i64 m0, .int .i64 m1, .int .i64 hl, .int .i64 s0, .int .i64 s1, .int .i64 w0, .int .i64 w1, .int .i64 k0, .int .i64 k1, .int .i64 o0, .int .i64 o1, .bool mk] 96)).alloc (.cells #[.slice (some ⟨g, 0, none⟩) 60 60] 92)).heap.size = W.heap.size + 1 + 1 := by simp
    generalize ((W.alloc (.cells #[.int .i64 fu, .int .i64 fe, .int .i64 r0, .int .i64 r1, .int .i64 h0, .int .i64 h1, .int .i64 t0, .int .i64 t1, .int .i64 b0, .int .i64 b1, .int .i64 u0, .int .i64 u1, .int .i64 m0, .int .i64 m1, .int .i64 hl, .int .i64 s0, .int .i64 s1, .int .i64 w0, .int .i64 w1, .int .i64 k0, .int .i64 k1, .int .i64 o0, .int .i64 o1, .bool mk] 96)).alloc (.cells #[.slice (some ⟨g, 0, none⟩) 60 60] 92)) = W4 at *
    generalize W.heap.size = pa at *
    have Hseq := Lib.hid hseq
    have HI0 := Lib.hid hI0
    have HIn := Lib.hid hIn
    have HIs := Lib.hid hIs
    have HIr := Lib.hid hIr
    clear hseq hI0 hIn hIs hIr
    clear hx4 hpa hpl hg hS hlen hg0 Hst
    go_wp2_with fail
    refine (wpIn_wide (n := 3)).1 (wpIn_rangeFunc_but rfl (by omega) (gf := 65) (lb := #[.pointer (some ⟨pa + 1, 0, none⟩), .pointer (some ⟨pa, 0, none⟩)]) rfl trivial (enters_of Tryz.func65 (by kernel_rfl) rfl) Hseq.out kpO_t kpO_b (Ext.refl _) (fun b hb => by subst hb; omega) (fun _ => rfl)
      (LastsI w bn) (LastsX w bn)
      (fun q A B h k => h.f (by omega) (by omega) (by omega) (by omega) (by omega) k)
      (fun c q A B h k => h.f (by omega) (by omega) (by omega) (by omega) (by omega) k)
      ⟨HI0.out, HIr.out, HIn.out, HIs.out, by simp⟩ ?a1 ?assign ?body ?done ?stop)
    case assign =>
      intro l x W K hK
      gi_wp2
      simp [DayStep.enc]
      exact hK
    case body =>
      intro l pre x W hI hlt
      have hrl := heap_lt hI.r
      obtain ⟨y0, y1⟩ := (Ext.refl W).box hI.n
      obtain ⟨y2, y3⟩ := (Ext.refl W).box hI.s
      have hnl := heap_lt hI.n
      have hsl := heap_lt hI.s
      have hple : pre.length ≤ 60 := by have := Hsl.out; omega
      have hsle := sure_le pre
      obtain ⟨xb, xc, xf⟩ := x
      by_cases h2 : xf = 2
      · have h2B : (xf == 2) = true := by simpa using h2
        have HI := Lib.hid hI
        clear hI
        gi_wp2
        exact ⟨KeepsOthers.refl _, pre, ⟨xb, xc, xf⟩, rfl, h2, rfl, HI.out⟩
      · have h2B : (xf == 2) = false := by simpa using h2
        obtain ⟨S, hS⟩ : ∃ S, allSure pre = S := ⟨_, rfl⟩
        obtain ⟨N, hN⟩ : ∃ N, sureOf pre = N := ⟨_, rfl⟩
        have hsn := sure_snoc pre ⟨xb, xc, xf⟩
        have han := allSure_snoc pre ⟨xb, xc, xf⟩
        have hin := hI.n
        have his := hI.s
        rw [hS, hN] at hsn
        rw [hS] at han y2 his
        rw [hN] at y0 hsle hin
        simp only at hsn han
        have hsm : ∀ y ∈ pre ++ [⟨xb, xc, xf⟩], y.f ≠ 2 := fun y hy => by
          rcases List.mem_append.1 hy with h | h
          · exact hI.ne y h
          · rw [List.mem_singleton.1 h]
            exact h2
        have hle2 : (pre ++ [(⟨xb, xc, xf⟩ : DayStep)]).length = pre.length + 1 := by simp
        generalize pre.length = M at *
        have hIe := hI.ext
        have hIr := hI.r
        by_cases h0 : xf = 0
        · have h0B : (xf == 0) = true := by simpa using h0
          rw [h0B, Bool.and_true] at hsn han
          cases S
          · rw [if_neg (by simp)] at hsn
            have HIe := Lib.hid hIe
            have HIr := Lib.hid hIr
            have Hin := Lib.hid hin
            have His := Lib.hid his
            have Hsn := Lib.hid hsn
            have Han := Lib.hid han
            have Hsm := Lib.hid hsm
            have Hle2 := Lib.hid hle2
            clear hIe hIr hin his hsn han hsm hle2
            clear hS hN hI h2 h0
            gi_wp2
            exact ⟨(KeepsOthers.setCell _ _ _).trans (KeepsOthers.setCell _ _ _), (kpO_set _ _ (.inl rfl)).trans (kpO_set _ _ (.inr rfl)), LastsI.two HIe.out HIr.out Hin.out His.out Hsn.out Hle2.out Han.out Hsm.out (by omega)⟩
          · rw [if_pos rfl] at hsn
            have HIe := Lib.hid hIe
            have HIr := Lib.hid hIr
            have Hin := Lib.hid hin
            have His := Lib.hid his
            have Hsn := Lib.hid hsn
            have Han := Lib.hid han
            have Hsm := Lib.hid hsm
            have Hle2 := Lib.hid hle2
            clear hIe hIr hin his hsn han hsm hle2
            clear hS hN hI h2 h0
            gi_wp2
            exact ⟨((KeepsOthers.setCell _ _ _).trans (KeepsOthers.setCell _ _ _)).trans (KeepsOthers.setCell _ _ _), ((kpO_set _ _ (.inl rfl)).trans (kpO_set _ _ (.inr rfl))).trans (kpO_set _ _ (.inl rfl)), LastsI.three HIe.out HIr.out Hin.out His.out Hsn.out Hle2.out Han.out Hsm.out (by omega)⟩
        · have h0B : (xf == 0) = false := by simpa using h0
          rw [h0B, Bool.and_false, if_neg (by simp)] at hsn
          rw [h0B, Bool.and_false] at han
          have HIe := Lib.hid hIe
          have HIr := Lib.hid hIr
          have Hin := Lib.hid hin
          have His := Lib.hid his
          have Hsn := Lib.hid hsn
          have Han := Lib.hid han
          have Hsm := Lib.hid hsm
          have Hle2 := Lib.hid hle2
          clear hIe hIr hin his hsn han hsm hle2
          clear hS hN hI h2 h0
          cases S
          · gi_wp2
            exact ⟨(KeepsOthers.setCell _ _ _).trans (KeepsOthers.setCell _ _ _), (kpO_set _ _ (.inl rfl)).trans (kpO_set _ _ (.inr rfl)), LastsI.two HIe.out HIr.out Hin.out His.out Hsn.out Hle2.out Han.out Hsm.out (by omega)⟩
          · gi_wp2
            exact ⟨(KeepsOthers.setCell _ _ _).trans (KeepsOthers.setCell _ _ _), (kpO_set _ _ (.inl rfl)).trans (kpO_set _ _ (.inr rfl)), LastsI.two HIe.out HIr.out Hin.out His.out Hsn.out Hle2.out Han.out Hsm.out (by omega)⟩
    case done =>
      rintro D xs W hD hxs hI hK
      have hL := Hseq1.out xs hxs hI.ne
      have hf := Hfin.out (sureOf xs : Nat) (xs.length : Nat) 0 (by rw [Hdf.out, hL])
      clear hxs
      obtain ⟨y0, y1⟩ := (Ext.refl W).box hI.n
      obtain ⟨y2, y3⟩ := (Ext.refl W).box hI.r
      have hnl := heap_lt hI.n
      have hrl := heap_lt hI.r
      have hIe := hI.ext
      have hIr := hI.r
      have HIe := Lib.hid hIe
      have HIr := Lib.hid hIr
      have Hf := Lib.hid hf
      clear hIe hIr hf
      clear hI hL
      gi_wp2
      go_wp2_with fail
      have hK' := (((KeepsOthers.setCell W ⟨w.heap.size + 1 + 1 + 1, 0, none⟩ (.int .i64 (sureOf xs : Nat))).trans (KeepsOthers.setCell _ ⟨w.heap.size + 1 + 1 + 1, 1, none⟩ (.int .i64 (xs.length : Nat))))).same D _ hK rfl
      have hr9 := set2_box HIr.out (.int .i64 (sureOf xs : Nat)) (.int .i64 (xs.length : Nat))
      have hx9 := set2_ext HIe.out (b := w.heap.size + 1 + 1 + 1) (by omega) (.int .i64 (sureOf xs : Nat)) (.int .i64 (xs.length : Nat))
      generalize (W.setCell ⟨w.heap.size + 1 + 1 + 1, 0, none⟩ (.int .i64 (sureOf xs : Nat))).setCell ⟨w.heap.size + 1 + 1 + 1, 1, none⟩ (.int .i64 (xs.length : Nat)) = W9 at *
      refine marks_ret1 hK' (results_cell_tmp (P := Tryz.prog) (fn := Tryz.f14) rfl _ _ (w.heap.size + 1 + 1 + 1) 27 #[.int .i64 (sureOf xs : Nat), .int .i64 (xs.length : Nat)] (0, 0) _ rfl (taken_heap hr9 hK') Tryz.underlying27 rfl (by kernel_rfl)) ?_
      exact Hf.out _ (ext_taken hx9 (by omega))
    case stop =>
      rintro D c pre W hD hpre ⟨xs, x, rfl, hx2, rfl, hI⟩ hK
      have hL := Hseq2.out xs x hpre hx2 hI.ne
      have hf := Hfin.out (sureOf xs : Nat) (xs.length : Nat) 0 (by rw [Hdf.out, hL])
      obtain ⟨y0, y1⟩ := (Ext.refl W).box hI.n
      obtain ⟨y2, y3⟩ := (Ext.refl W).box hI.r
      have hnl := heap_lt hI.n
      have hrl := heap_lt hI.r
      have hIe := hI.ext
      have hIr := hI.r
      have HIe := Lib.hid hIe
      have HIr := Lib.hid hIr
      have Hf := Lib.hid hf
      clear hIe hIr hf
      clear hI hL
      gi_wp2
      go_wp2_with fail
      have hK' := (((KeepsOthers.setCell W ⟨w.heap.size + 1 + 1 + 1, 0, none⟩ (.int .i64 (sureOf xs : Nat))).trans (KeepsOthers.setCell _ ⟨w.heap.size + 1 + 1 + 1, 1, none⟩ (.int .i64 (xs.length : Nat))))).same D _ hK rfl
      have hr9 := set2_box HIr.out (.int .i64 (sureOf xs : Nat)) (.int .i64 (xs.length : Nat))
      have hx9 := set2_ext HIe.out (b := w.heap.size + 1 + 1 + 1) (by omega) (.int .i64 (sureOf xs : Nat)) (.int .i64 (xs.length : Nat))
      generalize (W.setCell ⟨w.heap.size + 1 + 1 + 1, 0, none⟩ (.int .i64 (sureOf xs : Nat))).setCell ⟨w.heap.size + 1 + 1 + 1, 1, none⟩ (.int .i64 (xs.length : Nat)) = W9 at *
      refine marks_ret1 hK' (results_cell_tmp (P := Tryz.prog) (fn := Tryz.f14) rfl _ _ (w.heap.size + 1 + 1 + 1) 27 #[.int .i64 (sureOf xs : Nat), .int .i64 (xs.length : Nat)] (0, 0) _ rfl (taken_heap hr9 hK') Tryz.underlying27 rfl (by kernel_rfl)) ?_
      exact Hf.out _ (ext_taken hx9 (by omega))
end Go.Proofs.YtcoelhpmkhimpaaGreat
