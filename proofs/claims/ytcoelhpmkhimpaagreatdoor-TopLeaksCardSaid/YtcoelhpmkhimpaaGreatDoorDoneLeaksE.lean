/- What the input is, read off the arguments' own data. Printed by wip/tools/gentake.py. -/
import Derived.Test.YtcoelhpmkhimpaaGreatDoorDoneLeaksC
import Derived.Test.YtcoelhpmkhimpaaGreatDoorDoneLeaksB
import Derived.Test.YtcoelhpmkhimpaaGreatDoorRows
import Derived.WalkKit
import Derived.ProofKit
import Derived.Deep.Slices
namespace Go.Proofs.YtcoelhpmkhimpaaGreatDoor
open Go.RowKit
set_option linter.unusedVariables false
set_option linter.unusedSimpArgs false
/-- whether an animal can go, by what is known -/
def readyS (E A0 A1 cl ch : Int) : Int := if E = 0 ∨ ch < A0 then 0 else if E = 2 ∧ A1 ≤ cl then 2 else 1
theorem even_three (l : List Pack) (t : Tied) (bound : Int) : evenOf l t bound = 0 ∨ evenOf l t bound = 1 ∨ evenOf l t bound = 2 := by
  unfold evenOf
  split
  · exact .inr (.inr rfl)
  · split
    · exact .inl rfl
    · exact .inr (.inl rfl)
theorem readyS_of (l : List Pack) (t : Tied) (bound : Int) (can : Span) : readyOf l t bound can = readyS (evenOf l t bound) (weigh l (allOf t)).lo (weigh l (allOf t)).hi can.lo can.hi := rfl
/-- the box k holds v at last, and nothing else was changed -/
structure Boxed (k : Nat) (T : TypeId) (v : Value) (w w' : World) : Prop where
  box : w'.heap[k]? = some (.cells #[v] T (0, 0))
  but : But (fun b => b = k) w w'
theorem Boxed.of {k : Nat} {T : TypeId} {v0 : Value} {w V : World} (hg : V.heap[k]? = some (.cells #[v0] T (0, 0))) (hx : But (fun b => b = k) w V) (v : Value) : Boxed k T v w (V.setCell ⟨k, 0, none⟩ v) := ⟨set1_box hg v, hx.trans (But.setCell _ _ rfl)⟩
set_option maxRecDepth 100000 in
set_option maxHeartbeats 8000000 in
theorem readyF_any (k0 k1 k2 k3 k4 k5 : Nat) (s : Breed) (c : Camel) (pa : Option Addr) (pn pc : Nat) (l : List Pack) (a1 a2 a3 : Option Addr) (n1 n2 n3 c1 c2 c3 : Nat) (t : Tied) (bound : Int) (z : Int) (w : World) (h : LoadIn pa pn l a1 a2 a3 n1 n2 n3 c1 c2 c3 t w)
    (hbs : BreedOk s) (hcs : CamelOk s c) (h0 : camelErr s c = 0) (g0 : w.heap[k0]? = some (.cells #[.slice pa pn pc] 28 (0, 0))) (g1 : w.heap[k1]? = some (.cells #[.slice a1 n1 c1, .slice a2 n2 c2, .slice a3 n3 c3] 31 (0, 0)))
    (g2 : w.heap[k2]? = some (.cells s.cells.toArray 25 (0, 0))) (g3 : w.heap[k3]? = some (.cells c.cells.toArray 27 (0, 0))) (g4 : w.heap[k4]? = some (.cells #[.int .i64 bound] 3 (0, 0))) (g5 : w.heap[k5]? = some (.cells #[.int .u8 z] 5 (0, 0))) (hb : 0 ≤ bound ∧ bound ≤ 1000000000) :
    Calls Tryz.prog 30 #[.pointer (some ⟨k0, 0, none⟩), .pointer (some ⟨k1, 0, none⟩), .pointer (some ⟨k2, 0, none⟩), .pointer (some ⟨k3, 0, none⟩), .pointer (some ⟨k4, 0, none⟩), .pointer (some ⟨k5, 0, none⟩)] w fun e w' => e = .returned (.tuple #[]) ∧ Boxed k5 5 (.int .u8 (readyOf l t bound (carryOf s c))) w w' := by
  have hbo := bounded_yes bound (by unfold inB; simp; omega)
  have hE3 := even_three l t bound
  have hca := fun W => carries10_any s c W hbs hcs h0
  have hwa := fun W (hW : Ext w W) a c (hs : SpansAt W a pn (l.map leftP)) b cb (hb : IntsAt .i64 W b (allOf t).length (allOf t)) => (h.ext hW).weight (ra := a) c hs cb hb (fun i hi => hi) (by have := h.ties.few; omega)
  have hbal := fun W (hW : Ext w W) a c (hs : SpansAt W a pn (l.map leftP)) => (h.ext hW).balance (ra := a) c hs bound hb
  rw [readyS_of]
  generalize evenOf l t bound = E at *
  generalize weigh l (allOf t) = A at *
  generalize carryOf s c = C at *
  obtain ⟨A0, A1⟩ := A
  obtain ⟨cl, ch⟩ := C
  clear hbs hcs h0 hb
  obtain ⟨fu, fe, ⟨r0, r1⟩, ⟨h0, h1⟩, ⟨t0, t1⟩, ⟨b0, b1⟩, ⟨u0, u1⟩, ⟨m0, m1⟩, hl, ⟨s0, s1⟩⟩ := s
  obtain ⟨⟨w0, w1⟩, ⟨e0, e1⟩, ⟨o0, o1⟩, mk⟩ := c
  have g2 : w.heap[k2]? = some (.cells #[.int .i64 fu, .int .i64 fe, .int .i64 r0, .int .i64 r1, .int .i64 h0, .int .i64 h1, .int .i64 t0, .int .i64 t1, .int .i64 b0, .int .i64 b1, .int .i64 u0, .int .i64 u1, .int .i64 m0, .int .i64 m1, .int .i64 hl, .int .i64 s0, .int .i64 s1] 25 (0, 0)) := g2
  have g3 : w.heap[k3]? = some (.cells #[.int .i64 w0, .int .i64 w1, .int .i64 e0, .int .i64 e1, .int .i64 o0, .int .i64 o1, .bool mk] 27 (0, 0)) := g3
  unfold Breed.val Camel.val Span.val at hca
  unfold Span.val at hwa
  simp only at hca hwa ⊢
  obtain ⟨N, hN⟩ : ∃ N, (allOf t).length = N := ⟨_, rfl⟩
  have hal : ∀ W, Ext w W → Calls Tryz.prog 34 #[.agg #[.slice a1 n1 c1, .slice a2 n2 c2, .slice a3 n3 c3]] W fun e w' => ∃ a c, e = .returned (.slice a N c) ∧ Ext W w' ∧ IntsAt .i64 w' a N (allOf t) := by
    intro W hW
    have := (h.ext hW).all
    unfold ConcatPost at this
    rw [hN] at this
    exact this.mono fun e w' ⟨a, c, h1, h2, h3, _⟩ => ⟨a, c, h1, h2, h3⟩
  rw [hN] at hwa
  clear hN
  obtain ⟨f0, _⟩ := (Ext.refl w).box g0
  obtain ⟨f1, _⟩ := (Ext.refl w).box g1
  have gl0 := heap_lt g0
  have gl1 := heap_lt g1
  have gl2 := heap_lt g2
  have gl3 := heap_lt g3
  have gl4 := heap_lt g4
  have gl5 := heap_lt g5
  have H := Lib.hid h
  have G0 := Lib.hid g0
  have G1 := Lib.hid g1
  have G2 := Lib.hid g2
  have G3 := Lib.hid g3
  have G4 := Lib.hid g4
  have G5 := Lib.hid g5
  have Hbo := Lib.hid hbo
  have Hbal := Lib.hid hbal
  have Hwa := Lib.hid hwa
  have Hal := Lib.hid hal
  have Hca := Lib.hid hca
  have HE3 := Lib.hid hE3
  clear h g0 g1 g2 g3 g4 g5 hbo hbal hwa hal hca hE3
  go_enter Tryz.func30, Tryz.ntmps30
  go_upto_region 1 with (go_at_call 19; refine ((H.out.ext ((Ext.refl w).alloc _)).check _ _ (alloc_at _ _ _ rfl)).mono ?_; rintro e v1 ⟨rfl, hx1⟩)
  clear f0 f1
  have hy1 := ((Ext.refl w).alloc _).trans hx1
  have q2 := hy1.heap G2.out
  have q3 := hy1.heap G3.out
  have Hy1 := Lib.hid hy1
  have Q2 := Lib.hid q2
  have Q3 := Lib.hid q3
  clear hy1 q2 q3
  clear hx1
  go_upto_region 2 with (first
    | (refine wpList_load_row rfl 25 (.tmp 2) rfl k2 rfl 25 _ (0, 0) _ Q2.out Tryz.underlying25 rfl (by kernel_rfl) ?_)
    | (refine wpList_load_row rfl 27 (.tmp 3) rfl k3 rfl 27 _ (0, 0) _ Q3.out Tryz.underlying27 rfl (by kernel_rfl) ?_)
    | (go_at_call 10; refine (Hca.out _).mono ?_; rintro e v2 ⟨rfl, hx2⟩))
  have hy2 := (Hy1.out.trans hx2).alloc (.cells #[.int .i64 cl, .int .i64 ch] 23)
  have b6 := heap_alloc_new v2 (.cells #[.int .i64 cl, .int .i64 ch] 23)
  have q4 := hy2.heap G4.out
  have hp6 : w.heap.size ≤ v2.heap.size := (Hy1.out.trans hx2).size
  generalize v2.alloc (.cells #[.int .i64 cl, .int .i64 ch] 23) = V2 at *
  generalize v2.heap.size = p6 at *
  obtain ⟨f4, _⟩ := (Ext.refl V2).box q4
  have ql4 := heap_lt q4
  have Hy2 := Lib.hid hy2
  have B6 := Lib.hid b6
  have Q4 := Lib.hid q4
  clear hy2 b6 q4
  clear hx2 Q2 Q3 Hy1
  go_upto_region 4 with (first
    | (go_at_call 20; refine (need_yes _ _).mono ?_; rintro e v3 ⟨rfl, hx3⟩; clear f4 ql4; obtain ⟨f4, _⟩ := (Ext.refl v3).box (hx3.heap Q4.out); have ql4 := heap_lt (hx3.heap Q4.out))
    | (go_at_call 31; refine (Hbo.out _).mono ?_; rintro e W0 ⟨rfl, hx4⟩))
  clear f4 ql4
  have hyx := hx3.trans hx4
  have hy1 := Hy2.out.trans hyx
  have b6' := hyx.heap B6.out
  have q0 := hy1.heap G0.out
  have q1 := hy1.heap G1.out
  have hin := H.out.ext hy1
  have Q0 := Lib.hid q0
  have Q1 := Lib.hid q1
  have Hy1 := Lib.hid hy1
  have Hin := Lib.hid hin
  have B6' := Lib.hid b6'
  clear q0 q1 hy1 hin b6'
  clear hyx hx3 hx4 Hy2 B6 Q4
  refine wp_region_flow (.take [0, 1] (.flow [2, 3, 4] [28, 29, 8] [[], [0], []] (.one 5 .done))) [5] (Ext W0) _ (by kernel_rfl) (by kernel_rfl) rfl (EC.ext W0) ((Ext.refl _).drew) ?_
  simp only [flowOf, treeOf, oneOp, twoOp, opsOf, consOp, callOF, List.getElem?_toArray, List.getElem?_cons_succ, List.getElem?_cons_zero]
  intro ι _ f hf
  have f0 := fun q => ((hf q).box Q0.out).1
  have f1 := fun q => ((hf q).box Q1.out).1
  clear hf
  repeat (go_big_quiet_step (fail))
  refine wpQuiet_nil ?_
  clear f0 f1
  refine wpOF_flow [IsRests l pn, IsWork l pn (.slice a1 n1 c1) (.slice a2 n2 c2) (.slice a3 n3 c3), IsBox W0.heap.size 77 #[.slice none 0 0, .slice none 0 0, .slice none 0 0, .slice none 0 0]] rfl ⟨isRests_ec l pn, isWork_ec l pn (.slice a1 n1 c1) (.slice a2 n2 c2) (.slice a3 n3 c3), isBox_ec W0.heap.size 77 #[.slice none 0 0, .slice none 0 0, .slice none 0 0, .slice none 0 0], trivial⟩ (flowSteps_cons ?_ (flowSteps_cons ?_ (flowSteps_cons ?_ flowSteps_nil))) ?_
  · intro xs W hlen hS hn
    obtain ⟨x0, x1, x2, rfl⟩ := len3 hlen
    simp only [puts, Act.put, List.setIfInBounds_toArray, List.set_cons_succ, List.set_cons_zero]
    go_wp2_with (go_at_call 32; refine ((Hin.out.ext hS).rests pc).mono ?_; rintro e W1 ⟨ra, rc, rfl, hx1, hsp, -, -⟩)
    exact FlowPost.mk (.slice ra pn rc) rfl hx1 ⟨ra, rc, rfl, hsp⟩
  · intro xs W hlen hS hn
    obtain ⟨x0, x1, x2, rfl⟩ := len3 hlen
    simp only [puts, Act.put, List.setIfInBounds_toArray, List.set_cons_succ, List.set_cons_zero]
    obtain ⟨ra, rc, rfl, hsp⟩ : IsRests l pn x0 W := hn.1
    go_wp2_with fail
    exact FlowPost.mk (.agg #[.slice a1 n1 c1, .slice a2 n2 c2, .slice a3 n3 c3, .slice ra pn rc]) rfl (Ext.refl _) ⟨ra, rc, rfl, hsp⟩
  · intro xs W hlen hS hn
    obtain ⟨x0, x1, x2, rfl⟩ := len3 hlen
    simp only [puts, Act.put, List.setIfInBounds_toArray, List.set_cons_succ, List.set_cons_zero]
    go_wp2_with fail
    exact FlowPost.mk (.pointer (some ⟨W.heap.size, 0, none⟩)) rfl ((Ext.refl _).alloc _) (IsBox.new hS.size)
  intro xs W hlen hS hn
  obtain ⟨x0, x1, x2, rfl⟩ := len3 hlen
  simp only [puts, Act.put, List.setIfInBounds_toArray, List.set_cons_succ, List.set_cons_zero]
  obtain ⟨-, ⟨ra, rc, rfl, hsp⟩, ⟨q, rfl, hq0, hq⟩, -⟩ := hn
  refine wpOT_one ?_
  go_wp2_with (refine wpList_store_row rfl 77 (.tmp 8) (.tmp 29) rfl q #[.slice a1 n1 c1, .slice a2 n2 c2, .slice a3 n3 c3, .slice ra pn rc] rfl rfl 77 _ hq (by kernel_rfl) (by kernel_rfl) (by kernel_rfl) ?_)
  refine wpOT_done ?_
  have hxs : Ext W0 (W.setRow q #[.slice a1 n1 c1, .slice a2 n2 c2, .slice a3 n3 c3, .slice ra pn rc]) := below_setRow hS hq0 _
  have hqs := setRow_heap _ _ _ #[.slice a1 n1 c1, .slice a2 n2 c2, .slice a3 n3 c3, .slice ra pn rc] _ _ hq
  have hsp0 : SpansAt (W.setRow q #[.slice a1 n1 c1, .slice a2 n2 c2, .slice a3 n3 c3, .slice ra pn rc]) ra pn (l.map leftP) := spans_ne hsp hq (fun k hk => setRow_other _ _ _ _ hk)
  clear hS hsp hq hq0
  generalize W.setRow q #[.slice a1 n1 c1, .slice a2 n2 c2, .slice a3 n3 c3, .slice ra pn rc] = W2 at *
  have hy2 := Hy1.out.trans hxs
  have g12 := hxs.heap Q1.out
  have b62 := hxs.heap B6'.out
  have Hqs := Lib.hid hqs
  have Hsp0 := Lib.hid hsp0
  have Hy2 := Lib.hid hy2
  have G12 := Lib.hid g12
  have B62 := Lib.hid b62
  clear hqs hsp0 hy2 g12 b62
  clear hxs Q0 Q1 Hin Hy1 B6'
  go_upto_region 5 with fail
  refine wp_region_flow (.take [0, 1] (.flow [2, 3, 4] [32, 33, 9] [[], [0], []] (.one 5 .done))) [5] (Ext W2) _ (by kernel_rfl) (by kernel_rfl) rfl (EC.ext W2) ((Ext.refl _).drew) ?_
  simp only [flowOf, treeOf, oneOp, twoOp, opsOf, consOp, callOF, List.getElem?_toArray, List.getElem?_cons_succ, List.getElem?_cons_zero]
  intro ι _ f hf
  have f0 := fun q => ((hf q).box Hqs.out).1
  have f1 := fun q => ((hf q).box G12.out).1
  clear hf
  repeat (go_big_quiet_step (fail))
  refine wpQuiet_nil ?_
  clear f0 f1
  refine wpOF_flow [IsInts (allOf t) N, IsV (.agg #[.int .i64 A0, .int .i64 A1]), IsBox W2.heap.size 23 #[.int .i64 0, .int .i64 0]] rfl ⟨isInts_ec (allOf t) N, isV_ec (.agg #[.int .i64 A0, .int .i64 A1]), isBox_ec W2.heap.size 23 #[.int .i64 0, .int .i64 0], trivial⟩ (flowSteps_cons ?_ (flowSteps_cons ?_ (flowSteps_cons ?_ flowSteps_nil))) ?_
  · intro xs W hlen hS hn
    obtain ⟨x0, x1, x2, rfl⟩ := len3 hlen
    simp only [puts, Act.put, List.setIfInBounds_toArray, List.set_cons_succ, List.set_cons_zero]
    go_wp2_with (go_at_call 34; refine (Hal.out W (Hy2.out.trans hS)).mono ?_; rintro e W1 ⟨ia, ic, rfl, hx1, hi⟩)
    exact FlowPost.mk (.slice ia N ic) rfl hx1 ⟨ia, ic, rfl, hi⟩
  · intro xs W hlen hS hn
    obtain ⟨x0, x1, x2, rfl⟩ := len3 hlen
    simp only [puts, Act.put, List.setIfInBounds_toArray, List.set_cons_succ, List.set_cons_zero]
    obtain ⟨ia, ic, rfl, hi⟩ : IsInts (allOf t) N x0 W := hn.1
    go_wp2_with (go_at_call 33; refine (Hwa.out W (Hy2.out.trans hS) ra rc (Hsp0.out.ext hS) ia ic hi).mono ?_; rintro e W1 ⟨rfl, hx1⟩)
    exact FlowPost.mk (.agg #[.int .i64 A0, .int .i64 A1]) rfl hx1 rfl
  · intro xs W hlen hS hn
    obtain ⟨x0, x1, x2, rfl⟩ := len3 hlen
    simp only [puts, Act.put, List.setIfInBounds_toArray, List.set_cons_succ, List.set_cons_zero]
    go_wp2_with fail
    exact FlowPost.mk (.pointer (some ⟨W.heap.size, 0, none⟩)) rfl ((Ext.refl _).alloc _) (IsBox.new hS.size)
  intro xs W hlen hS hn
  obtain ⟨x0, x1, x2, rfl⟩ := len3 hlen
  simp only [puts, Act.put, List.setIfInBounds_toArray, List.set_cons_succ, List.set_cons_zero]
  obtain ⟨-, rfl, ⟨p9, rfl, hq0, hq⟩, -⟩ := hn
  obtain ⟨y0, y1⟩ := (Ext.refl W).box hq
  have hql := heap_lt hq
  refine wpOT_one ?_
  go_wp2_with fail
  refine wpOT_done ?_
  have hxs := set2_ext hS hq0 (.int .i64 A0) (.int .i64 A1)
  have b9 := set2_box hq (.int .i64 A0) (.int .i64 A1)
  clear y0 y1 hql hq hS
  generalize (W.setCell ⟨p9, 0, none⟩ (.int .i64 A0)).setCell ⟨p9, 1, none⟩ (.int .i64 A1) = W3 at *
  have hy3 := Hy2.out.trans hxs
  have hq3 := hxs.heap Hqs.out
  have hsp3 := Hsp0.out.ext hxs
  have b63 := hxs.heap B62.out
  have g43 := hy3.heap G4.out
  have hp9 : w.heap.size ≤ p9 := Nat.le_trans Hy2.out.size hq0
  obtain ⟨f4, _⟩ := (Ext.refl W3).box g43
  have ql4 := heap_lt g43
  have B9 := Lib.hid b9
  have Hy3 := Lib.hid hy3
  have Hq3 := Lib.hid hq3
  have Hsp3 := Lib.hid hsp3
  have B63 := Lib.hid b63
  have G43 := Lib.hid g43
  clear b9 hy3 hq3 hsp3 b63 g43
  clear hxs hq0 Hqs Hsp0 Hy2 G12 B62
  go_upto_region 7 with (first
    | (refine wpList_load_row rfl 77 (.tmp 8) rfl q rfl 77 _ (0, 0) _ Hq3.out Tryz.underlying77 rfl (by kernel_rfl) ?_)
    | (go_at_call 35; refine (Hbal.out W3 Hy3.out ra rc Hsp3.out).mono ?_; rintro e W4 ⟨rfl, hx4⟩; have hy4 := Hy3.out.trans hx4; have g54 := hy4.heap G5.out; have ql5 := heap_lt g54; obtain ⟨z0, z1⟩ := (Ext.refl W4).box g54))
  have hB5 := Boxed.of g54 (hy4.but _) (.int .u8 E)
  have hxb := hx4.heap B9.out
  have hxc := hx4.heap B63.out
  have b95 := set1_other (j := 0) hxb (b := k5) (by omega) (.int .u8 E)
  have b65 := set1_other (j := 0) hxc (b := k5) (by omega) (.int .u8 E)
  clear z0 z1 ql5 f4 ql4 g54 hy4 hx4 hxb hxc
  generalize W4.setCell ⟨k5, 0, none⟩ (.int .u8 E) = W5 at *
  obtain ⟨y0, y1⟩ := (Ext.refl W5).box b95
  obtain ⟨y2, y3⟩ := (Ext.refl W5).box b65
  obtain ⟨y4, y5⟩ := (Ext.refl W5).box hB5.box
  have yl5 := heap_lt hB5.box
  have hE3 := HE3.out
  have HB5 := Lib.hid hB5
  have B95 := Lib.hid b95
  have B65 := Lib.hid b65
  clear hB5 b95 b65
  clear HE3 Hy3 Hq3 Hsp3 B63 B9 G43
  by_cases hch : ch < A0
  · have hchB : decide (ch < A0) = true := decide_eq_true hch
    have hv : readyS E A0 A1 cl ch = 0 := by unfold readyS; rw [if_pos (.inr hch)]
    have Hv := Lib.hid hv
    clear hv
    clear hE3 hch
    go_wp2_with fail
    go_end0
    exact ⟨rfl, by rw [Hv.out]; exact Boxed.of HB5.out.box HB5.out.but _⟩
  · have hchB : decide (ch < A0) = false := decide_eq_false hch
    rcases hE3 with rfl | rfl | rfl
    · have hv : readyS 0 A0 A1 cl ch = 0 := by unfold readyS; rw [if_pos (.inl rfl)]
      have Hv := Lib.hid hv
      clear hv
      clear hch
      go_wp2_with fail
      go_end0
      exact ⟨rfl, by rw [Hv.out]; exact HB5.out⟩
    · have hv : readyS 1 A0 A1 cl ch = 1 := by unfold readyS; rw [if_neg (by omega), if_neg (by omega)]
      have Hv := Lib.hid hv
      clear hv
      clear hch
      go_wp2_with fail
      go_end0
      exact ⟨rfl, by rw [Hv.out]; exact HB5.out⟩
    · by_cases hcl : cl < A1
      · have hclB : decide (cl < A1) = true := decide_eq_true hcl
        have hv : readyS 2 A0 A1 cl ch = 1 := by unfold readyS; rw [if_neg (by omega), if_neg (by omega)]
        have Hv := Lib.hid hv
        clear hv
        clear hch hcl
        go_wp2_with fail
        go_end0
        exact ⟨rfl, by rw [Hv.out]; exact Boxed.of HB5.out.box HB5.out.but _⟩
      · have hclB : decide (cl < A1) = false := decide_eq_false hcl
        have hv : readyS 2 A0 A1 cl ch = 2 := by unfold readyS; rw [if_neg (by omega), if_pos (by omega)]
        have Hv := Lib.hid hv
        clear hv
        clear hch hcl
        go_wp2_with fail
        go_end0
        exact ⟨rfl, by rw [Hv.out]; exact HB5.out⟩
end Go.Proofs.YtcoelhpmkhimpaaGreatDoor

namespace Go.Proofs.YtcoelhpmkhimpaaGreatDoor
open Go.RowKit
set_option linter.unusedVariables false
set_option linter.unusedSimpArgs false
theorem packRows_set {m : List Pack} {k : Nat} (p : Pack) : packRows (m.set k p) = (packRows m).set k p.cells := by
  unfold packRows
  rw [List.map_set]
theorem packRows_get {m : List Pack} {k : Nat} {q : Pack} (h : m[k]? = some q) : (packRows m)[k]? = some q.cells := by
  unfold packRows
  rw [List.getElem?_map, h]
  rfl
/-- the packs m lie in the slice la, which was made since V1 -/
structure PackSt (V1 : World) (la : Option Addr) (pn : Nat) (m : List Pack) (W : World) : Prop where
  ext : Ext V1 W
  row : 0 < pn → ∃ b, la = some ⟨b, 0, none⟩ ∧ V1.heap.size ≤ b ∧ RowBlock W b 50 11 (packRows m)
theorem PackSt.next {V1 : World} {la : Option Addr} {pn : Nat} {m : List Pack} {W V : World} (h : PackSt V1 la pn m W) (hx : Ext W V) : PackSt V1 la pn m V :=
  ⟨h.ext.trans hx, fun hp => let ⟨b, h1, h2, h3⟩ := h.row hp; ⟨b, h1, h2, h3.ext hx⟩⟩
theorem PackSt.hurt {V1 : World} {b : Nat} {pn : Nat} {m : List Pack} {W : World} (h : PackSt V1 (some ⟨b, 0, none⟩) pn m W) {k : Nat} {q : Pack} (hq : m[k]? = some q) (x : Int) :
    PackSt V1 (some ⟨b, 0, none⟩) pn (m.set k { q with hurt := x }) (W.setCell ⟨b, k * 11 + 9, none⟩ (.int .i64 x)) ∨ pn = 0 := by
  rcases Nat.eq_zero_or_pos pn with h0 | h0
  · exact .inr h0
  · obtain ⟨b', e, h2, h3⟩ := h.row h0
    cases e
    refine .inl ⟨set1_ext h.ext h2 _ _, fun _ => ⟨b, rfl, h2, ?_⟩⟩
    rw [packRows_set]
    exact h3.set (packRows_get hq) (by omega) (.int .i64 x)
theorem PackSt.days {V1 : World} {b : Nat} {pn : Nat} {m : List Pack} {W : World} (h : PackSt V1 (some ⟨b, 0, none⟩) pn m W) {k : Nat} {q : Pack} (hq : m[k]? = some q) (x : Int) :
    PackSt V1 (some ⟨b, 0, none⟩) pn (m.set k { q with days := x }) (W.setCell ⟨b, k * 11 + 10, none⟩ (.int .i64 x)) ∨ pn = 0 := by
  rcases Nat.eq_zero_or_pos pn with h0 | h0
  · exact .inr h0
  · obtain ⟨b', e, h2, h3⟩ := h.row h0
    cases e
    refine .inl ⟨set1_ext h.ext h2 _ _, fun _ => ⟨b, rfl, h2, ?_⟩⟩
    rw [packRows_set]
    exact h3.set (packRows_get hq) (by omega) (.int .i64 x)
theorem PackSt.packs {V1 : World} {la : Option Addr} {pn : Nat} {m : List Pack} {W : World} (h : PackSt V1 la pn m W) (hm : m.length = pn) : PacksAt W la pn m := by
  refine ⟨hm, fun hn => ?_⟩
  obtain ⟨b, e, h2, h3⟩ := h.row hn
  have := h3.slAt
  rw [packRows_len, hm] at this
  subst e
  exact (this.congr fun i hi => by simp [packRows, List.getD, List.getElem?_map, List.getElem?_eq_getElem (show i < m.length by omega)]) hn
theorem PackSt.begin {V1 W : World} {la : Option Addr} {lc : Nat} {l : List Pack} (hx : Ext V1 W) (h : Owns W V1.heap.size 50 11 (.slice la l.length lc) (packRows l)) : PackSt V1 la l.length l W := by
  refine ⟨hx, fun hn => ?_⟩
  obtain ⟨b, c, e, h1, h2, h3, h4⟩ := h.block (by rw [packRows_len]; exact hn)
  simp only [Value.slice.injEq] at e
  exact ⟨b, e.1, h3, h4⟩
theorem stop_ne {W : World} {la : Option Addr} {pn k : Nat} {m : List Pack} (h : PacksAt W la pn m) (hk : ∀ b o, la = some ⟨b, o, none⟩ → b ≠ k) (x : Value) : PacksAt (W.setCell ⟨k, 0, none⟩ x) la pn m := by
  rcases Nat.eq_zero_or_pos pn with h0 | h0
  · exact ⟨h.1, fun hn => by omega⟩
  · refine h.same (fun y hy => ?_)
    obtain ⟨b, off, p, ha, _⟩ := h.get 0 h0
    rw [ha] at hy
    cases hy
    exact Below.heap_setCell _ _ _ _ (by simpa using hk _ _ ha)
end Go.Proofs.YtcoelhpmkhimpaaGreatDoor

namespace Go.Proofs.YtcoelhpmkhimpaaGreatDoor
open Go.RowKit
set_option linter.unusedVariables false
set_option linter.unusedSimpArgs false
/-- what is tried by load.Jolted: it stops, or the box holds the packs after the days -/
def JoltPost (l : List Pack) (pn : Nat) (js : List Jolt) (days : Int) (k : Nat) (w : World) (e : Ending) (w' : World) : Prop :=
  (∃ c : Int, e = stopped c ∧ c ≠ 0 ∧ Ext w w' ∧ ((inB days 0 100000 && decide (js.length ≤ 60) && js.all (joltOk 1)) = false ∨ ∃ m, JoltN l m 360000000 ∧ (js = [] → m = l) ∧ (aged days m).all packOk = false)) ∨
  (e = .returned (.tuple #[]) ∧ ∃ (la : Option Addr) (lc : Nat) (m : List Pack), JoltN l m 360000000 ∧ (js = [] → m = l) ∧ (aged days m).all packOk = true ∧ inB days 0 100000 = true ∧ Boxed k 28 (.slice la pn lc) w w' ∧ PacksAt w' la pn (aged days m))
set_option maxRecDepth 100000 in
set_option maxHeartbeats 8000000 in
theorem joltF1 (k0 k1 k2 k3 k4 tb : Nat) (pa : Option Addr) (pn pc : Nat) (l : List Pack) (a1 a2 a3 : Option Addr) (n1 n2 n3 c1 c2 c3 : Nat) (t : Tied) (ja : Option Addr) (jn jc : Nat) (js : List Jolt) (days : Int) (w : World) (h : LoadIn pa pn l a1 a2 a3 n1 n2 n3 c1 c2 c3 t w) (hj : JoltsAt w ja jn js)
    (g0 : w.heap[k0]? = some (.cells #[.slice pa pn pc] 28 (0, 0))) (g1 : w.heap[k1]? = some (.cells #[.slice (some ⟨tb, 0, none⟩) 1 1] 38 (0, 0))) (gt : w.heap[tb]? = some (.cells #[.slice a1 n1 c1, .slice a2 n2 c2, .slice a3 n3 c3] 31 (0, 0))) (g2 : w.heap[k2]? = some (.cells #[.int .i64 days] 3 (0, 0))) (g3 : w.heap[k3]? = some (.cells #[.slice ja jn jc] 32 (0, 0))) (g4 : w.heap[k4]? = some (.cells #[.slice none 0 0] 28 (0, 0))) (hjn : jn ≤ 80) (hD : inB days 0 100000 = false) : Calls Tryz.prog 18 #[.pointer (some ⟨k0, 0, none⟩), .pointer (some ⟨k1, 0, none⟩), .pointer (some ⟨k2, 0, none⟩), .pointer (some ⟨k3, 0, none⟩), .pointer (some ⟨k4, 0, none⟩)] w (JoltPost l pn js days k4 w) := by
  have hmf : ∀ (fn : Fn) (first cap : Array Value) (w : World), (Instr.makeFunc fn first cap).run Tryz.prog w = .ok (.func fn first cap) w := fun _ _ _ _ => rfl
  have hpan := panic35
  obtain ⟨f0, _⟩ := (Ext.refl w).box g0
  obtain ⟨f1, _⟩ := (Ext.refl w).box g1
  obtain ⟨f2, _⟩ := (Ext.refl w).box g2
  obtain ⟨f3, _⟩ := (Ext.refl w).box g3
  have l0 := heap_lt g0
  have l1 := heap_lt g1
  have l2 := heap_lt g2
  have l3 := heap_lt g3
  have hy := Ext.refl w
  replace hjn : jn ≤ 1000 := by omega
  have H := Lib.hid h
  have Hj := Lib.hid hj
  have G0 := Lib.hid g0
  have G1 := Lib.hid g1
  have Gt := Lib.hid gt
  have G2 := Lib.hid g2
  have G3 := Lib.hid g3
  have G4 := Lib.hid g4
  clear h hj g0 g1 gt g2 g3 g4
  have HD := Lib.hid hD
  clear hD
  go_enter Tryz.func18, Tryz.ntmps18
  go_wp2_with (first
    | (go_at_call 19; refine ((H.out.ext hy).check _ _ (hy.heap Gt.out)).mono ?_; rintro e v1 ⟨rfl, hx⟩; replace hy := hy.trans hx; clear hx; clear f0 f1 f2 f3 l0 l1 l2 l3; obtain ⟨f0, _⟩ := (Ext.refl _).box (hy.heap G0.out); obtain ⟨f1, _⟩ := (Ext.refl _).box (hy.heap G1.out); obtain ⟨f2, _⟩ := (Ext.refl _).box (hy.heap G2.out); obtain ⟨f3, _⟩ := (Ext.refl _).box (hy.heap G3.out); have l0 := heap_lt (hy.heap G0.out); have l1 := heap_lt (hy.heap G1.out); have l2 := heap_lt (hy.heap G2.out); have l3 := heap_lt (hy.heap G3.out))
    | (go_at_call 21; refine (inL1 (alloc_at _ _ _ (by simp)) HD.out).mono ?_; rintro e v1 ⟨rfl, hx⟩; replace hx := ((Ext.refl _).alloc _).trans hx; replace hy := hy.trans hx; clear hx; clear f0 f1 f2 f3 l0 l1 l2 l3; obtain ⟨f0, _⟩ := (Ext.refl _).box (hy.heap G0.out); obtain ⟨f1, _⟩ := (Ext.refl _).box (hy.heap G1.out); obtain ⟨f2, _⟩ := (Ext.refl _).box (hy.heap G2.out); obtain ⟨f3, _⟩ := (Ext.refl _).box (hy.heap G3.out); have l0 := heap_lt (hy.heap G0.out); have l1 := heap_lt (hy.heap G1.out); have l2 := heap_lt (hy.heap G2.out); have l3 := heap_lt (hy.heap G3.out))
    | (go_at_call 20; refine (need_no _ _).mono ?_; rintro e v1 ⟨he, hx⟩; unfold stopped at he; subst he))
  exact ⟨rfl, .inl ⟨2, rfl, by decide, hy.trans hx, .inl (by rw [HD.out]; rfl)⟩⟩
set_option maxRecDepth 100000 in
set_option maxHeartbeats 8000000 in
theorem joltF2 (k0 k1 k2 k3 k4 tb : Nat) (pa : Option Addr) (pn pc : Nat) (l : List Pack) (a1 a2 a3 : Option Addr) (n1 n2 n3 c1 c2 c3 : Nat) (t : Tied) (ja : Option Addr) (jn jc : Nat) (js : List Jolt) (days : Int) (w : World) (h : LoadIn pa pn l a1 a2 a3 n1 n2 n3 c1 c2 c3 t w) (hj : JoltsAt w ja jn js)
    (g0 : w.heap[k0]? = some (.cells #[.slice pa pn pc] 28 (0, 0))) (g1 : w.heap[k1]? = some (.cells #[.slice (some ⟨tb, 0, none⟩) 1 1] 38 (0, 0))) (gt : w.heap[tb]? = some (.cells #[.slice a1 n1 c1, .slice a2 n2 c2, .slice a3 n3 c3] 31 (0, 0))) (g2 : w.heap[k2]? = some (.cells #[.int .i64 days] 3 (0, 0))) (g3 : w.heap[k3]? = some (.cells #[.slice ja jn jc] 32 (0, 0))) (g4 : w.heap[k4]? = some (.cells #[.slice none 0 0] 28 (0, 0))) (hjn : jn ≤ 80) (hD : inB days 0 100000 = true) (h60 : ¬jn ≤ 60) : Calls Tryz.prog 18 #[.pointer (some ⟨k0, 0, none⟩), .pointer (some ⟨k1, 0, none⟩), .pointer (some ⟨k2, 0, none⟩), .pointer (some ⟨k3, 0, none⟩), .pointer (some ⟨k4, 0, none⟩)] w (JoltPost l pn js days k4 w) := by
  have hmf : ∀ (fn : Fn) (first cap : Array Value) (w : World), (Instr.makeFunc fn first cap).run Tryz.prog w = .ok (.func fn first cap) w := fun _ _ _ _ => rfl
  have hpan := panic35
  obtain ⟨f0, _⟩ := (Ext.refl w).box g0
  obtain ⟨f1, _⟩ := (Ext.refl w).box g1
  obtain ⟨f2, _⟩ := (Ext.refl w).box g2
  obtain ⟨f3, _⟩ := (Ext.refl w).box g3
  have l0 := heap_lt g0
  have l1 := heap_lt g1
  have l2 := heap_lt g2
  have l3 := heap_lt g3
  have hy := Ext.refl w
  replace hjn : jn ≤ 1000 := by omega
  have H := Lib.hid h
  have Hj := Lib.hid hj
  have G0 := Lib.hid g0
  have G1 := Lib.hid g1
  have Gt := Lib.hid gt
  have G2 := Lib.hid g2
  have G3 := Lib.hid g3
  have G4 := Lib.hid g4
  clear h hj g0 g1 gt g2 g3 g4
  have hjl : js.length = jn := Hj.out.1
  have hjI : decide ((jn : Int) ≤ 60) = false := decide_eq_false (by omega)
  have hjN : decide (jn ≤ 60) = false := decide_eq_false h60
  have HD := Lib.hid hD
  have Hjl := Lib.hid hjl
  clear hD hjl
  clear h60
  go_enter Tryz.func18, Tryz.ntmps18
  go_wp2_with (first
    | (go_at_call 19; refine ((H.out.ext hy).check _ _ (hy.heap Gt.out)).mono ?_; rintro e v1 ⟨rfl, hx⟩; replace hy := hy.trans hx; clear hx; clear f0 f1 f2 f3 l0 l1 l2 l3; obtain ⟨f0, _⟩ := (Ext.refl _).box (hy.heap G0.out); obtain ⟨f1, _⟩ := (Ext.refl _).box (hy.heap G1.out); obtain ⟨f2, _⟩ := (Ext.refl _).box (hy.heap G2.out); obtain ⟨f3, _⟩ := (Ext.refl _).box (hy.heap G3.out); have l0 := heap_lt (hy.heap G0.out); have l1 := heap_lt (hy.heap G1.out); have l2 := heap_lt (hy.heap G2.out); have l3 := heap_lt (hy.heap G3.out))
    | (go_at_call 21; refine (inL1 (alloc_at _ _ _ (by simp)) HD.out).mono ?_; rintro e v1 ⟨rfl, hx⟩; replace hx := ((Ext.refl _).alloc _).trans hx; replace hy := hy.trans hx; clear hx; clear f0 f1 f2 f3 l0 l1 l2 l3; obtain ⟨f0, _⟩ := (Ext.refl _).box (hy.heap G0.out); obtain ⟨f1, _⟩ := (Ext.refl _).box (hy.heap G1.out); obtain ⟨f2, _⟩ := (Ext.refl _).box (hy.heap G2.out); obtain ⟨f3, _⟩ := (Ext.refl _).box (hy.heap G3.out); have l0 := heap_lt (hy.heap G0.out); have l1 := heap_lt (hy.heap G1.out); have l2 := heap_lt (hy.heap G2.out); have l3 := heap_lt (hy.heap G3.out))
    | (go_at_call 20; refine (need_no 4 _).mono ?_; rintro e v1 ⟨he, hx⟩; unfold stopped at he; subst he)
    | (go_at_call 20; refine (need_yes _ _).mono ?_; rintro e v1 ⟨rfl, hx⟩; replace hy := hy.trans hx; clear hx; clear f0 f1 f2 f3 l0 l1 l2 l3; obtain ⟨f0, _⟩ := (Ext.refl _).box (hy.heap G0.out); obtain ⟨f1, _⟩ := (Ext.refl _).box (hy.heap G1.out); obtain ⟨f2, _⟩ := (Ext.refl _).box (hy.heap G2.out); obtain ⟨f3, _⟩ := (Ext.refl _).box (hy.heap G3.out); have l0 := heap_lt (hy.heap G0.out); have l1 := heap_lt (hy.heap G1.out); have l2 := heap_lt (hy.heap G2.out); have l3 := heap_lt (hy.heap G3.out)))
  exact ⟨rfl, .inl ⟨4, rfl, by decide, hy.trans hx, .inl (by rw [HD.out, Hjl.out, hjN]; rfl)⟩⟩
set_option maxRecDepth 100000 in
set_option maxHeartbeats 8000000 in
theorem joltF3 (k0 k1 k2 k3 k4 tb : Nat) (pa : Option Addr) (pn pc : Nat) (l : List Pack) (a1 a2 a3 : Option Addr) (n1 n2 n3 c1 c2 c3 : Nat) (t : Tied) (ja : Option Addr) (jn jc : Nat) (js : List Jolt) (days : Int) (w : World) (h : LoadIn pa pn l a1 a2 a3 n1 n2 n3 c1 c2 c3 t w) (hj : JoltsAt w ja jn js)
    (g0 : w.heap[k0]? = some (.cells #[.slice pa pn pc] 28 (0, 0))) (g1 : w.heap[k1]? = some (.cells #[.slice (some ⟨tb, 0, none⟩) 1 1] 38 (0, 0))) (gt : w.heap[tb]? = some (.cells #[.slice a1 n1 c1, .slice a2 n2 c2, .slice a3 n3 c3] 31 (0, 0))) (g2 : w.heap[k2]? = some (.cells #[.int .i64 days] 3 (0, 0))) (g3 : w.heap[k3]? = some (.cells #[.slice ja jn jc] 32 (0, 0))) (g4 : w.heap[k4]? = some (.cells #[.slice none 0 0] 28 (0, 0))) (hjn : jn ≤ 80) (hD : inB days 0 100000 = true) (h60 : jn ≤ 60) (hJO : js.all (joltOk 1) = false) : Calls Tryz.prog 18 #[.pointer (some ⟨k0, 0, none⟩), .pointer (some ⟨k1, 0, none⟩), .pointer (some ⟨k2, 0, none⟩), .pointer (some ⟨k3, 0, none⟩), .pointer (some ⟨k4, 0, none⟩)] w (JoltPost l pn js days k4 w) := by
  have hmf : ∀ (fn : Fn) (first cap : Array Value) (w : World), (Instr.makeFunc fn first cap).run Tryz.prog w = .ok (.func fn first cap) w := fun _ _ _ _ => rfl
  have hpan := panic35
  obtain ⟨f0, _⟩ := (Ext.refl w).box g0
  obtain ⟨f1, _⟩ := (Ext.refl w).box g1
  obtain ⟨f2, _⟩ := (Ext.refl w).box g2
  obtain ⟨f3, _⟩ := (Ext.refl w).box g3
  have l0 := heap_lt g0
  have l1 := heap_lt g1
  have l2 := heap_lt g2
  have l3 := heap_lt g3
  have hy := Ext.refl w
  replace hjn : jn ≤ 1000 := by omega
  have H := Lib.hid h
  have Hj := Lib.hid hj
  have G0 := Lib.hid g0
  have G1 := Lib.hid g1
  have Gt := Lib.hid gt
  have G2 := Lib.hid g2
  have G3 := Lib.hid g3
  have G4 := Lib.hid g4
  clear h hj g0 g1 gt g2 g3 g4
  have hjI : decide ((jn : Int) ≤ 60) = true := decide_eq_true (by omega)
  have hjN : decide (jn ≤ 60) = true := decide_eq_true h60
  have HD := Lib.hid hD
  have HJO := Lib.hid hJO
  clear hD hJO
  go_enter Tryz.func18, Tryz.ntmps18
  go_wp2_with (first
    | (go_at_call 19; refine ((H.out.ext hy).check _ _ (hy.heap Gt.out)).mono ?_; rintro e v1 ⟨rfl, hx⟩; replace hy := hy.trans hx; clear hx; clear f0 f1 f2 f3 l0 l1 l2 l3; obtain ⟨f0, _⟩ := (Ext.refl _).box (hy.heap G0.out); obtain ⟨f1, _⟩ := (Ext.refl _).box (hy.heap G1.out); obtain ⟨f2, _⟩ := (Ext.refl _).box (hy.heap G2.out); obtain ⟨f3, _⟩ := (Ext.refl _).box (hy.heap G3.out); have l0 := heap_lt (hy.heap G0.out); have l1 := heap_lt (hy.heap G1.out); have l2 := heap_lt (hy.heap G2.out); have l3 := heap_lt (hy.heap G3.out))
    | (go_at_call 21; refine (inL1 (alloc_at _ _ _ (by simp)) HD.out).mono ?_; rintro e v1 ⟨rfl, hx⟩; replace hx := ((Ext.refl _).alloc _).trans hx; replace hy := hy.trans hx; clear hx; clear f0 f1 f2 f3 l0 l1 l2 l3; obtain ⟨f0, _⟩ := (Ext.refl _).box (hy.heap G0.out); obtain ⟨f1, _⟩ := (Ext.refl _).box (hy.heap G1.out); obtain ⟨f2, _⟩ := (Ext.refl _).box (hy.heap G2.out); obtain ⟨f3, _⟩ := (Ext.refl _).box (hy.heap G3.out); have l0 := heap_lt (hy.heap G0.out); have l1 := heap_lt (hy.heap G1.out); have l2 := heap_lt (hy.heap G2.out); have l3 := heap_lt (hy.heap G3.out))
    | (go_at_call 22; refine (everyJ_any ja jn jc js k1 1 1 (some ⟨tb, 0, none⟩) _ (Hj.out.ext hy) hjn (hy.heap G1.out) (by omega)).mono ?_; rw [HJO.out]; rintro e v1 ⟨rfl, hx⟩; replace hy := hy.trans hx; clear hx; clear f0 f1 f2 f3 l0 l1 l2 l3; obtain ⟨f0, _⟩ := (Ext.refl _).box (hy.heap G0.out); obtain ⟨f1, _⟩ := (Ext.refl _).box (hy.heap G1.out); obtain ⟨f2, _⟩ := (Ext.refl _).box (hy.heap G2.out); obtain ⟨f3, _⟩ := (Ext.refl _).box (hy.heap G3.out); have l0 := heap_lt (hy.heap G0.out); have l1 := heap_lt (hy.heap G1.out); have l2 := heap_lt (hy.heap G2.out); have l3 := heap_lt (hy.heap G3.out))
    | (go_at_call 20; refine (need_no 53 _).mono ?_; rintro e v1 ⟨he, hx⟩; unfold stopped at he; subst he)
    | (go_at_call 20; refine (need_yes _ _).mono ?_; rintro e v1 ⟨rfl, hx⟩; replace hy := hy.trans hx; clear hx; clear f0 f1 f2 f3 l0 l1 l2 l3; obtain ⟨f0, _⟩ := (Ext.refl _).box (hy.heap G0.out); obtain ⟨f1, _⟩ := (Ext.refl _).box (hy.heap G1.out); obtain ⟨f2, _⟩ := (Ext.refl _).box (hy.heap G2.out); obtain ⟨f3, _⟩ := (Ext.refl _).box (hy.heap G3.out); have l0 := heap_lt (hy.heap G0.out); have l1 := heap_lt (hy.heap G1.out); have l2 := heap_lt (hy.heap G2.out); have l3 := heap_lt (hy.heap G3.out)))
  exact ⟨rfl, .inl ⟨53, rfl, by decide, hy.trans hx, .inl (by rw [HJO.out]; simp)⟩⟩
end Go.Proofs.YtcoelhpmkhimpaaGreatDoor

namespace Go.Proofs.YtcoelhpmkhimpaaGreatDoor
open Go.RowKit
set_option linter.unusedVariables false
set_option linter.unusedSimpArgs false
set_option maxRecDepth 100000 in
theorem cloneQ_any (a : Option Addr) (n cap : Nat) (l : List Pack) (w : World) (hl : PacksAt w a n l) (hn : n ≤ 100000) (ha : a = none → n = 0 ∧ cap = 0) : Calls Tryz.prog 24 #[.slice a n cap] w fun e w' => OwnPacks w.heap.size l e w w' := by
  have hll := hl.1
  cases a with
  | none => exact cloneP_any none n cap l w hl hn ha (fun x hx => by cases hx)
  | some x =>
    have hrl : (packRows l).length = n := by rw [packRows_len]; exact hll
    have hsl := hl.src
    have heq : (binOp .eql 28 (.slice (some x) n cap) (.slice none 0 0)).run Tryz.prog w = .ok (.bool false) w := by
      have := Go.Lib.run_eql_slice_nil (P := Tryz.prog) w 28 50 (some x) n cap 0 0 Tryz.underlying28
      simpa using this
    have Hrl := Lib.hid hrl
    have Hsl := Lib.hid hsl
    have Hl := Lib.hid hl
    clear hrl hsl hl
    go_enter Tryz.func24, Tryz.ntmps24
    go_wp2_with (at_builtin; refine wpList_app elemPack _ rfl (.tmp 5) (.tmp 6) rfl w.heap.size _ (packRows []) rfl (Owns.emptyM (alloc_at _ _ _ rfl) (Nat.le_refl _) rfl (by decide)) (some x) n cap (packRows l) rfl Hrl.out (Hsl.out.ext ((Ext.refl _).alloc _)) (packRows_row _) ?_ ?_ ?_)
    · show 0 + n ≤ 1000000000
      omega
    · simp
    intro v4 w4 ho4 hg4 _
    rw [show packRows [] ++ packRows l = packRows l from rfl] at ho4
    have hx4 : Ext w w4 := ((Ext.refl w).alloc _).app (Owns.emptyM (sz := 11) (cap := 0) (alloc_at _ _ _ rfl) (Nat.le_refl _) rfl (by decide)) hg4
    obtain ⟨a4, c4, e4, _, _, _, _⟩ := ho4.slAt
    rw [packRows_len] at e4
    subst e4
    have Ho4 := Lib.hid ho4
    have Hx4 := Lib.hid hx4
    clear ho4 hx4
    clear hg4
    go_wp2_with fail
    go_ret
    exact ⟨a4, c4, rfl, Hx4.out, Ho4.out⟩
/-- the bounds of a pack that was jolted -/
theorem jolt_bounds {l m : List Pack} {B : Int} {i : Nat} {p : Pack} (h : JoltN l m B) (hok : l.all packOk = true) (hp : m[i]? = some p) : 0 ≤ p.hurt ∧ p.hurt ≤ 6000000 + B ∧ 0 ≤ p.days ∧ p.days ≤ 100000 := by
  have hlt := (List.getElem?_eq_some_iff.1 hp).1
  obtain ⟨p0, hl⟩ : ∃ p0, l[i]? = some p0 := ⟨_, List.getElem?_eq_getElem (by have := h.len; omega)⟩
  obtain ⟨e, h1, h2⟩ := h.each i p0 p hl hp
  have hk := packIs (List.all_eq_true.1 hok p0 (List.mem_of_getElem? hl))
  have h3 := hk.hurt
  have h4 := hk.days
  have h5 : p.days = p0.days := by rw [e]
  omega
/-- in the midst of a jolt -/
def JAt (V1 : World) (la : Option Addr) (pn : Nat) (l : List Pack) (q : Nat) (u B : Int) (W : World) : Prop := ∃ m, PackSt V1 la pn m W ∧ JoltN l m B ∧ W.heap[q]? = some (.cells #[.int .i64 0, .int .i64 u] 64 (0, 0))
theorem JAt.more {V1 : World} {la : Option Addr} {pn : Nat} {l : List Pack} {q : Nat} {u A B : Int} {W : World} (h : JAt V1 la pn l q u A W) (hAB : A ≤ B) : JAt V1 la pn l q u B W :=
  let ⟨m, h1, h2, h3⟩ := h; ⟨m, h1, h2.more hAB, h3⟩
set_option maxRecDepth 100000 in
set_option maxHeartbeats 8000000 in
theorem joltF4 (k0 k1 k2 k3 k4 tb : Nat) (pa : Option Addr) (pn pc : Nat) (l : List Pack) (a1 a2 a3 : Option Addr) (n1 n2 n3 c1 c2 c3 : Nat) (t : Tied) (ja : Option Addr) (jn jc : Nat) (js : List Jolt) (days : Int) (w : World) (h : LoadIn pa pn l a1 a2 a3 n1 n2 n3 c1 c2 c3 t w) (hj : JoltsAt w ja jn js)
    (g0 : w.heap[k0]? = some (.cells #[.slice pa pn pc] 28 (0, 0))) (g1 : w.heap[k1]? = some (.cells #[.slice (some ⟨tb, 0, none⟩) 1 1] 38 (0, 0))) (gt : w.heap[tb]? = some (.cells #[.slice a1 n1 c1, .slice a2 n2 c2, .slice a3 n3 c3] 31 (0, 0))) (g2 : w.heap[k2]? = some (.cells #[.int .i64 days] 3 (0, 0))) (g3 : w.heap[k3]? = some (.cells #[.slice ja jn jc] 32 (0, 0))) (g4 : w.heap[k4]? = some (.cells #[.slice none 0 0] 28 (0, 0))) (hjn : jn ≤ 80) (hD : inB days 0 100000 = true) (h60 : jn ≤ 60) (hJO : js.all (joltOk 1) = true) (hnil : pa = none → pn = 0 ∧ pc = 0) : Calls Tryz.prog 18 #[.pointer (some ⟨k0, 0, none⟩), .pointer (some ⟨k1, 0, none⟩), .pointer (some ⟨k2, 0, none⟩), .pointer (some ⟨k3, 0, none⟩), .pointer (some ⟨k4, 0, none⟩)] w (JoltPost l pn js days k4 w) := by
  have hmf : ∀ (fn : Fn) (first cap : Array Value) (w : World), (Instr.makeFunc fn first cap).run Tryz.prog w = .ok (.func fn first cap) w := fun _ _ _ _ => rfl
  have hpan := panic35
  obtain ⟨f0, _⟩ := (Ext.refl w).box g0
  obtain ⟨f1, _⟩ := (Ext.refl w).box g1
  obtain ⟨f2, _⟩ := (Ext.refl w).box g2
  obtain ⟨f3, _⟩ := (Ext.refl w).box g3
  have l0 := heap_lt g0
  have l1 := heap_lt g1
  have l2 := heap_lt g2
  have l3 := heap_lt g3
  have hy := Ext.refl w
  replace hjn : jn ≤ 1000 := by omega
  have H := Lib.hid h
  have Hj := Lib.hid hj
  have G0 := Lib.hid g0
  have G1 := Lib.hid g1
  have Gt := Lib.hid gt
  have G2 := Lib.hid g2
  have G3 := Lib.hid g3
  have G4 := Lib.hid g4
  clear h hj g0 g1 gt g2 g3 g4
  have hjI : decide ((jn : Int) ≤ 60) = true := decide_eq_true (by omega)
  have hjN : decide (jn ≤ 60) = true := decide_eq_true h60
  have hll := H.out.packs.1
  have hjl := Hj.out.1
  have hsm := H.out.small
  obtain ⟨sm1, sm2, sm3⟩ := hsm
  have hpf := H.out.few
  have HD := Lib.hid hD
  have HJO := Lib.hid hJO
  have Hnil := Lib.hid hnil
  have Hll := Lib.hid hll
  have Hjl := Lib.hid hjl
  clear hD hJO hnil hll hjl
  go_enter Tryz.func18, Tryz.ntmps18
  go_upto_region 4 with (first
    | (go_at_call 19; refine ((H.out.ext hy).check _ _ (hy.heap Gt.out)).mono ?_; rintro e v1 ⟨rfl, hx⟩; replace hy := hy.trans hx; clear hx; clear f0 f1 f2 f3 l0 l1 l2 l3; obtain ⟨f0, _⟩ := (Ext.refl _).box (hy.heap G0.out); obtain ⟨f1, _⟩ := (Ext.refl _).box (hy.heap G1.out); obtain ⟨f2, _⟩ := (Ext.refl _).box (hy.heap G2.out); obtain ⟨f3, _⟩ := (Ext.refl _).box (hy.heap G3.out); have l0 := heap_lt (hy.heap G0.out); have l1 := heap_lt (hy.heap G1.out); have l2 := heap_lt (hy.heap G2.out); have l3 := heap_lt (hy.heap G3.out))
    | (go_at_call 21; refine (inL1 (alloc_at _ _ _ (by simp)) HD.out).mono ?_; rintro e v1 ⟨rfl, hx⟩; replace hx := ((Ext.refl _).alloc _).trans hx; replace hy := hy.trans hx; clear hx; clear f0 f1 f2 f3 l0 l1 l2 l3; obtain ⟨f0, _⟩ := (Ext.refl _).box (hy.heap G0.out); obtain ⟨f1, _⟩ := (Ext.refl _).box (hy.heap G1.out); obtain ⟨f2, _⟩ := (Ext.refl _).box (hy.heap G2.out); obtain ⟨f3, _⟩ := (Ext.refl _).box (hy.heap G3.out); have l0 := heap_lt (hy.heap G0.out); have l1 := heap_lt (hy.heap G1.out); have l2 := heap_lt (hy.heap G2.out); have l3 := heap_lt (hy.heap G3.out))
    | (go_at_call 22; refine (everyJ_any ja jn jc js k1 1 1 (some ⟨tb, 0, none⟩) _ (Hj.out.ext hy) hjn (hy.heap G1.out) (by omega)).mono ?_; rw [HJO.out]; rintro e v1 ⟨rfl, hx⟩; replace hy := hy.trans hx; clear hx; clear f0 f1 f2 f3 l0 l1 l2 l3; obtain ⟨f0, _⟩ := (Ext.refl _).box (hy.heap G0.out); obtain ⟨f1, _⟩ := (Ext.refl _).box (hy.heap G1.out); obtain ⟨f2, _⟩ := (Ext.refl _).box (hy.heap G2.out); obtain ⟨f3, _⟩ := (Ext.refl _).box (hy.heap G3.out); have l0 := heap_lt (hy.heap G0.out); have l1 := heap_lt (hy.heap G1.out); have l2 := heap_lt (hy.heap G2.out); have l3 := heap_lt (hy.heap G3.out))
    | (go_at_call 20; refine (need_yes _ _).mono ?_; rintro e v1 ⟨rfl, hx⟩; replace hy := hy.trans hx; clear hx; clear f0 f1 f2 f3 l0 l1 l2 l3; obtain ⟨f0, _⟩ := (Ext.refl _).box (hy.heap G0.out); obtain ⟨f1, _⟩ := (Ext.refl _).box (hy.heap G1.out); obtain ⟨f2, _⟩ := (Ext.refl _).box (hy.heap G2.out); obtain ⟨f3, _⟩ := (Ext.refl _).box (hy.heap G3.out); have l0 := heap_lt (hy.heap G0.out); have l1 := heap_lt (hy.heap G1.out); have l2 := heap_lt (hy.heap G2.out); have l3 := heap_lt (hy.heap G3.out)))
  generalize v1 = V1 at *
  have hcl : Calls Tryz.prog 24 #[.slice pa pn pc] V1 fun e w' => ∃ a c, e = .returned (.slice a pn c) ∧ Ext V1 w' ∧ PackSt V1 a pn l w' := by
    refine (cloneQ_any pa pn pc l V1 (H.out.packs.ext hy) (by omega) Hnil.out).mono ?_
    rintro e w' ⟨a, c, rfl, hx, ho⟩
    have := PackSt.begin hx ho
    rw [Hll.out] at this
    exact ⟨a, c, by rw [Hll.out], hx, this⟩
  have hy1 := hy
  have Hcl := Lib.hid hcl
  have Hy1 := Lib.hid hy1
  clear hcl hy1
  go_upto_region 6 with (go_at_call 24; refine Hcl.out.mono ?_; rintro e V2 ⟨la, lc, rfl, hx, hst⟩; replace hy := hy.trans hx; clear hx; clear f0 f1 f2 f3 l0 l1 l2 l3; obtain ⟨f0, _⟩ := (Ext.refl _).box (hy.heap G0.out); obtain ⟨f1, _⟩ := (Ext.refl _).box (hy.heap G1.out); obtain ⟨f2, _⟩ := (Ext.refl _).box (hy.heap G2.out); obtain ⟨f3, _⟩ := (Ext.refl _).box (hy.heap G3.out); have l0 := heap_lt (hy.heap G0.out); have l1 := heap_lt (hy.heap G1.out); have l2 := heap_lt (hy.heap G2.out); have l3 := heap_lt (hy.heap G3.out))
  clear Hcl
  have Hst := Lib.hid hst
  clear hst
  go_loopw [32] (fun i v => ∃ k : Nat, k ≤ jn ∧ i = .int .i64 k ∧ ∃ m, PackSt V1 la pn m v ∧ JoltN l m ((k : Int) * 6000000) ∧ (k = 0 → m = l)) (fun i _ => jn - (intOf i).toNat)
  case atStart => exact ⟨0, Nat.zero_le _, rfl, l, Hst.out, JoltN.refl l, fun _ => rfl⟩
  case round =>
    clear Hst hy f0 f1 f2 f3 l0 l1 l2 l3
    obtain ⟨k, hk, rfl, m, hst, hjo, hm0⟩ := hrel
    have hyw := Hy1.out.trans hst.ext
    by_cases hlt : k < jn
    · obtain ⟨jb, jo, ⟨tie, u⟩, rfl, hjk, hjb, d0, d1⟩ := (Hj.out.ext hyw).get k hlt
      have hok := List.all_eq_true.1 HJO.out _ (List.mem_of_getElem? hjk)
      unfold joltOk at hok
      simp only [Bool.and_eq_true] at hok
      have ht := inB_is hok.1
      have hu := inB_is hok.2
      obtain rfl : tie = 0 := by omega
      simp only at d0 d1 hu
      have hbq : ∀ b : Nat, 0 < pn → la = some ⟨b, 0, none⟩ → b ≠ wr.heap.size := by
        intro b hp hb
        obtain ⟨b', e1, _, e3⟩ := hst.row hp
        rw [hb] at e1
        cases e1
        have := e3.lt
        omega
      obtain ⟨f1, _⟩ := (Ext.refl wr).box (hyw.heap G1.out)
      obtain ⟨ft, _⟩ := (Ext.refl wr).box (hyw.heap Gt.out)
      have l1 := heap_lt (hyw.heap G1.out)
      have lt := heap_lt (hyw.heap Gt.out)
      have hst7 := hst.next ((Ext.refl wr).alloc (.cells #[.int .i64 0, .int .i64 u] 64))
      have hq7 := heap_alloc_new wr (.cells #[.int .i64 0, .int .i64 u] 64)
      have Hbq := Lib.hid hbq
      have Hst7 := Lib.hid hst7
      have Hq7 := Lib.hid hq7
      have Hjo := Lib.hid hjo
      have Hyw := Lib.hid hyw
      have Hu := Lib.hid hu
      clear hbq hst7 hq7 hjo hyw hu
      clear hjk hok hst ht
      go_upto_region 9 with (go_at_call 25; refine (lists_any _ _ _ _ _ _ _ _ _ _).mono ?_; rintro e v5 ⟨rfl, hx5⟩; have hst8 := Hst7.out.next hx5; have hq8 := hx5.heap Hq7.out)
      generalize wr.heap.size = q at *
      clear Hst7 Hq7 hx5 f1 ft l1 lt Hyw
      have Hst8 := Lib.hid hst8
      have Hq8 := Lib.hid hq8
      clear hst8 hq8
      go_loopw [42] (fun i v => (i = .int .i64 0 ∧ JAt V1 la pn l q u ((k : Int) * 6000000 + 0 * 2000000) v) ∨ (i = .int .i64 1 ∧ JAt V1 la pn l q u ((k : Int) * 6000000 + 1 * 2000000) v) ∨ (i = .int .i64 2 ∧ JAt V1 la pn l q u ((k : Int) * 6000000 + 2 * 2000000) v) ∨ (i = .int .i64 3 ∧ JAt V1 la pn l q u ((k : Int) * 6000000 + 3 * 2000000) v)) (fun i _ => 3 - (intOf i).toNat)
      case atStart => exact .inl ⟨rfl, m, Hst8.out, Hjo.out.more (by omega), Hq8.out⟩
      case round =>
        clear Hst8 Hq8 Hjo hm0 m
        obtain ⟨wr0, rfl⟩ : ∃ wr0 : World, wr0 = wr := ⟨_, rfl⟩
        rcases hrel with ⟨rfl, hJ⟩ | ⟨rfl, hJ⟩ | ⟨rfl, hJ⟩ | ⟨rfl, hJ⟩
        · have hpl := place0 a1 a2 a3 n1 n2 n3 c1 c2 c3
          have HJ := Lib.hid hJ
          clear hJ
          go_upto_region 12 with fail
          clear hpl
          go_loopw [48] (fun i v => ∃ jj : Nat, jj ≤ n1 ∧ i = .int .i64 jj ∧ JAt V1 la pn l q u ((k : Int) * 6000000 + 0 * 2000000 + (jj : Int) * 200000) v) (fun i _ => n1 - (intOf i).toNat)
          case atStart => exact ⟨0, Nat.zero_le _, rfl, HJ.out.more (by omega)⟩
          case round =>
            clear HJ
            obtain ⟨jj, hjj, rfl, m, hst, hjo, hq⟩ := hrel
            by_cases hlt : jj < n1
            · obtain ⟨lb, lo, x, rfl, hxk, hlb, c0⟩ := (H.out.tied.left.ext (Hy1.out.trans hst.ext)).get jj hlt
              obtain ⟨hx1, hx2⟩ := H.out.ties.range x (by unfold allOf; simp [List.mem_of_getElem? hxk])
              obtain ⟨i, rfl⟩ : ∃ i : Nat, x = (i : Int) := ⟨x.toNat, by omega⟩
              have hpos : 0 < pn := by omega
              have hip : i < pn := by omega
              obtain ⟨b, rfl, hbV, hrow⟩ := hst.row hpos
              obtain ⟨p, hmi⟩ : ∃ p, m[i]? = some p := ⟨_, List.getElem?_eq_getElem (by have := hjo.len; have := Hll.out; omega)⟩
              have hbd := jolt_bounds hjo H.out.ok hmi
              obtain ⟨hbd1, hbd2⟩ : 0 ≤ p.hurt ∧ p.hurt ≤ 400000000 := by omega
              have hu1 := Hu.out.1
              have hu2 := Hu.out.2
              clear hbd
              have d9 := hrow.cell (packRows_get hmi) (j := 9) (v := .int .i64 p.hurt) rfl
              have e9 := hrow.free (i * 11 + 9)
              have hne := Hbq.out _ hpos rfl
              have hne2 := Ne.symm hne
              have hbl := hrow.lt
              have hql := heap_lt hq
              obtain ⟨z0, z1⟩ := (Ext.refl wr).box hq
              have hst2 := ((hst.hurt hmi (p.hurt + u)).resolve_right (by omega)).next (Ext.refl _).drew
              have hq2 := (Ext.refl _).drew.heap (set1_other (j := i * 11 + 9) hq hne2 (.int .i64 (p.hurt + u)))
              have hjo2 := hjo.set Hu.out.1 hmi
              have hmi2 : (m.set i { p with hurt := p.hurt + u })[i]? = some { p with hurt := p.hurt + u } := List.getElem?_set_self (List.getElem?_eq_some_iff.1 hmi).1
              have Hst2 := Lib.hid hst2
              have Hq2 := Lib.hid hq2
              have Hjo2 := Lib.hid hjo2
              have Hst := Lib.hid hst
              have Hjo := Lib.hid hjo
              have Hrow := Lib.hid hrow
              have Hq := Lib.hid hq
              have Hmi2 := Lib.hid hmi2
              clear hst2 hq2 hjo2 hst hjo hrow hq hmi2
              clear hmi hxk
              go_upto_region 14 with fail
              go_region
              go_wp2_with fail
              go_roundw
              case rel => exact ⟨jj + 1, by omega, by go_num, _, Hst2.out, Hjo2.out.more (by have := Hu.out; omega), Hq2.out⟩
              case measure => simp [intOf]; omega
            · have hJ : JAt V1 la pn l q u ((k : Int) * 6000000 + (0 + 1) * 2000000) wr := ⟨m, hst, hjo.more (by omega), hq⟩
              have HJ := Lib.hid hJ
              clear hJ
              clear hst hjo hq
              go_wp2_with fail
              go_roundw
              case rel => exact .inr (.inl ⟨by go_num, HJ.out⟩)
              case measure => simp [intOf]
        · have hpl := place1 a1 a2 a3 n1 n2 n3 c1 c2 c3
          have HJ := Lib.hid hJ
          clear hJ
          go_upto_region 12 with fail
          clear hpl
          go_loopw [48] (fun i v => ∃ jj : Nat, jj ≤ n2 ∧ i = .int .i64 jj ∧ JAt V1 la pn l q u ((k : Int) * 6000000 + 1 * 2000000 + (jj : Int) * 200000) v) (fun i _ => n2 - (intOf i).toNat)
          case atStart => exact ⟨0, Nat.zero_le _, rfl, HJ.out.more (by omega)⟩
          case round =>
            clear HJ
            obtain ⟨jj, hjj, rfl, m, hst, hjo, hq⟩ := hrel
            by_cases hlt : jj < n2
            · obtain ⟨lb, lo, x, rfl, hxk, hlb, c0⟩ := (H.out.tied.right.ext (Hy1.out.trans hst.ext)).get jj hlt
              obtain ⟨hx1, hx2⟩ := H.out.ties.range x (by unfold allOf; simp [List.mem_of_getElem? hxk])
              obtain ⟨i, rfl⟩ : ∃ i : Nat, x = (i : Int) := ⟨x.toNat, by omega⟩
              have hpos : 0 < pn := by omega
              have hip : i < pn := by omega
              obtain ⟨b, rfl, hbV, hrow⟩ := hst.row hpos
              obtain ⟨p, hmi⟩ : ∃ p, m[i]? = some p := ⟨_, List.getElem?_eq_getElem (by have := hjo.len; have := Hll.out; omega)⟩
              have hbd := jolt_bounds hjo H.out.ok hmi
              obtain ⟨hbd1, hbd2⟩ : 0 ≤ p.hurt ∧ p.hurt ≤ 400000000 := by omega
              have hu1 := Hu.out.1
              have hu2 := Hu.out.2
              clear hbd
              have d9 := hrow.cell (packRows_get hmi) (j := 9) (v := .int .i64 p.hurt) rfl
              have e9 := hrow.free (i * 11 + 9)
              have hne := Hbq.out _ hpos rfl
              have hne2 := Ne.symm hne
              have hbl := hrow.lt
              have hql := heap_lt hq
              obtain ⟨z0, z1⟩ := (Ext.refl wr).box hq
              have hst2 := ((hst.hurt hmi (p.hurt + u)).resolve_right (by omega)).next (Ext.refl _).drew
              have hq2 := (Ext.refl _).drew.heap (set1_other (j := i * 11 + 9) hq hne2 (.int .i64 (p.hurt + u)))
              have hjo2 := hjo.set Hu.out.1 hmi
              have hmi2 : (m.set i { p with hurt := p.hurt + u })[i]? = some { p with hurt := p.hurt + u } := List.getElem?_set_self (List.getElem?_eq_some_iff.1 hmi).1
              have Hst2 := Lib.hid hst2
              have Hq2 := Lib.hid hq2
              have Hjo2 := Lib.hid hjo2
              have Hst := Lib.hid hst
              have Hjo := Lib.hid hjo
              have Hrow := Lib.hid hrow
              have Hq := Lib.hid hq
              have Hmi2 := Lib.hid hmi2
              clear hst2 hq2 hjo2 hst hjo hrow hq hmi2
              clear hmi hxk
              go_upto_region 14 with fail
              go_region
              go_wp2_with fail
              go_roundw
              case rel => exact ⟨jj + 1, by omega, by go_num, _, Hst2.out, Hjo2.out.more (by have := Hu.out; omega), Hq2.out⟩
              case measure => simp [intOf]; omega
            · have hJ : JAt V1 la pn l q u ((k : Int) * 6000000 + (1 + 1) * 2000000) wr := ⟨m, hst, hjo.more (by omega), hq⟩
              have HJ := Lib.hid hJ
              clear hJ
              clear hst hjo hq
              go_wp2_with fail
              go_roundw
              case rel => exact .inr (.inr (.inl ⟨by go_num, HJ.out⟩))
              case measure => simp [intOf]
        · have hpl := place2 a1 a2 a3 n1 n2 n3 c1 c2 c3
          have HJ := Lib.hid hJ
          clear hJ
          go_upto_region 12 with fail
          clear hpl
          go_loopw [48] (fun i v => ∃ jj : Nat, jj ≤ n3 ∧ i = .int .i64 jj ∧ JAt V1 la pn l q u ((k : Int) * 6000000 + 2 * 2000000 + (jj : Int) * 200000) v) (fun i _ => n3 - (intOf i).toNat)
          case atStart => exact ⟨0, Nat.zero_le _, rfl, HJ.out.more (by omega)⟩
          case round =>
            clear HJ
            obtain ⟨jj, hjj, rfl, m, hst, hjo, hq⟩ := hrel
            by_cases hlt : jj < n3
            · obtain ⟨lb, lo, x, rfl, hxk, hlb, c0⟩ := (H.out.tied.top.ext (Hy1.out.trans hst.ext)).get jj hlt
              obtain ⟨hx1, hx2⟩ := H.out.ties.range x (by unfold allOf; simp [List.mem_of_getElem? hxk])
              obtain ⟨i, rfl⟩ : ∃ i : Nat, x = (i : Int) := ⟨x.toNat, by omega⟩
              have hpos : 0 < pn := by omega
              have hip : i < pn := by omega
              obtain ⟨b, rfl, hbV, hrow⟩ := hst.row hpos
              obtain ⟨p, hmi⟩ : ∃ p, m[i]? = some p := ⟨_, List.getElem?_eq_getElem (by have := hjo.len; have := Hll.out; omega)⟩
              have hbd := jolt_bounds hjo H.out.ok hmi
              obtain ⟨hbd1, hbd2⟩ : 0 ≤ p.hurt ∧ p.hurt ≤ 400000000 := by omega
              have hu1 := Hu.out.1
              have hu2 := Hu.out.2
              clear hbd
              have d9 := hrow.cell (packRows_get hmi) (j := 9) (v := .int .i64 p.hurt) rfl
              have e9 := hrow.free (i * 11 + 9)
              have hne := Hbq.out _ hpos rfl
              have hne2 := Ne.symm hne
              have hbl := hrow.lt
              have hql := heap_lt hq
              obtain ⟨z0, z1⟩ := (Ext.refl wr).box hq
              have hst2 := ((hst.hurt hmi (p.hurt + u)).resolve_right (by omega)).next (Ext.refl _).drew
              have hq2 := (Ext.refl _).drew.heap (set1_other (j := i * 11 + 9) hq hne2 (.int .i64 (p.hurt + u)))
              have hjo2 := hjo.set Hu.out.1 hmi
              have hmi2 : (m.set i { p with hurt := p.hurt + u })[i]? = some { p with hurt := p.hurt + u } := List.getElem?_set_self (List.getElem?_eq_some_iff.1 hmi).1
              have Hst2 := Lib.hid hst2
              have Hq2 := Lib.hid hq2
              have Hjo2 := Lib.hid hjo2
              have Hst := Lib.hid hst
              have Hjo := Lib.hid hjo
              have Hrow := Lib.hid hrow
              have Hq := Lib.hid hq
              have Hmi2 := Lib.hid hmi2
              clear hst2 hq2 hjo2 hst hjo hrow hq hmi2
              clear hmi hxk
              go_upto_region 14 with fail
              go_region
              clear d9 e9 z0 z1 hbl hql Hst Hjo Hrow Hq
              generalize (wr.setCell ⟨b, i * 11 + 9, none⟩ (.int .i64 (p.hurt + u))).drew = X at *
              obtain ⟨b', eb, _, hrow2⟩ := Hst2.out.row hpos
              cases eb
              have d9 := hrow2.cell (packRows_get Hmi2.out) (j := 9) (v := .int .i64 (p.hurt + u)) rfl
              have e9 := hrow2.free (i * 11 + 9)
              have hbl := hrow2.lt
              have hql := heap_lt Hq2.out
              obtain ⟨z0, z1⟩ := (Ext.refl X).box Hq2.out
              have hst3 := ((Hst2.out.hurt Hmi2.out (p.hurt + u + u)).resolve_right (by omega)).next (Ext.refl _).drew
              have hq3 := (Ext.refl _).drew.heap (set1_other (j := i * 11 + 9) Hq2.out hne2 (.int .i64 (p.hurt + u + u)))
              have hjo3 := Hjo2.out.set Hu.out.1 Hmi2.out
              have Hst3 := Lib.hid hst3
              have Hq3 := Lib.hid hq3
              have Hjo3 := Lib.hid hjo3
              have Hrow2 := Lib.hid hrow2
              clear hst3 hq3 hjo3 hrow2
              clear Hst2 Hq2 Hjo2 Hmi2
              go_upto_region 16 with fail
              go_region
              go_wp2_with fail
              go_roundw
              case rel => exact ⟨jj + 1, by omega, by go_num, _, Hst3.out, Hjo3.out.more (by have := Hu.out; omega), Hq3.out⟩
              case measure => simp [intOf]; omega
            · have hJ : JAt V1 la pn l q u ((k : Int) * 6000000 + (2 + 1) * 2000000) wr := ⟨m, hst, hjo.more (by omega), hq⟩
              have HJ := Lib.hid hJ
              clear hJ
              clear hst hjo hq
              go_wp2_with fail
              go_roundw
              case rel => exact .inr (.inr (.inr ⟨by go_num, HJ.out⟩))
              case measure => simp [intOf]
        · obtain ⟨m, hst, hjo, hq⟩ := hJ
          have Hst := Lib.hid hst
          have Hjo := Lib.hid hjo
          clear hst hjo
          clear hq
          go_wp2_with fail
          go_roundw
          case rel => exact ⟨k + 1, by omega, by go_num, m, Hst.out, Hjo.out.more (by omega), fun h => by omega⟩
          case measure => simp [intOf]; omega
    · obtain rfl : k = jn := by omega
      have hjo60 := hjo.more (show (k : Int) * 6000000 ≤ 360000000 by omega)
      have hme : js = [] → m = l := fun e => hm0 (by have := Hjl.out; rw [e] at this; simpa using this.symm)
      have hdd := inB_is HD.out
      have hlen : m.length = pn := hjo.len.trans Hll.out
      obtain ⟨f2, _⟩ := (Ext.refl wr).box (hyw.heap G2.out)
      have l2 := heap_lt (hyw.heap G2.out)
      have Hst := Lib.hid hst
      have Hjo60 := Lib.hid hjo60
      have Hme := Lib.hid hme
      have Hlen := Lib.hid hlen
      clear hst hjo60 hme hlen
      clear hjo hm0
      go_upto_region 21 with fail
      clear f2 l2 hyw
      obtain ⟨hd1, hd2⟩ := hdd
      go_loopw [79] (fun i v => ∃ n : Nat, n ≤ pn ∧ i = .int .i64 n ∧ PackSt V1 la pn (daysTo days m n) v) (fun i _ => pn - (intOf i).toNat)
      case atStart => exact ⟨0, Nat.zero_le _, rfl, by rw [daysTo_zero]; exact Hst.out⟩
      case round =>
        clear Hst
        obtain ⟨n, hn, rfl, hst⟩ := hrel
        have hyw := Hy1.out.trans hst.ext
        by_cases hlt : n < pn
        · have hpos : 0 < pn := by omega
          obtain ⟨b, rfl, hbV, hrow⟩ := hst.row hpos
          obtain ⟨p, hmi⟩ : ∃ p, m[n]? = some p := ⟨_, List.getElem?_eq_getElem (by have := Hlen.out; omega)⟩
          obtain ⟨_, _, hb1, hb2⟩ := jolt_bounds Hjo60.out H.out.ok hmi
          have hmd := daysTo_get (d := days) hmi
          have d10 := hrow.cell (packRows_get hmd) (j := 10) (v := .int .i64 p.days) rfl
          have e10 := hrow.free (n * 11 + 10)
          obtain ⟨f2, f2'⟩ := (Ext.refl wr).box (hyw.heap G2.out)
          have l2 := heap_lt (hyw.heap G2.out)
          have hne : b ≠ k2 := by have := Hy1.out.heap G2.out; have := heap_lt this; omega
          have hne2 := Ne.symm hne
          have hbl := hrow.lt
          have hst2 := ((hst.days hmd (p.days + days)).resolve_right (by omega)).next (Ext.refl _).drew
          rw [daysTo_set hmi] at hst2
          have Hst2 := Lib.hid hst2
          have Hst := Lib.hid hst
          have Hrow := Lib.hid hrow
          clear hst2 hst hrow
          clear hmi hmd hyw hbV
          go_upto_region 23 with fail
          go_region
          go_wp2_with fail
          go_roundw
          case rel => exact ⟨n + 1, by omega, by go_num, Hst2.out⟩
          case measure => simp [intOf]; omega
        · obtain rfl : n = pn := by omega
          have hall : daysTo days m n = aged days m := by
            have := daysTo_all days m
            rw [Hlen.out] at this
            exact this
          rw [hall] at hst
          have hpk := hst.packs (by unfold aged; rw [List.length_map]; exact Hlen.out)
          have hev := everyP_any la n lc (aged days m) wr hpk (by omega) (H.out.nil0.ext hyw)
          obtain ⟨G, hG⟩ : ∃ G, (aged days m).all packOk = G := ⟨_, rfl⟩
          rw [hG] at hev
          have g4w := hyw.heap G4.out
          obtain ⟨f4, f4'⟩ := (Ext.refl wr).box g4w
          have l4 := heap_lt g4w
          have Hst := Lib.hid hst
          have Hpk := Lib.hid hpk
          have Hev := Lib.hid hev
          have HG := Lib.hid hG
          have Hyw := Lib.hid hyw
          have G4w := Lib.hid g4w
          clear hst hpk hev hG hyw g4w
          clear hall f4 f4' l4
          cases G with
          | false =>
            go_wp2_with (first
              | (go_at_call 26; refine Hev.out.mono ?_; rintro e v1 ⟨rfl, hx⟩)
              | (go_at_call 20; refine (need_no 9 _).mono ?_; rintro e v2 ⟨he, hx2⟩; unfold stopped at he; subst he))
            exact ⟨rfl, .inl ⟨9, rfl, by decide, Hyw.out.trans (hx.trans hx2), .inr ⟨m, Hjo60.out, Hme.out, HG.out⟩⟩⟩
          | true =>
            go_wp2_with (first
              | (go_at_call 26; refine Hev.out.mono ?_; rintro e v1 ⟨rfl, hx⟩)
              | (go_at_call 20; refine (need_yes _ _).mono ?_; rintro e v2 ⟨rfl, hx2⟩; have hy2 := Hyw.out.trans (hx.trans hx2); have g42 := hy2.heap G4.out; obtain ⟨f4, f4'⟩ := (Ext.refl v2).box g42; have l4 := heap_lt g42))
            go_end0
            refine .inr ⟨rfl, la, lc, m, Hjo60.out, Hme.out, HG.out, HD.out, Boxed.of g42 (hy2.but _) _, ?_⟩
            have hp2 := Hpk.out.ext (hx.trans hx2)
            rcases Nat.eq_zero_or_pos n with h0 | h0
            · exact ⟨hp2.1, fun hn => by omega⟩
            · obtain ⟨b, rfl, hbV, _⟩ := Hst.out.row h0
              refine stop_ne hp2 (fun b' o e => ?_) _
              cases e
              have := heap_lt (Hy1.out.heap G4.out)
              omega
end Go.Proofs.YtcoelhpmkhimpaaGreatDoor

namespace Go.Proofs.YtcoelhpmkhimpaaGreatDoor
open Go.RowKit
set_option linter.unusedVariables false
set_option linter.unusedSimpArgs false
/-- a try whose one box is told -/
theorem told_try {w W4 V : World} {k T : Nat} {v : Value} (h : Boxed k T v (W4.alloc (.cells #[.int .i64 0] 35)) V) (hx4 : Ext w W4) (hk : w.heap.size ≤ k) (hk4 : k < W4.heap.size) :
    V.cell? ⟨W4.heap.size, 0, none⟩ = some (.int .i64 0) ∧ V.frozen? ⟨W4.heap.size, 0, none⟩ = false ∧ ∃ j : Int, ((Ending.returned (.tuple #[]) = .returned (.tuple #[]) ∧ j = 0) ∨ Ending.returned (.tuple #[]) = .panicked [{ v := .iface 35 (.int .i64 j), recovered := false }]) ∧ (j = 0 ∧ Ext w (V.setCell ⟨W4.heap.size, 0, none⟩ (.int .i64 j)) ∧ (V.setCell ⟨W4.heap.size, 0, none⟩ (.int .i64 j)).heap[k]? = some (.cells #[v] T (0, 0))) := by
  have hp6 := h.but.block _ _ (heap_alloc_new W4 (.cells #[.int .i64 0] 35)) (by omega)
  have hx6 : Ext w V := But.ext (hx4.alloc _) h.but (by rintro b rfl; exact hk)
  exact try_done (G := fun j X => j = 0 ∧ Ext w X ∧ X.heap[k]? = some (.cells #[v] T (0, 0))) hp6 ⟨rfl, set1_ext hx6 hx4.size _ _, set1_other h.box (by omega) _⟩
set_option maxRecDepth 100000 in
set_option maxHeartbeats 8000000 in
theorem ready8_any (s : Breed) (c : Camel) (pa : Option Addr) (pn pc : Nat) (l : List Pack) (a1 a2 a3 : Option Addr) (n1 n2 n3 c1 c2 c3 : Nat) (t : Tied) (bound : Int) (w : World) (h : LoadIn pa pn l a1 a2 a3 n1 n2 n3 c1 c2 c3 t w) (hbs : BreedOk s) (hcs : CamelOk s c) (h0 : camelErr s c = 0) (hb : 0 ≤ bound ∧ bound ≤ 1000000000) :
    Calls Tryz.prog 8 #[s.val, c.val, .slice pa pn pc, .agg #[.slice a1 n1 c1, .slice a2 n2 c2, .slice a3 n3 c3], .int .i64 bound] w fun e w' => e = .returned (.tuple #[.int .u8 (readyOf l t bound (carryOf s c)), .int .i64 0]) ∧ Ext w w' := by
  have hmf : ∀ (fn : Fn) (first cap : Array Value) (w : World), (Instr.makeFunc fn first cap).run Tryz.prog w = .ok (.func fn first cap) w := fun _ _ _ _ => rfl
  have hfn := fun k0 k1 k2 k3 k4 k5 W (hW : Ext w W) => readyF_any k0 k1 k2 k3 k4 k5 s c pa pn pc l a1 a2 a3 n1 n2 n3 c1 c2 c3 t bound 0 W (h.ext hW) hbs hcs h0
  generalize readyOf l t bound (carryOf s c) = E at *
  clear hbs hcs h0 h
  obtain ⟨fu, fe, ⟨r0, r1⟩, ⟨h0, h1⟩, ⟨t0, t1⟩, ⟨b0, b1⟩, ⟨u0, u1⟩, ⟨m0, m1⟩, hl, ⟨s0, s1⟩⟩ := s
  obtain ⟨⟨w0, w1⟩, ⟨e0, e1⟩, ⟨o0, o1⟩, mk⟩ := c
  unfold Breed.val Camel.val
  simp only
  obtain ⟨W4, hW4⟩ : ∃ W4, (((((w.alloc (.cells #[.int .i64 fu, .int .i64 fe, .int .i64 r0, .int .i64 r1, .int .i64 h0, .int .i64 h1, .int .i64 t0, .int .i64 t1, .int .i64 b0, .int .i64 b1, .int .i64 u0, .int .i64 u1, .int .i64 m0, .int .i64 m1, .int .i64 hl, .int .i64 s0, .int .i64 s1] 25)).alloc (.cells #[.int .i64 w0, .int .i64 w1, .int .i64 e0, .int .i64 e1, .int .i64 o0, .int .i64 o1, .bool mk] 27)).alloc (.cells #[.slice pa pn pc] 28)).alloc (.cells #[.slice a1 n1 c1, .slice a2 n2 c2, .slice a3 n3 c3] 31)).alloc (.cells #[.int .i64 bound] 3)).alloc (.cells #[.int .u8 0] 5) = W4 := ⟨_, rfl⟩
  have hx4 : Ext w W4 := by rw [← hW4]; exact ((((((Ext.refl w).alloc _).alloc _).alloc _).alloc _).alloc _).alloc _
  have g2 : W4.heap[w.heap.size]? = some (.cells #[.int .i64 fu, .int .i64 fe, .int .i64 r0, .int .i64 r1, .int .i64 h0, .int .i64 h1, .int .i64 t0, .int .i64 t1, .int .i64 b0, .int .i64 b1, .int .i64 u0, .int .i64 u1, .int .i64 m0, .int .i64 m1, .int .i64 hl, .int .i64 s0, .int .i64 s1] 25 (0, 0)) := by rw [← hW4]; exact alloc_heap (alloc_heap (alloc_heap (alloc_heap (alloc_heap (heap_alloc_new w _) _) _) _) _) _
  have g3 : W4.heap[w.heap.size + 1]? = some (.cells #[.int .i64 w0, .int .i64 w1, .int .i64 e0, .int .i64 e1, .int .i64 o0, .int .i64 o1, .bool mk] 27 (0, 0)) := by rw [← hW4]; exact alloc_heap (alloc_heap (alloc_heap (alloc_heap (alloc_at _ _ _ (by simp)) _) _) _) _
  have g0 : W4.heap[w.heap.size + 1 + 1]? = some (.cells #[.slice pa pn pc] 28 (0, 0)) := by rw [← hW4]; exact alloc_heap (alloc_heap (alloc_heap (alloc_at _ _ _ (by simp)) _) _) _
  have g1 : W4.heap[w.heap.size + 1 + 1 + 1]? = some (.cells #[.slice a1 n1 c1, .slice a2 n2 c2, .slice a3 n3 c3] 31 (0, 0)) := by rw [← hW4]; exact alloc_heap (alloc_heap (alloc_at _ _ _ (by simp)) _) _
  have g4 : W4.heap[w.heap.size + 1 + 1 + 1 + 1]? = some (.cells #[.int .i64 bound] 3 (0, 0)) := by rw [← hW4]; exact alloc_heap (alloc_at _ _ _ (by simp)) _
  have g5 : W4.heap[w.heap.size + 1 + 1 + 1 + 1 + 1]? = some (.cells #[.int .u8 0] 5 (0, 0)) := by rw [← hW4]; exact alloc_at _ _ _ (by simp)
  have hx5 := (Ext.refl W4).alloc (.cells #[.int .i64 0] 35)
  have htry := trying_any 30 #[.pointer (some ⟨w.heap.size + 1 + 1, 0, none⟩), .pointer (some ⟨w.heap.size + 1 + 1 + 1, 0, none⟩), .pointer (some ⟨w.heap.size, 0, none⟩), .pointer (some ⟨w.heap.size + 1, 0, none⟩), .pointer (some ⟨w.heap.size + 1 + 1 + 1 + 1, 0, none⟩), .pointer (some ⟨w.heap.size + 1 + 1 + 1 + 1 + 1, 0, none⟩)] (fun _ => rfl) W4 (fun k V => k = 0 ∧ Ext w V ∧ V.heap[w.heap.size + 1 + 1 + 1 + 1 + 1]? = some (.cells #[.int .u8 E] 5 (0, 0))) (by
    refine (hfn _ _ _ _ _ _ _ (hx4.trans hx5) (hx5.heap g0) (hx5.heap g1) (hx5.heap g2) (hx5.heap g3) (hx5.heap g4) (hx5.heap g5) hb).mono ?_
    rintro e V ⟨rfl, hB⟩
    exact told_try hB hx4 (by omega) (heap_lt g5))
  have Htry := Lib.hid htry
  clear htry
  clear hfn hb g0 g1 g2 g3 g4 g5 hx5 hx4
  go_enter Tryz.func8, Tryz.ntmps8
  go_upto_region 1 with fail
  clear hW4
  go_wp2_with (go_at_call 17; refine Htry.out.mono ?_; rintro e V ⟨k, rfl, rfl, hx, hk3⟩; have hk3l := heap_lt hk3; obtain ⟨f0, f1⟩ := (Ext.refl V).box hk3)
  have e1 : (V.setCell ⟨w.heap.size + 1 + 1 + 1 + 1 + 1, 0, none⟩ (.int .u8 E)).cell? ⟨w.heap.size + 1 + 1 + 1 + 1 + 1, 0, none⟩ = some (.int .u8 E) := by simpa using ((Ext.refl _).box (set1_box hk3 (.int .u8 E))).1 0
  refine bodyPost_ret (v := .tuple #[.int .u8 E, .int .i64 0]) (by simp [results, Tryz.results8, asAddr, go_sem, e1]) rfl ?_
  exact ⟨rfl, set1_ext hx (by omega) _ _⟩
end Go.Proofs.YtcoelhpmkhimpaaGreatDoor

namespace Go.Proofs.YtcoelhpmkhimpaaGreatDoor
open Go.RowKit
set_option linter.unusedVariables false
set_option linter.unusedSimpArgs false
theorem joltF_any (k0 k1 k2 k3 k4 tb : Nat) (pa : Option Addr) (pn pc : Nat) (l : List Pack) (a1 a2 a3 : Option Addr) (n1 n2 n3 c1 c2 c3 : Nat) (t : Tied) (ja : Option Addr) (jn jc : Nat) (js : List Jolt) (days : Int) (w : World) (h : LoadIn pa pn l a1 a2 a3 n1 n2 n3 c1 c2 c3 t w) (hj : JoltsAt w ja jn js)
    (g0 : w.heap[k0]? = some (.cells #[.slice pa pn pc] 28 (0, 0))) (g1 : w.heap[k1]? = some (.cells #[.slice (some ⟨tb, 0, none⟩) 1 1] 38 (0, 0))) (gt : w.heap[tb]? = some (.cells #[.slice a1 n1 c1, .slice a2 n2 c2, .slice a3 n3 c3] 31 (0, 0))) (g2 : w.heap[k2]? = some (.cells #[.int .i64 days] 3 (0, 0))) (g3 : w.heap[k3]? = some (.cells #[.slice ja jn jc] 32 (0, 0))) (g4 : w.heap[k4]? = some (.cells #[.slice none 0 0] 28 (0, 0))) (hjn : jn ≤ 80) (hnil : pa = none → pn = 0 ∧ pc = 0) : Calls Tryz.prog 18 #[.pointer (some ⟨k0, 0, none⟩), .pointer (some ⟨k1, 0, none⟩), .pointer (some ⟨k2, 0, none⟩), .pointer (some ⟨k3, 0, none⟩), .pointer (some ⟨k4, 0, none⟩)] w (JoltPost l pn js days k4 w) := by
  cases hD : inB days 0 100000 with
  | false => exact joltF1 k0 k1 k2 k3 k4 tb pa pn pc l a1 a2 a3 n1 n2 n3 c1 c2 c3 t ja jn jc js days w h hj g0 g1 gt g2 g3 g4 hjn hD
  | true =>
    by_cases h60 : jn ≤ 60
    · cases hJO : js.all (joltOk 1) with
      | false => exact joltF3 k0 k1 k2 k3 k4 tb pa pn pc l a1 a2 a3 n1 n2 n3 c1 c2 c3 t ja jn jc js days w h hj g0 g1 gt g2 g3 g4 hjn hD h60 hJO
      | true => exact joltF4 k0 k1 k2 k3 k4 tb pa pn pc l a1 a2 a3 n1 n2 n3 c1 c2 c3 t ja jn jc js days w h hj g0 g1 gt g2 g3 g4 hjn hD h60 hJO hnil
    · exact joltF2 k0 k1 k2 k3 k4 tb pa pn pc l a1 a2 a3 n1 n2 n3 c1 c2 c3 t ja jn jc js days w h hj g0 g1 gt g2 g3 g4 hjn hD h60
/-- why load.Jolted stops -/
def NoJolt (l : List Pack) (js : List Jolt) (days : Int) : Prop := (inB days 0 100000 && decide (js.length ≤ 60) && js.all (joltOk 1)) = false ∨ ∃ m, JoltN l m 360000000 ∧ (js = [] → m = l) ∧ (aged days m).all packOk = false
/-- what load.Jolted says of its packs -/
structure Jolteds (l : List Pack) (pn : Nat) (js : List Jolt) (days : Int) (la : Option Addr) (W : World) (m : List Pack) : Prop where
  jolt : JoltN l m 360000000
  same : js = [] → m = l
  ok : (aged days m).all packOk = true
  inDays : inB days 0 100000 = true
  packs : PacksAt W la pn (aged days m)
/-- what load.Jolted tried -/
def JoltTry (l : List Pack) (pn : Nat) (js : List Jolt) (days : Int) (k : Nat) (w : World) (c : Int) (V : World) : Prop :=
  Ext w V ∧ ((c ≠ 0 ∧ V.heap[k]? = some (.cells #[.slice none 0 0] 28 (0, 0)) ∧ NoJolt l js days) ∨ (c = 0 ∧ ∃ la lc m, V.heap[k]? = some (.cells #[.slice la pn lc] 28 (0, 0)) ∧ Jolteds l pn js days la V m))
theorem jolt_try {l : List Pack} {pn : Nat} {js : List Jolt} {days : Int} {k : Nat} {w W4 V : World} {e : Ending} (h : JoltPost l pn js days k (W4.alloc (.cells #[.int .i64 0] 35)) e V) (hx4 : Ext w W4) (hk : w.heap.size ≤ k) (hg : W4.heap[k]? = some (.cells #[.slice none 0 0] 28 (0, 0))) :
    V.cell? ⟨W4.heap.size, 0, none⟩ = some (.int .i64 0) ∧ V.frozen? ⟨W4.heap.size, 0, none⟩ = false ∧ ∃ j : Int, ((e = .returned (.tuple #[]) ∧ j = 0) ∨ e = .panicked [{ v := .iface 35 (.int .i64 j), recovered := false }]) ∧ JoltTry l pn js days k w j (V.setCell ⟨W4.heap.size, 0, none⟩ (.int .i64 j)) := by
  have hp5 := heap_alloc_new W4 (.cells #[.int .i64 0] 35)
  have hx5 := (Ext.refl W4).alloc (.cells #[.int .i64 0] 35)
  have hkl := heap_lt hg
  rcases h with ⟨c, rfl, hc, hx, hr⟩ | ⟨rfl, la, lc, m, h1, h2, h3, h4, hB, hp⟩
  · obtain ⟨z0, z1⟩ := (Ext.refl V).box (hx.heap hp5)
    exact ⟨by simpa using z0 0, z1 0, c, .inr rfl, set1_ext ((hx4.trans hx5).trans hx) hx4.size _ _, .inl ⟨hc, set1_other (hx.heap (hx5.heap hg)) (by omega) _, hr⟩⟩
  · have hp6 := hB.but.block _ _ hp5 (by omega)
    have hx6 : Ext w V := But.ext (hx4.alloc _) hB.but (by rintro b rfl; exact hk)
    obtain ⟨z0, z1⟩ := (Ext.refl V).box hp6
    refine ⟨by simpa using z0 0, z1 0, 0, .inl ⟨rfl, rfl⟩, set1_ext hx6 hx4.size _ _, .inr ⟨rfl, la, lc, m, set1_other hB.box (by omega) _, h1, h2, h3, h4, ?_⟩⟩
    rcases Nat.eq_zero_or_pos pn with h0 | h0
    · exact ⟨hp.1, fun hn => by omega⟩
    · refine stop_ne hp (fun b o e => ?_) _
      rintro rfl
      obtain ⟨b', off, p, ha, _, _, c0, _⟩ := hp.get 0 h0
      rw [e] at ha
      cases ha
      rw [cell_of_row V W4.heap.size _ _ 35 (0, 0) hp6] at c0
      have := Array.mem_of_getElem? c0
      simp at this
/-- what load.Jolted gives -/
def JoltedPost (l : List Pack) (pn : Nat) (js : List Jolt) (days : Int) (w : World) (e : Ending) (w' : World) : Prop :=
  (∃ (v : Value) (c : Int), e = .returned (.tuple #[v, .int .i64 c]) ∧ c ≠ 0 ∧ Ext w w' ∧ NoJolt l js days) ∨ (∃ (la : Option Addr) (lc : Nat) (m : List Pack), e = .returned (.tuple #[.slice la pn lc, .int .i64 0]) ∧ Ext w w' ∧ Jolteds l pn js days la w' m)
set_option maxRecDepth 100000 in
set_option maxHeartbeats 8000000 in
theorem jolted6_any (tb : Nat) (pa : Option Addr) (pn pc : Nat) (l : List Pack) (a1 a2 a3 : Option Addr) (n1 n2 n3 c1 c2 c3 : Nat) (t : Tied) (ja : Option Addr) (jn jc : Nat) (js : List Jolt) (days : Int) (w : World) (h : LoadIn pa pn l a1 a2 a3 n1 n2 n3 c1 c2 c3 t w) (hj : JoltsAt w ja jn js)
    (gt : w.heap[tb]? = some (.cells #[.slice a1 n1 c1, .slice a2 n2 c2, .slice a3 n3 c3] 31 (0, 0))) (hjn : jn ≤ 80) (hnil : pa = none → pn = 0 ∧ pc = 0) :
    Calls Tryz.prog 6 #[.slice pa pn pc, .slice (some ⟨tb, 0, none⟩) 1 1, .slice ja jn jc, .int .i64 days] w (JoltedPost l pn js days w) := by
  have hmf : ∀ (fn : Fn) (first cap : Array Value) (w : World), (Instr.makeFunc fn first cap).run Tryz.prog w = .ok (.func fn first cap) w := fun _ _ _ _ => rfl
  obtain ⟨W4, hW4⟩ : ∃ W4, ((((w.alloc (.cells #[.slice pa pn pc] 28)).alloc (.cells #[.slice (some ⟨tb, 0, none⟩) 1 1] 38)).alloc (.cells #[.slice ja jn jc] 32)).alloc (.cells #[.int .i64 days] 3)).alloc (.cells #[.slice none 0 0] 28) = W4 := ⟨_, rfl⟩
  have hx4 : Ext w W4 := by rw [← hW4]; exact (((((Ext.refl w).alloc _).alloc _).alloc _).alloc _).alloc _
  have g0 : W4.heap[w.heap.size]? = some (.cells #[.slice pa pn pc] 28 (0, 0)) := by rw [← hW4]; exact alloc_heap (alloc_heap (alloc_heap (alloc_heap (heap_alloc_new w _) _) _) _) _
  have g1 : W4.heap[w.heap.size + 1]? = some (.cells #[.slice (some ⟨tb, 0, none⟩) 1 1] 38 (0, 0)) := by rw [← hW4]; exact alloc_heap (alloc_heap (alloc_heap (alloc_at _ _ _ (by simp)) _) _) _
  have g3 : W4.heap[w.heap.size + 1 + 1]? = some (.cells #[.slice ja jn jc] 32 (0, 0)) := by rw [← hW4]; exact alloc_heap (alloc_heap (alloc_at _ _ _ (by simp)) _) _
  have g2 : W4.heap[w.heap.size + 1 + 1 + 1]? = some (.cells #[.int .i64 days] 3 (0, 0)) := by rw [← hW4]; exact alloc_heap (alloc_at _ _ _ (by simp)) _
  have g4 : W4.heap[w.heap.size + 1 + 1 + 1 + 1]? = some (.cells #[.slice none 0 0] 28 (0, 0)) := by rw [← hW4]; exact alloc_at _ _ _ (by simp)
  have hx5 := (Ext.refl W4).alloc (.cells #[.int .i64 0] 35)
  have htry := trying_any 18 #[.pointer (some ⟨w.heap.size, 0, none⟩), .pointer (some ⟨w.heap.size + 1, 0, none⟩), .pointer (some ⟨w.heap.size + 1 + 1 + 1, 0, none⟩), .pointer (some ⟨w.heap.size + 1 + 1, 0, none⟩), .pointer (some ⟨w.heap.size + 1 + 1 + 1 + 1, 0, none⟩)] (fun _ => rfl) W4 (JoltTry l pn js days (w.heap.size + 1 + 1 + 1 + 1) w) (by
    refine (joltF_any _ _ _ _ _ tb pa pn pc l a1 a2 a3 n1 n2 n3 c1 c2 c3 t ja jn jc js days _ (h.ext (hx4.trans hx5)) (hj.ext (hx4.trans hx5)) (hx5.heap g0) (hx5.heap g1) ((hx4.trans hx5).heap gt) (hx5.heap g2) (hx5.heap g3) (hx5.heap g4) hjn hnil).mono ?_
    intro e V hP
    exact jolt_try hP hx4 (by omega) g4)
  have Htry := Lib.hid htry
  clear htry
  clear h hj gt g0 g1 g2 g3 g4 hx5 hx4 hjn hnil
  go_enter Tryz.func6, Tryz.ntmps6
  go_upto_region 1 with fail
  clear hW4
  go_upto_region 2 with (go_at_call 17; refine Htry.out.mono ?_; rintro e V ⟨k, rfl, hx, hk⟩)
  rcases hk with ⟨hk0, hk4, hno⟩ | ⟨rfl, la, lc, m, hk4, hjo⟩
  · have hk3l := heap_lt hk4
    obtain ⟨f0, f1⟩ := (Ext.refl V).box hk4
    have Hk0 := Lib.hid hk0
    have Hno := Lib.hid hno
    clear hk0 hno
    go_wp2_with fail
    have e1 : (V.setCell ⟨w.heap.size + 1 + 1 + 1 + 1, 0, none⟩ (.slice none 0 0)).cell? ⟨w.heap.size + 1 + 1 + 1 + 1, 0, none⟩ = some (.slice none 0 0) := by simpa using ((Ext.refl _).box (set1_box hk4 (.slice none 0 0))).1 0
    refine bodyPost_ret (v := .tuple #[.slice none 0 0, .int .i64 k]) (by simp [results, Tryz.results6, asAddr, go_sem, e1]) rfl ?_
    exact .inl ⟨_, k, rfl, Hk0.out, set1_ext hx (by omega) _ _, Hno.out⟩
  · have hk3l := heap_lt hk4
    obtain ⟨f0, f1⟩ := (Ext.refl V).box hk4
    have Hjo := Lib.hid hjo
    clear hjo
    go_wp2_with fail
    have e1 : (V.setCell ⟨w.heap.size + 1 + 1 + 1 + 1, 0, none⟩ (.slice la pn lc)).cell? ⟨w.heap.size + 1 + 1 + 1 + 1, 0, none⟩ = some (.slice la pn lc) := by simpa using ((Ext.refl _).box (set1_box hk4 (.slice la pn lc))).1 0
    refine bodyPost_ret (v := .tuple #[.slice la pn lc, .int .i64 0]) (by simp [results, Tryz.results6, asAddr, go_sem, e1]) rfl ?_
    refine .inr ⟨la, lc, m, rfl, set1_ext hx (by omega) _ _, Hjo.out.jolt, Hjo.out.same, Hjo.out.ok, Hjo.out.inDays, ?_⟩
    have hp := Hjo.out.packs
    rcases Nat.eq_zero_or_pos pn with h0 | h0
    · exact ⟨hp.1, fun hn => by omega⟩
    · refine stop_ne hp (fun b o e => ?_) _
      rintro rfl
      obtain ⟨b', off, p, ha, _, _, c0, _⟩ := hp.get 0 h0
      rw [e] at ha
      cases ha
      rw [cell_of_row V _ _ _ 28 (0, 0) hk4] at c0
      have := Array.mem_of_getElem? c0
      simp at this
end Go.Proofs.YtcoelhpmkhimpaaGreatDoor

namespace Go.Proofs.YtcoelhpmkhimpaaGreatDoor
open Go.RowKit
set_option linter.unusedVariables false
set_option linter.unusedSimpArgs false
theorem results_cell3_tmp {P : Program} {fn : Func} {p q r t : Tmp} {ty : TypeId} (h : fn.results = #[.cell p ty, .cell q ty, .cell r ty, .tmp t]) (tmps : Array Value) (w : World) (g g' g'' : Nat) (T T' T'' : TypeId) (cs cs' cs'' : Array Value) (fr fr' fr'' : Nat × Nat) (d : TypeDesc)
    (hp : tmps.getD p undef = .pointer (some ⟨g, 0, none⟩)) (hg : w.heap[g]? = some (.cells cs T fr))
    (hu : P.underlying ty = some d) (hd : (match d with | .struct _ | .array _ _ => true | _ => false) = true) (hi : (P.info? ty).map (·.size) = some cs.size)
    (hp' : tmps.getD q undef = .pointer (some ⟨g', 0, none⟩)) (hg' : w.heap[g']? = some (.cells cs' T' fr')) (hi' : (P.info? ty).map (·.size) = some cs'.size)
    (hp'' : tmps.getD r undef = .pointer (some ⟨g'', 0, none⟩)) (hg'' : w.heap[g'']? = some (.cells cs'' T'' fr'')) (hi'' : (P.info? ty).map (·.size) = some cs''.size) :
    (results fn tmps).run P w = .ok (.tuple #[.agg cs, .agg cs', .agg cs'', tmps.getD t undef]) w := by
  have h1 : tmps[p]?.getD undef = .pointer (some ⟨g, 0, none⟩) := by simpa using hp
  have h2 : tmps[q]?.getD undef = .pointer (some ⟨g', 0, none⟩) := by simpa using hp'
  have h3 : tmps[r]?.getD undef = .pointer (some ⟨g'', 0, none⟩) := by simpa using hp''
  simp [results, h, h1, h2, h3, asAddr, run_loadVar_row w g T ty cs fr d hg hu hd hi, run_loadVar_row w g' T' ty cs' fr' d hg' hu hd hi', run_loadVar_row w g'' T'' ty cs'' fr'' d hg'' hu hd hi'']
set_option maxRecDepth 100000 in
set_option maxHeartbeats 8000000 in
theorem sides11_any (pa : Option Addr) (pn pc : Nat) (l : List Pack) (a1 a2 a3 : Option Addr) (n1 n2 n3 c1 c2 c3 : Nat) (t : Tied) (w : World) (h : LoadIn pa pn l a1 a2 a3 n1 n2 n3 c1 c2 c3 t w) :
    Calls Tryz.prog 11 #[.slice pa pn pc, .agg #[.slice a1 n1 c1, .slice a2 n2 c2, .slice a3 n3 c3]] w fun e w' => e = .returned (.tuple #[(weigh l t.left).val, (weigh l t.right).val, (weigh l (allOf t)).val, .int .i64 0]) ∧ Ext w w' := by
  have hmf : ∀ (fn : Fn) (first cap : Array Value) (w : World), (Instr.makeFunc fn first cap).run Tryz.prog w = .ok (.func fn first cap) w := fun _ _ _ _ => rfl
  have hfn := fun k0 k1 k2 k3 k4 W (hW : Ext w W) => sidesF_any k0 k1 k2 k3 k4 pa pn pc l a1 a2 a3 n1 n2 n3 c1 c2 c3 t W (h.ext hW)
  generalize weigh l t.left = L at *
  generalize weigh l t.right = R at *
  generalize weigh l (allOf t) = A at *
  obtain ⟨l0, l1⟩ := L
  obtain ⟨r0, r1⟩ := R
  obtain ⟨A0, A1⟩ := A
  unfold Span.val
  simp only
  obtain ⟨W4, hW4⟩ : ∃ W4, ((((w.alloc (.cells #[.slice pa pn pc] 28)).alloc (.cells #[.slice a1 n1 c1, .slice a2 n2 c2, .slice a3 n3 c3] 31)).alloc (.cells #[.int .i64 0, .int .i64 0] 23)).alloc (.cells #[.int .i64 0, .int .i64 0] 23)).alloc (.cells #[.int .i64 0, .int .i64 0] 23) = W4 := ⟨_, rfl⟩
  have hx4 : Ext w W4 := by rw [← hW4]; exact (((((Ext.refl w).alloc _).alloc _).alloc _).alloc _).alloc _
  have g0 : W4.heap[w.heap.size]? = some (.cells #[.slice pa pn pc] 28 (0, 0)) := by rw [← hW4]; exact alloc_heap (alloc_heap (alloc_heap (alloc_heap (heap_alloc_new w _) _) _) _) _
  have g1 : W4.heap[w.heap.size + 1]? = some (.cells #[.slice a1 n1 c1, .slice a2 n2 c2, .slice a3 n3 c3] 31 (0, 0)) := by rw [← hW4]; exact alloc_heap (alloc_heap (alloc_heap (alloc_at _ _ _ (by simp)) _) _) _
  have g2 : W4.heap[w.heap.size + 1 + 1]? = some (.cells #[.int .i64 0, .int .i64 0] 23 (0, 0)) := by rw [← hW4]; exact alloc_heap (alloc_heap (alloc_at _ _ _ (by simp)) _) _
  have g3 : W4.heap[w.heap.size + 1 + 1 + 1]? = some (.cells #[.int .i64 0, .int .i64 0] 23 (0, 0)) := by rw [← hW4]; exact alloc_heap (alloc_at _ _ _ (by simp)) _
  have g4 : W4.heap[w.heap.size + 1 + 1 + 1 + 1]? = some (.cells #[.int .i64 0, .int .i64 0] 23 (0, 0)) := by rw [← hW4]; exact alloc_at _ _ _ (by simp)
  have hx5 := (Ext.refl W4).alloc (.cells #[.int .i64 0] 35)
  have hp5 := heap_alloc_new W4 (.cells #[.int .i64 0] 35)
  have g4l := heap_lt g4
  have htry := trying_any 39 #[.pointer (some ⟨w.heap.size, 0, none⟩), .pointer (some ⟨w.heap.size + 1, 0, none⟩), .pointer (some ⟨w.heap.size + 1 + 1, 0, none⟩), .pointer (some ⟨w.heap.size + 1 + 1 + 1, 0, none⟩), .pointer (some ⟨w.heap.size + 1 + 1 + 1 + 1, 0, none⟩)] (fun _ => rfl) W4 (fun k V => k = 0 ∧ Ext w V ∧ V.heap[w.heap.size + 1 + 1]? = some (.cells #[.int .i64 l0, .int .i64 l1] 23 (0, 0)) ∧ V.heap[w.heap.size + 1 + 1 + 1]? = some (.cells #[.int .i64 r0, .int .i64 r1] 23 (0, 0)) ∧ V.heap[w.heap.size + 1 + 1 + 1 + 1]? = some (.cells #[.int .i64 A0, .int .i64 A1] 23 (0, 0))) (by
    refine (hfn _ _ _ _ _ _ (hx4.trans hx5) (hx5.heap g0) (hx5.heap g1) (hx5.heap g2) (hx5.heap g3) (hx5.heap g4) (by omega) (by omega) (by omega)).mono ?_
    rintro e V ⟨rfl, V1, hV1, rfl⟩
    unfold set6
    have hp6 := set2_other (set2_other (set2_other (hV1.heap hp5) (b := w.heap.size + 1 + 1) (by omega) (.int .i64 l0) (.int .i64 l1)) (b := w.heap.size + 1 + 1 + 1) (by omega) (.int .i64 r0) (.int .i64 r1)) (b := w.heap.size + 1 + 1 + 1 + 1) (by omega) (.int .i64 A0) (.int .i64 A1)
    have hx6 := set2_ext (set2_ext (set2_ext ((hx4.trans hx5).trans hV1) (b := w.heap.size + 1 + 1) (by omega) (.int .i64 l0) (.int .i64 l1)) (b := w.heap.size + 1 + 1 + 1) (by omega) (.int .i64 r0) (.int .i64 r1)) (b := w.heap.size + 1 + 1 + 1 + 1) (by omega) (.int .i64 A0) (.int .i64 A1)
    have e2 := set2_other (set2_other (set2_box (hV1.heap (hx5.heap g2)) (.int .i64 l0) (.int .i64 l1)) (b := w.heap.size + 1 + 1 + 1) (by omega) (.int .i64 r0) (.int .i64 r1)) (b := w.heap.size + 1 + 1 + 1 + 1) (by omega) (.int .i64 A0) (.int .i64 A1)
    have e3 := set2_other (set2_box (set2_other (hV1.heap (hx5.heap g3)) (b := w.heap.size + 1 + 1) (by omega) (.int .i64 l0) (.int .i64 l1)) (.int .i64 r0) (.int .i64 r1)) (b := w.heap.size + 1 + 1 + 1 + 1) (by omega) (.int .i64 A0) (.int .i64 A1)
    have e4 := set2_box (set2_other (set2_other (hV1.heap (hx5.heap g4)) (b := w.heap.size + 1 + 1) (by omega) (.int .i64 l0) (.int .i64 l1)) (b := w.heap.size + 1 + 1 + 1) (by omega) (.int .i64 r0) (.int .i64 r1)) (.int .i64 A0) (.int .i64 A1)
    refine try_done (G := fun k V => k = 0 ∧ Ext w V ∧ V.heap[w.heap.size + 1 + 1]? = some (.cells #[.int .i64 l0, .int .i64 l1] 23 (0, 0)) ∧ V.heap[w.heap.size + 1 + 1 + 1]? = some (.cells #[.int .i64 r0, .int .i64 r1] 23 (0, 0)) ∧ V.heap[w.heap.size + 1 + 1 + 1 + 1]? = some (.cells #[.int .i64 A0, .int .i64 A1] 23 (0, 0))) hp6 ⟨rfl, set1_ext hx6 (by omega) _ _, set1_other e2 (by omega) _, set1_other e3 (by omega) _, set1_other e4 (by omega) _⟩)
  have Htry := Lib.hid htry
  clear htry
  clear hfn h g0 g1 g2 g3 g4 hx5 hp5 g4l hx4
  go_enter Tryz.func11, Tryz.ntmps11
  go_upto_region 1 with fail
  clear hW4
  go_upto_region 2 with (go_at_call 17; refine Htry.out.mono ?_; rintro e V ⟨k, rfl, rfl, hx, hk2, hk3, hk4⟩)
  have hl4 := heap_lt hk4
  obtain ⟨z0, y0⟩ := (Ext.refl V).box hk2
  obtain ⟨z1, y1⟩ := (Ext.refl V).box hk3
  obtain ⟨z2, y2⟩ := (Ext.refl V).box hk4
  have Hx := Lib.hid hx
  have Hk2 := Lib.hid hk2
  have Hk3 := Lib.hid hk3
  have Hk4 := Lib.hid hk4
  clear hx hk2 hk3 hk4
  clear Htry
  go_region
  go_wp2_with fail
  have e2 := set2_other (set2_other (set2_box Hk2.out (.int .i64 l0) (.int .i64 l1)) (b := w.heap.size + 1 + 1 + 1) (by omega) (.int .i64 r0) (.int .i64 r1)) (b := w.heap.size + 1 + 1 + 1 + 1) (by omega) (.int .i64 A0) (.int .i64 A1)
  have e3 := set2_other (set2_box (set2_other Hk3.out (b := w.heap.size + 1 + 1) (by omega) (.int .i64 l0) (.int .i64 l1)) (.int .i64 r0) (.int .i64 r1)) (b := w.heap.size + 1 + 1 + 1 + 1) (by omega) (.int .i64 A0) (.int .i64 A1)
  have e4 := set2_box (set2_other (set2_other Hk4.out (b := w.heap.size + 1 + 1) (by omega) (.int .i64 l0) (.int .i64 l1)) (b := w.heap.size + 1 + 1 + 1) (by omega) (.int .i64 r0) (.int .i64 r1)) (.int .i64 A0) (.int .i64 A1)
  have ex := set2_ext (set2_ext (set2_ext Hx.out (b := w.heap.size + 1 + 1) (by omega) (.int .i64 l0) (.int .i64 l1)) (b := w.heap.size + 1 + 1 + 1) (by omega) (.int .i64 r0) (.int .i64 r1)) (b := w.heap.size + 1 + 1 + 1 + 1) (by omega) (.int .i64 A0) (.int .i64 A1)
  generalize (((((V.setCell ⟨w.heap.size + 1 + 1, 0, none⟩ (.int .i64 l0)).setCell ⟨w.heap.size + 1 + 1, 1, none⟩ (.int .i64 l1)).setCell ⟨w.heap.size + 1 + 1 + 1, 0, none⟩ (.int .i64 r0)).setCell ⟨w.heap.size + 1 + 1 + 1, 1, none⟩ (.int .i64 r1)).setCell ⟨w.heap.size + 1 + 1 + 1 + 1, 0, none⟩ (.int .i64 A0)).setCell ⟨w.heap.size + 1 + 1 + 1 + 1, 1, none⟩ (.int .i64 A1) = X at e2 e3 e4 ex ⊢
  refine bodyPost_ret (results_cell3_tmp (P := Tryz.prog) (fn := Tryz.f11) rfl _ _ (w.heap.size + 1 + 1) (w.heap.size + 1 + 1 + 1) (w.heap.size + 1 + 1 + 1 + 1) 23 23 23 #[.int .i64 l0, .int .i64 l1] #[.int .i64 r0, .int .i64 r1] #[.int .i64 A0, .int .i64 A1] (0, 0) (0, 0) (0, 0) _ rfl e2 Tryz.underlying23 rfl (by kernel_rfl) rfl e3 (by kernel_rfl) rfl e4 (by kernel_rfl)) rfl ?_
  exact ⟨rfl, ex.drew⟩
end Go.Proofs.YtcoelhpmkhimpaaGreatDoor

namespace Go.Proofs.YtcoelhpmkhimpaaGreatDoor
open Go.RowKit Go.ChangeShapes Go.WideShapes Go.ChangeAt
set_option linter.unusedVariables false
theorem plain_of {w : World} {base n : Nat} {a : Addr} {cs : List Value} (h : w.cells? base (a.add 0) n = some cs) (hn : 0 < n) : ∃ b off, a = ⟨b, off, none⟩ := by
  obtain ⟨_, hl, hc⟩ := World.cells?_some h
  obtain ⟨b, off, spot⟩ := a
  have h0 := hc 0 hn
  obtain ⟨v, hv⟩ : ∃ v, cs[0]? = some v := ⟨_, List.getElem?_eq_getElem (by omega)⟩
  rw [hv] at h0
  have hs : spot = none := by simpa [Addr.add] using World.cell?_spot h0
  subst hs
  exact ⟨b, off, rfl⟩

theorem cells_of {w : World} {base i n b off : Nat} {cs : List Value} (h : w.cells? base ((⟨b, off, none⟩ : Addr).add i) n = some cs) : cs.length = n ∧ Cells w b (off + i) cs := by
  obtain ⟨_, hl, hc⟩ := World.cells?_some h
  refine ⟨hl, fun j v hj => ?_⟩
  have := hc j (by have := (List.getElem?_eq_some_iff.1 hj).1; omega)
  rw [hj] at this
  rcases Nat.eq_zero_or_pos i with rfl | hi <;> rcases Nat.eq_zero_or_pos j with rfl | hj'
  · simpa [Addr.add] using this
  · simpa [Addr.add, show j ≠ 0 by omega] using this
  · simpa [Addr.add, show i ≠ 0 by omega] using this
  · simpa [Addr.add, show i ≠ 0 by omega, show j ≠ 0 by omega, Nat.add_assoc] using this

theorem tlen2 {α : Type} {l : List α} (h : l.length = 2) : ∃ a b, l = [a, b] := by
  match l, h with
  | [a, b], _ => exact ⟨a, b, rfl⟩
theorem tlen3 {α : Type} {l : List α} (h : l.length = 3) : ∃ a b c, l = [a, b, c] := by
  match l, h with
  | [a, b, c], _ => exact ⟨a, b, c, rfl⟩
theorem tlen1 {α : Type} {l : List α} (h : l.length = 1) : ∃ a, l = [a] := by
  match l, h with
  | [a], _ => exact ⟨a, rfl⟩
theorem tlen6 {α : Type} {l : List α} (h : l.length = 6) : ∃ a b c d e f, l = [a, b, c, d, e, f] := by
  match l, h with
  | [a, b, c, d, e, f], _ => exact ⟨a, b, c, d, e, f, rfl⟩
theorem tlen10 {α : Type} {l : List α} (h : l.length = 10) : ∃ a b c d e f g i j k, l = [a, b, c, d, e, f, g, i, j, k] := by
  match l, h with
  | [a, b, c, d, e, f, g, i, j, k], _ => exact ⟨a, b, c, d, e, f, g, i, j, k, rfl⟩
theorem tlen7 {α : Type} {l : List α} (h : l.length = 7) : ∃ a b c d e f g, l = [a, b, c, d, e, f, g] := by
  match l, h with
  | [a, b, c, d, e, f, g], _ => exact ⟨a, b, c, d, e, f, g, rfl⟩
theorem tlen8 {α : Type} {l : List α} (h : l.length = 8) : ∃ a b c d e f g i, l = [a, b, c, d, e, f, g, i] := by
  match l, h with
  | [a, b, c, d, e, f, g, i], _ => exact ⟨a, b, c, d, e, f, g, i, rfl⟩

theorem tlen4 {α : Type} {l : List α} (h : l.length = 4) : ∃ x0 x1 x2 x3, l = [x0, x1, x2, x3] := by
  match l, h with
  | [x0, x1, x2, x3], _ => exact ⟨x0, x1, x2, x3, rfl⟩
theorem tlen11 {α : Type} {l : List α} (h : l.length = 11) : ∃ x0 x1 x2 x3 x4 x5 x6 x7 x8 x9 x10, l = [x0, x1, x2, x3, x4, x5, x6, x7, x8, x9, x10] := by
  match l, h with
  | [x0, x1, x2, x3, x4, x5, x6, x7, x8, x9, x10], _ => exact ⟨x0, x1, x2, x3, x4, x5, x6, x7, x8, x9, x10, rfl⟩
theorem tlen17 {α : Type} {l : List α} (h : l.length = 17) : ∃ x0 x1 x2 x3 x4 x5 x6 x7 x8 x9 x10 x11 x12 x13 x14 x15 x16, l = [x0, x1, x2, x3, x4, x5, x6, x7, x8, x9, x10, x11, x12, x13, x14, x15, x16] := by
  match l, h with
  | [x0, x1, x2, x3, x4, x5, x6, x7, x8, x9, x10, x11, x12, x13, x14, x15, x16], _ => exact ⟨x0, x1, x2, x3, x4, x5, x6, x7, x8, x9, x10, x11, x12, x13, x14, x15, x16, rfl⟩

theorem list_of {α : Type} {p : Nat → α → Prop} : ∀ (n : Nat), (∀ i, i < n → ∃ x, p i x) → ∃ l : List α, l.length = n ∧ ∀ k x, l[k]? = some x → p k x
  | 0, _ => ⟨[], rfl, fun k x h => by simp at h⟩
  | n + 1, h => by
    obtain ⟨l, hl, hp⟩ := list_of n (fun i hi => h i (by omega))
    obtain ⟨x, hx⟩ := h n (by omega)
    refine ⟨l ++ [x], by simp [hl], fun k y hk => ?_⟩
    rcases Nat.lt_or_ge k n with h' | h'
    · rw [List.getElem?_append_left (by omega)] at hk
      exact hp k y hk
    · have e : k = n := by have := (List.getElem?_eq_some_iff.1 hk).1; simp at this; omega
      subst e
      rw [List.getElem?_append_right (by omega), hl] at hk
      simp at hk
      subst hk
      exact hx

section
variable {H : Type} {enc : TypeId × Value → H} {w : World} {base : Nat} {spare : Nat → Bool} {held : Bool}

theorem take_slice {α : Type} {t e : TypeId} {sz : Nat} (ht : Tryz.prog.underlying t = some (.slice e)) (hc : Tryz.prog.cellsOf e = sz) (hsz : 0 < sz) (R : α → List Value → Prop)
    (hR : ∀ n cs x, cs.length = sz → DataW.trod enc Tryz.prog w base spare held n e cs = some x → ∃ y, R y cs) {fuel : Nat} {a : Option Addr} {n c : Nat} {x : DataW H × List MemPlace}
    (h : DataW.trod enc Tryz.prog w base spare held fuel t [.slice a n c] = some x) :
    n ≤ c ∧ c ≤ maxLen ∧ ∃ l : List α, l.length = n ∧ (0 < n → ∃ b off, a = some ⟨b, off, none⟩ ∧ ∀ (k : Nat) (y : α), l[k]? = some y → ∃ cs, Cells w b (off + k * sz) cs ∧ R y cs) := by
  rcases Go.Deep.open_slice ht h with ⟨h0, _⟩ | ⟨ad, len, cap, m, n', D, Pl, hcs, hb, hl, hm, hmm, _, hx⟩
  · cases h0
    exact ⟨Nat.le_refl _, by decide, [], rfl, fun h => by omega⟩
  · cases hcs
    refine ⟨hl, hm, ?_⟩
    rw [hc] at hx
    have hle : n ≤ m := by rw [hmm]; split <;> omega
    rcases Nat.eq_zero_or_pos n with rfl | hn
    · exact ⟨[], rfl, fun h => by omega⟩
    obtain ⟨cs0, h0, _⟩ := hx 0 (by omega)
    rw [Nat.zero_mul] at h0
    obtain ⟨b, off, rfl⟩ := plain_of h0 hsz
    have hk : ∀ i, i < n → ∃ y, ∃ cs, Cells w b (off + i * sz) cs ∧ R y cs := fun i hi => by
      obtain ⟨cs, h1, h2⟩ := hx i (by omega)
      obtain ⟨hl', e2⟩ := cells_of h1
      obtain ⟨y, hy⟩ := hR _ _ _ hl' h2
      exact ⟨y, cs, e2, hy⟩
    obtain ⟨l, hl', hp⟩ := list_of n hk
    exact ⟨l, hl', fun hn => ⟨b, off, rfl, fun k y hy => hp k y hy⟩⟩

theorem take_int {k : IntKind} {t : TypeId} (ht : Tryz.prog.underlying t = some (.int k)) {fuel : Nat} {cs : List Value} {x : DataW H × List MemPlace} (h : DataW.trod enc Tryz.prog w base spare held fuel t cs = some x) : ∃ n, cs = [.int k n] ∧ (Lit.int k n).wf = true := by
  obtain ⟨n, h1, _, h2⟩ := DataW.trod_int ht h
  exact ⟨n, h1, h2⟩

theorem take_ints {k : IntKind} {t e : TypeId} (ht : Tryz.prog.underlying t = some (.slice e)) (he : Tryz.prog.underlying e = some (.int k)) (hc : Tryz.prog.cellsOf e = 1) {fuel : Nat} {a : Option Addr} {n c : Nat} {x : DataW H × List MemPlace}
    (h : DataW.trod enc Tryz.prog w base spare held fuel t [.slice a n c] = some x) : n ≤ c ∧ c ≤ maxLen ∧ ∃ l, IntsAt k w a n l ∧ ∀ i ∈ l, (Lit.int k i).wf = true := by
  obtain ⟨h1, h2, l, h3, h4⟩ := take_slice (α := { i : Int // (Lit.int k i).wf = true }) ht hc (by omega) (fun y cs => cs = [.int k y.1]) (fun n cs x _ hx => by obtain ⟨i, hi, hw⟩ := take_int he hx; exact ⟨⟨i, hw⟩, hi⟩) h
  refine ⟨h1, h2, l.map (·.1), ⟨by simp [h3], fun hn => ?_⟩, fun i hi => ?_⟩
  · obtain ⟨b, off, ha, hk⟩ := h4 hn
    refine ⟨b, off, ha, fun k' hk' => ?_⟩
    obtain ⟨y, hy⟩ : ∃ y, l[k']? = some y := ⟨_, List.getElem?_eq_getElem (by omega)⟩
    obtain ⟨cs, h5, rfl⟩ := hk k' y hy
    simpa [List.getD, hy] using h5
  · obtain ⟨y, _, rfl⟩ := List.mem_map.1 hi
    exact y.2


theorem c3 : Tryz.prog.cellsOf 3 = 1 := by kernel_rfl
theorem c4 : Tryz.prog.cellsOf 4 = 1 := by kernel_rfl
theorem c5 : Tryz.prog.cellsOf 5 = 1 := by kernel_rfl
theorem c23 : Tryz.prog.cellsOf 23 = 2 := by kernel_rfl
theorem wf_u8 {n : Int} (h : (Lit.int .u8 n).wf = true) : 0 ≤ n ∧ n ≤ 255 := by
  have e1 : IntKind.u8.min = 0 := rfl
  have e2 : IntKind.u8.max = 255 := rfl
  simp only [Lit.wf, Bool.and_eq_true, decide_eq_true_eq, e1, e2] at h
  exact h
theorem wf_u32 {n : Int} (h : (Lit.int .u32 n).wf = true) : 0 ≤ n ∧ n ≤ 4294967295 := by
  have e1 : IntKind.u32.min = 0 := rfl
  have e2 : IntKind.u32.max = 4294967295 := rfl
  simp only [Lit.wf, Bool.and_eq_true, decide_eq_true_eq, e1, e2] at h
  exact h
theorem wf_i64 {n : Int} (h : (Lit.int .i64 n).wf = true) : -9223372036854775808 ≤ n ∧ n ≤ 9223372036854775807 := by
  have e1 : IntKind.i64.min = -9223372036854775808 := rfl
  have e2 : IntKind.i64.max = 9223372036854775807 := rfl
  simp only [Lit.wf, Bool.and_eq_true, decide_eq_true_eq, e1, e2] at h
  exact h
theorem slice_shape {t e : TypeId} (ht : Tryz.prog.underlying t = some (.slice e)) {fuel : Nat} {cs : List Value} {x : DataW H × List MemPlace} (h : DataW.trod enc Tryz.prog w base spare held fuel t cs = some x) : ∃ a n c, cs = [.slice a n c] := by
  rcases Go.Deep.open_slice ht h with ⟨h0, _⟩ | ⟨ad, len, cap, m, n', D, Pl, hcs, _⟩
  · exact ⟨_, _, _, h0⟩
  · exact ⟨_, _, _, hcs⟩
theorem take_span {fuel : Nat} {cs : List Value} {x : DataW H × List MemPlace} (hl : cs.length = 2) (h : DataW.trod enc Tryz.prog w base spare held fuel 23 cs = some x) : ∃ s : Span, s.cells = cs := by
  obtain ⟨xs, n, _, _, _, hx, hf⟩ := DataW.trod_struct Tryz.underlying23 h
  obtain ⟨u, v, rfl⟩ := tlen2 hl
  obtain ⟨x0, x1, rfl⟩ := tlen2 (show xs.length = 2 from hx)
  have g0 := hf 0 _ rfl
  have g1 := hf 1 _ rfl
  simp [c3] at g0 g1
  obtain ⟨a, ha, _⟩ := take_int Tryz.underlying3 g0
  obtain ⟨b, hb, _⟩ := take_int Tryz.underlying3 g1
  cases ha; cases hb
  exact ⟨⟨a, b⟩, rfl⟩
theorem take_breed {fuel : Nat} {cs : List Value} {x : DataW H × List MemPlace} (hl : cs.length = 17) (h : DataW.trod enc Tryz.prog w base spare held fuel 25 cs = some x) : ∃ s : Breed, s.cells = cs := by
  obtain ⟨xs, n, _, _, _, hx, hf⟩ := DataW.trod_struct Tryz.underlying25 h
  obtain ⟨u0, u1, u2, u3, u4, u5, u6, u7, u8, u9, u10, u11, u12, u13, u14, u15, u16, rfl⟩ := tlen17 hl
  obtain ⟨x0, x1, x2, x3, x4, x5, x6, x7, x8, x9, rfl⟩ := tlen10 (show xs.length = 10 from hx)
  have g0 := hf 0 _ rfl
  have g1 := hf 1 _ rfl
  have g2 := hf 2 _ rfl
  have g3 := hf 3 _ rfl
  have g4 := hf 4 _ rfl
  have g5 := hf 5 _ rfl
  have g6 := hf 6 _ rfl
  have g7 := hf 7 _ rfl
  have g8 := hf 8 _ rfl
  have g9 := hf 9 _ rfl
  simp [c23, c3] at g0 g1 g2 g3 g4 g5 g6 g7 g8 g9
  obtain ⟨a0, h0, _⟩ := take_int Tryz.underlying3 g0
  obtain ⟨a1, h1, _⟩ := take_int Tryz.underlying3 g1
  obtain ⟨a2, h2⟩ := take_span rfl g2
  obtain ⟨a3, h3⟩ := take_span rfl g3
  obtain ⟨a4, h4⟩ := take_span rfl g4
  obtain ⟨a5, h5⟩ := take_span rfl g5
  obtain ⟨a6, h6⟩ := take_span rfl g6
  obtain ⟨a7, h7⟩ := take_span rfl g7
  obtain ⟨a8, h8, _⟩ := take_int Tryz.underlying3 g8
  obtain ⟨a9, h9⟩ := take_span rfl g9
  cases h0; cases h1; cases h2; cases h3; cases h4; cases h5; cases h6; cases h7; cases h8; cases h9
  exact ⟨⟨a0, a1, a2, a3, a4, a5, a6, a7, a8, a9⟩, rfl⟩
theorem take_camel {fuel : Nat} {cs : List Value} {x : DataW H × List MemPlace} (hl : cs.length = 7) (h : DataW.trod enc Tryz.prog w base spare held fuel 27 cs = some x) : ∃ s : Camel, s.cells = cs := by
  obtain ⟨xs, n, _, _, _, hx, hf⟩ := DataW.trod_struct Tryz.underlying27 h
  obtain ⟨u0, u1, u2, u3, u4, u5, u6, rfl⟩ := tlen7 hl
  obtain ⟨x0, x1, x2, x3, rfl⟩ := tlen4 (show xs.length = 4 from hx)
  have g0 := hf 0 _ rfl
  have g1 := hf 1 _ rfl
  have g2 := hf 2 _ rfl
  have g3 := hf 3 _ rfl
  simp [c23, c4] at g0 g1 g2 g3
  obtain ⟨a0, h0⟩ := take_span rfl g0
  obtain ⟨a1, h1⟩ := take_span rfl g1
  obtain ⟨a2, h2⟩ := take_span rfl g2
  obtain ⟨a3, h3, _⟩ := DataW.trod_bool Tryz.underlying4 g3
  cases h0; cases h1; cases h2; cases h3
  exact ⟨⟨a0, a1, a2, a3⟩, rfl⟩
theorem take_pack {fuel : Nat} {cs : List Value} {x : DataW H × List MemPlace} (hl : cs.length = 11) (h : DataW.trod enc Tryz.prog w base spare held fuel 50 cs = some x) : ∃ s : Pack, s.cells = cs := by
  obtain ⟨xs, n, _, _, _, hx, hf⟩ := DataW.trod_struct Tryz.underlying50 h
  obtain ⟨u0, u1, u2, u3, u4, u5, u6, u7, u8, u9, u10, rfl⟩ := tlen11 hl
  obtain ⟨x0, x1, x2, x3, x4, x5, x6, rfl⟩ := tlen7 (show xs.length = 7 from hx)
  have g0 := hf 0 _ rfl
  have g1 := hf 1 _ rfl
  have g2 := hf 2 _ rfl
  have g3 := hf 3 _ rfl
  have g4 := hf 4 _ rfl
  have g5 := hf 5 _ rfl
  have g6 := hf 6 _ rfl
  simp [c23, c3, c5] at g0 g1 g2 g3 g4 g5 g6
  obtain ⟨a0, h0, hw0⟩ := take_int Tryz.underlying5 g0
  obtain ⟨a1, h1⟩ := take_span rfl g1
  obtain ⟨a2, h2⟩ := take_span rfl g2
  obtain ⟨a3, h3⟩ := take_span rfl g3
  obtain ⟨a4, h4⟩ := take_span rfl g4
  obtain ⟨a5, h5, _⟩ := take_int Tryz.underlying3 g5
  obtain ⟨a6, h6, _⟩ := take_int Tryz.underlying3 g6
  cases h0; cases h1; cases h2; cases h3; cases h4; cases h5; cases h6
  exact ⟨⟨a0, a1, a2, a3, a4, a5, a6⟩, rfl⟩
theorem take_jolt {fuel : Nat} {cs : List Value} {x : DataW H × List MemPlace} (hl : cs.length = 2) (h : DataW.trod enc Tryz.prog w base spare held fuel 64 cs = some x) : ∃ s : Jolt, s.cells = cs := by
  obtain ⟨xs, n, _, _, _, hx, hf⟩ := DataW.trod_struct Tryz.underlying64 h
  obtain ⟨u0, u1, rfl⟩ := tlen2 hl
  obtain ⟨x0, x1, rfl⟩ := tlen2 (show xs.length = 2 from hx)
  have g0 := hf 0 _ rfl
  have g1 := hf 1 _ rfl
  simp [c3] at g0 g1
  obtain ⟨a0, h0, _⟩ := take_int Tryz.underlying3 g0
  obtain ⟨a1, h1, _⟩ := take_int Tryz.underlying3 g1
  cases h0; cases h1
  exact ⟨⟨a0, a1⟩, rfl⟩
theorem take_packs {fuel : Nat} {a : Option Addr} {n c : Nat} {x : DataW H × List MemPlace} (h : DataW.trod enc Tryz.prog w base spare held fuel 28 [.slice a n c] = some x) : n ≤ c ∧ c ≤ maxLen ∧ ∃ l, PacksAt w a n l := by
  obtain ⟨h1, h2, l, h3, h4⟩ := take_slice (sz := 11) Tryz.underlying28 (by kernel_rfl) (by omega) (fun (y : Pack) cs => y.cells = cs) (fun n cs x hl hx => take_pack hl hx) h
  refine ⟨h1, h2, l, h3, fun hn => ?_⟩
  obtain ⟨b, off, ha, hk⟩ := h4 hn
  refine ⟨b, off, ha, fun k' hk' => ?_⟩
  obtain ⟨y, hy⟩ : ∃ y, l[k']? = some y := ⟨_, List.getElem?_eq_getElem (by omega)⟩
  obtain ⟨cs, h5, rfl⟩ := hk k' y hy
  simpa [List.getD, hy] using h5
theorem take_jolts {fuel : Nat} {a : Option Addr} {n c : Nat} {x : DataW H × List MemPlace} (h : DataW.trod enc Tryz.prog w base spare held fuel 32 [.slice a n c] = some x) : n ≤ c ∧ c ≤ maxLen ∧ ∃ l, JoltsAt w a n l := by
  obtain ⟨h1, h2, l, h3, h4⟩ := take_slice (sz := 2) Tryz.underlying32 (by kernel_rfl) (by omega) (fun (y : Jolt) cs => y.cells = cs) (fun n cs x hl hx => take_jolt hl hx) h
  refine ⟨h1, h2, l, h3, fun hn => ?_⟩
  obtain ⟨b, off, ha, hk⟩ := h4 hn
  refine ⟨b, off, ha, fun k' hk' => ?_⟩
  obtain ⟨y, hy⟩ : ∃ y, l[k']? = some y := ⟨_, List.getElem?_eq_getElem (by omega)⟩
  obtain ⟨cs, h5, rfl⟩ := hk k' y hy
  simpa [List.getD, hy] using h5
theorem c29 : Tryz.prog.cellsOf 29 = 1 := by kernel_rfl
theorem take_tied {fuel : Nat} {cs : Array Value} {x : DataW H × List MemPlace} (hl : cs.size = 3) (h : DataW.trod enc Tryz.prog w base spare held fuel 31 cs.toList = some x) : ∃ a1 n1 c1 a2 n2 c2 a3 n3 c3 l1 l2 l3, cs = #[.slice a1 n1 c1, .slice a2 n2 c2, .slice a3 n3 c3] ∧ (n1 ≤ c1 ∧ c1 ≤ maxLen ∧ IntsAt .i64 w a1 n1 l1) ∧ (n2 ≤ c2 ∧ c2 ≤ maxLen ∧ IntsAt .i64 w a2 n2 l2) ∧ (n3 ≤ c3 ∧ c3 ≤ maxLen ∧ IntsAt .i64 w a3 n3 l3) := by
  obtain ⟨xs, n, _, _, _, hx, hf⟩ := DataW.trod_struct Tryz.underlying31 h
  obtain ⟨l⟩ := cs
  simp only at hf
  obtain ⟨u0, u1, u2, rfl⟩ := tlen3 (show l.length = 3 from hl)
  obtain ⟨x0, x1, x2, rfl⟩ := tlen3 (show xs.length = 3 from hx)
  have g0 := hf 0 _ rfl
  have g1 := hf 1 _ rfl
  have g2 := hf 2 _ rfl
  simp [c29] at g0 g1 g2
  obtain ⟨a1, n1, c1, e1⟩ := slice_shape Tryz.underlying29 g0
  obtain ⟨a2, n2, c2, e2⟩ := slice_shape Tryz.underlying29 g1
  obtain ⟨a3, n3, c3, e3⟩ := slice_shape Tryz.underlying29 g2
  cases e1; cases e2; cases e3
  obtain ⟨h1, h2, l1, h3, _⟩ := take_ints Tryz.underlying29 Tryz.underlying3 (by kernel_rfl) g0
  obtain ⟨k1, k2, l2, k3, _⟩ := take_ints Tryz.underlying29 Tryz.underlying3 (by kernel_rfl) g1
  obtain ⟨j1, j2, l3, j3, _⟩ := take_ints Tryz.underlying29 Tryz.underlying3 (by kernel_rfl) g2
  exact ⟨a1, n1, c1, a2, n2, c2, a3, n3, c3, l1, l2, l3, rfl, ⟨h1, h2, h3⟩, ⟨k1, k2, k3⟩, ⟨j1, j2, j3⟩⟩
theorem none_slice {t e : TypeId} (ht : Tryz.prog.underlying t = some (.slice e)) {fuel : Nat} {a : Option Addr} {n c : Nat} {x : DataW H × List MemPlace} (h : DataW.trod enc Tryz.prog w base spare held fuel t [.slice a n c] = some x) (ha : a = none) : n = 0 ∧ c = 0 := by
  rcases Go.Deep.open_slice ht h with ⟨h0, _⟩ | ⟨ad, len, cap, m, n', D, Pl, hcs, hb, hl, hm, hmm, _, hx⟩
  · cases h0
    exact ⟨rfl, rfl⟩
  · cases hcs
    cases ha
end
end Go.Proofs.YtcoelhpmkhimpaaGreatDoor
