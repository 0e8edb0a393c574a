/- Contracts of layer 3: when one leaves. -/
import Derived.Test.YtcoelhpmkhimpaaFirstC
import Derived.Laws.CopyOwn
namespace Go.Proofs.Ytcoelhpmkhimpaa
open Go.RowKit
set_option linter.unusedVariables false
set_option linter.unusedSimpArgs false
def stepLv (o s n a out : Int) : Int := if max a o + n - 1 ≤ s then min (min out (max a o)) 100001 else out
theorem leaveBy_snoc (o s : Gate → Int) (n a : Int) : ∀ (l : List Gate) (g : Gate) (out : Int), leaveBy o s n a (l ++ [g]) out = stepLv (o g) (s g) n a (leaveBy o s n a l out)
  | [], g, out => rfl
  | x :: l, g, out => by
    show leaveBy o s n a (l ++ [g]) _ = _
    rw [leaveBy_snoc o s n a l g]
    rfl
theorem leaveBy_take (o s : Gate → Int) (n a : Int) {l : List Gate} {k : Nat} {g : Gate} (h : l[k]? = some g) (out : Int) : leaveBy o s n a (l.take (k + 1)) out = stepLv (o g) (s g) n a (leaveBy o s n a (l.take k) out) := by
  rw [List.take_add_one, h, Option.toList_some, leaveBy_snoc]
theorem leaveBy_nonneg (o s : Gate → Int) (n a : Int) (ha : 0 ≤ a) : ∀ (l : List Gate) (out : Int), 0 ≤ out → 0 ≤ leaveBy o s n a l out
  | [], out, h => h
  | g :: l, out, h => by
    unfold leaveBy
    refine leaveBy_nonneg o s n a ha l _ ?_
    split <;> omega
/-- between two steps: the blocks p7 (the days) and p8 (what is found so far) -/
structure LvIn (w : World) (a0 a1 n0 n1 : Int) (C : Array Value) (p7 p8 : Nat) (o0 o1 : Int) (W : World) : Prop where
  ext : Ext w W
  cv : W.heap[w.heap.size]? = some (.cells C 108 (0, 0))
  ac : W.heap[w.heap.size + 1]? = some (.cells #[.int .i64 a0, .int .i64 a1] 114 (0, 0))
  rs : W.heap[w.heap.size + 1 + 1]? = some (.cells #[.int .i64 0, .int .i64 0] 114 (0, 0))
  ns : W.heap[p7]? = some (.cells #[.int .i64 n0, .int .i64 n1] 114 (0, 0))
  ou : W.heap[p8]? = some (.cells #[.int .i64 o0, .int .i64 o1] 114 (0, 0))
  m7 : w.heap.size + 1 + 1 < p7
  m8 : p7 < p8
theorem LvIn.next {w : World} {a0 a1 n0 n1 : Int} {C : Array Value} {p7 p8 : Nat} {o0 o1 : Int} {W W' : World} (h : LvIn w a0 a1 n0 n1 C p7 p8 o0 o1 W) (hx : Ext W W') : LvIn w a0 a1 n0 n1 C p7 p8 o0 o1 W' :=
  ⟨h.ext.trans hx, hx.heap h.cv, hx.heap h.ac, hx.heap h.rs, hx.heap h.ns, hx.heap h.ou, h.m7, h.m8⟩
theorem LvIn.put0 {w : World} {a0 a1 n0 n1 : Int} {C : Array Value} {p7 p8 : Nat} {o0 o1 : Int} {W : World} (h : LvIn w a0 a1 n0 n1 C p7 p8 o0 o1 W) (x : Int) : LvIn w a0 a1 n0 n1 C p7 p8 x o1 (W.setCell ⟨p8, 0, none⟩ (.int .i64 x)) := by
  have h7 := h.m7
  have h8 := h.m8
  have o : ∀ {k : Nat} {ob : Obj}, W.heap[k]? = some ob → k ≠ p8 → (W.setCell ⟨p8, 0, none⟩ (.int .i64 x)).heap[k]? = some ob := fun hk hne => (Below.heap_setCell _ _ _ _ hne).trans hk
  refine ⟨h.ext.setCell (p := ⟨p8, 0, none⟩) (by simp only; omega) _, o h.cv (by omega), o h.ac (by omega), o h.rs (by omega), o h.ns (by omega), ?_, h7, h8⟩
  rw [heap_setCell_box, h.ou]
  rfl
theorem LvIn.put1 {w : World} {a0 a1 n0 n1 : Int} {C : Array Value} {p7 p8 : Nat} {o0 o1 : Int} {W : World} (h : LvIn w a0 a1 n0 n1 C p7 p8 o0 o1 W) (x : Int) : LvIn w a0 a1 n0 n1 C p7 p8 o0 x (W.setCell ⟨p8, 1, none⟩ (.int .i64 x)) := by
  have h7 := h.m7
  have h8 := h.m8
  have o : ∀ {k : Nat} {ob : Obj}, W.heap[k]? = some ob → k ≠ p8 → (W.setCell ⟨p8, 1, none⟩ (.int .i64 x)).heap[k]? = some ob := fun hk hne => (Below.heap_setCell _ _ _ _ hne).trans hk
  refine ⟨h.ext.setCell (p := ⟨p8, 1, none⟩) (by simp only; omega) _, o h.cv (by omega), o h.ac (by omega), o h.rs (by omega), o h.ns (by omega), ?_, h7, h8⟩
  rw [heap_setCell_box, h.ou]
  rfl
/-- a gate is read: the blocks q1 (when it opens) and q2 (when it shuts) -/
structure LvGt (wr : World) (o0 o1 s0 s1 : Int) (q1 q2 : Nat) (W : World) : Prop where
  ext : Ext wr W
  op : W.heap[q1]? = some (.cells #[.int .i64 o0, .int .i64 o1] 114 (0, 0))
  sh : W.heap[q2]? = some (.cells #[.int .i64 s1, .int .i64 s0] 114 (0, 0))
  l1 : wr.heap.size ≤ q1
  l2 : wr.heap.size ≤ q2
theorem first2_any (W : World) (A T : Int) : Calls Try.prog 96 #[.slice (some ⟨W.heap.size, 0, none⟩) 2 2] (W.alloc (.cells #[.int .i64 A, .int .i64 T] 3)) fun e w' => e = .returned (.int .i64 (min (min A T) 100001)) ∧ Ext W w' := by
  have h := first_any W.heap.size 2 [A, T] A _ (ints_built (l := [A, T]) (heap_alloc_new W _)) rfl (by omega)
  refine h.mono ?_
  rintro e w' ⟨rfl, hx⟩
  refine ⟨?_, ((Ext.refl W).alloc _).trans hx⟩
  have : minTo [A, T] 2 A = min A T := by
    show min (min A A) T = _
    rw [Int.min_self]
  rw [this]
theorem stepLv_in {o s n a out T : Int} (hT : (if a < o then o else a) = T) (h : T + n - 1 ≤ s) : min (min out T) 100001 = stepLv o s n a out := by
  have : max a o = T := by rw [← hT]; split <;> omega
  unfold stepLv
  rw [this, if_pos h]
theorem stepLv_out {o s n a out T : Int} (hT : (if a < o then o else a) = T) (h : ¬T + n - 1 ≤ s) : out = stepLv o s n a out := by
  have : max a o = T := by rw [← hT]; split <;> omega
  unfold stepLv
  rw [this, if_neg h]
set_option maxRecDepth 100000 in
set_option maxHeartbeats 8000000 in
theorem leave_any {N : Nat} (wa : Option Addr) (wn wc : Nat) (la : Option Addr) (ln lc : Nat) (legs : List Leg) (p at' : Span) (g : Nat) (x : Leg) (w : World) (h : LegsAt w la ln legs) (hx : legs[g]? = some x) (hL : LegOk N x) (hp : SpanIs p 1 100000) (ha : SpanIs at' 0 100000) (hlc : ln ≤ lc) (hlm : lc ≤ maxLen) :
    Calls Try.prog 47 #[.agg #[.slice wa wn wc, .slice la ln lc, .int .i64 p.lo, .int .i64 p.hi], .int .i64 g, at'.val] w fun e w' => e = .returned (leaveOf x p at').val ∧ Ext w w' := by
  have hgn : g < ln := by have := (List.getElem?_eq_some_iff.1 hx).1; have := h.1; omega
  have hdy := fun W (hW : Ext w W) => legDays_any wa wn wc la ln lc legs p g x W (h.ext hW) hx hL.long hp hlc hlm
  have hdd := days_is hL hp
  have hfw := hL.few
  have hgo := gates_mem hL.gates
  have hlv : leaveOf x p at' = ⟨leaveBy (fun g => g.opens.lo) (fun g => g.shuts.hi) (legDays x p).lo at'.lo x.gates 100001, leaveBy (fun g => g.opens.hi) (fun g => g.shuts.lo) (legDays x p).hi at'.hi x.gates 100001⟩ := rfl
  obtain ⟨R, hR⟩ : ∃ R, leaveOf x p at' = R := ⟨_, rfl⟩
  rw [hR] at hlv ⊢
  obtain ⟨⟨n0, n1⟩, hD⟩ : ∃ D, legDays x p = D := ⟨_, rfl⟩
  rw [hD] at hdy hdd hlv
  clear hR hD hL
  obtain ⟨p0, p1⟩ := p
  obtain ⟨a0, a1⟩ := at'
  obtain ⟨ha1, ha2, ha3⟩ := ha
  unfold Span.val at *
  simp only at *
  subst hlv
  obtain ⟨W0, hW0⟩ : ∃ W0, ((w.alloc (.cells #[.slice wa wn wc, .slice la ln lc, .int .i64 p0, .int .i64 p1] 108)).alloc (.cells #[.int .i64 a0, .int .i64 a1] 114)).alloc (.cells #[.int .i64 0, .int .i64 0] 114) = W0 := ⟨_, rfl⟩
  have hx0 : Ext w W0 := by rw [← hW0]; exact (((Ext.refl w).alloc _).alloc _).alloc _
  have hc0 : W0.heap[w.heap.size]? = some (.cells #[.slice wa wn wc, .slice la ln lc, .int .i64 p0, .int .i64 p1] 108 (0, 0)) := by rw [← hW0]; exact alloc_heap (alloc_heap (heap_alloc_new w _) _) _
  have hr0 : W0.heap[w.heap.size + 1]? = some (.cells #[.int .i64 a0, .int .i64 a1] 114 (0, 0)) := by rw [← hW0]; exact alloc_heap (alloc_at _ _ _ (by simp)) _
  have hl0 : W0.heap[w.heap.size + 1 + 1]? = some (.cells #[.int .i64 0, .int .i64 0] 114 (0, 0)) := by rw [← hW0]; exact alloc_at _ _ _ (by simp)
  obtain ⟨b, off, x', ka, kn, kc, rfl, hx', hb, c0, c1, c2, c3, c4, hk1, hk2, hgt⟩ := h.get g hgn
  rw [hx] at hx'
  cases hx'
  have hkl := hgt.1
  unfold maxLen at hlm hk2
  have hcg : ∀ W, Ext w W → W.cell? ⟨b, off + g * 5 + 4, none⟩ = some (.slice ka kn kc) := fun W hW => hW.cell c4
  obtain ⟨z0, _⟩ := (Ext.refl W0).box hc0
  have Hdy := Lib.hid hdy
  have Hdd := Lib.hid hdd
  have Hgo := Lib.hid hgo
  have Hgt := Lib.hid hgt
  have Hx0 := Lib.hid hx0
  have Hc0 := Lib.hid hc0
  have Hr0 := Lib.hid hr0
  have Hl0 := Lib.hid hl0
  have Hx := Lib.hid hx
  have Hcg := Lib.hid hcg
  have H := Lib.hid h
  clear hdy hdd hgo hgt hx0 hc0 hr0 hl0 hx hcg h
  clear c0 c1 c2 c3 c4
  go_enter Try.func47, Try.ntmps47
  go_upto_region 3 with (go_at_call 50; refine (Hdy.out _ Hx0.out).mono ?_; rintro e w1 ⟨rfl, hx1⟩; clear hW0 z0)
  have hE2 := (hx1.alloc (.cells #[.int .i64 n0, .int .i64 n1] 114)).alloc (.cells #[.int .i64 100001, .int .i64 100001] 114)
  have hD2 : LvIn w a0 a1 n0 n1 #[.slice wa wn wc, .slice (some ⟨b, off, none⟩) ln lc, .int .i64 p0, .int .i64 p1] w1.heap.size (w1.heap.size + 1) 100001 100001 ((w1.alloc (.cells #[.int .i64 n0, .int .i64 n1] 114)).alloc (.cells #[.int .i64 100001, .int .i64 100001] 114)) := by
    have hs := heap_lt (hx1.heap Hl0.out)
    refine ⟨Hx0.out.trans hE2, hE2.heap Hc0.out, hE2.heap Hr0.out, hE2.heap Hl0.out, alloc_heap (heap_alloc_new _ _) _, alloc_at _ _ _ (by simp), hs, by omega⟩
  clear hE2 hx1 Hx0 Hc0 Hr0 Hl0
  generalize ((w1.alloc (.cells #[.int .i64 n0, .int .i64 n1] 114)).alloc (.cells #[.int .i64 100001, .int .i64 100001] 114)) = W2 at *
  generalize w1.heap.size = p7 at *
  generalize p7 + 1 = p8 at *
  obtain ⟨z0, _⟩ := (Ext.refl W2).box hD2.cv
  have c4 := Hcg.out _ hD2.ext
  have HD2 := Lib.hid hD2
  clear hD2
  go_wp2_with fail
  clear z0 c4 Hcg
  generalize hCC : (#[.slice wa wn wc, .slice (some ⟨b, off, none⟩) ln lc, .int .i64 p0, .int .i64 p1] : Array Value) = CC at *
  clear hCC
  go_loopw [27] (fun i wr => ∃ k : Nat, i = .int .i64 k ∧ k ≤ kn ∧ LvIn w a0 a1 n0 n1 CC p7 p8 (leaveBy (fun g => g.opens.lo) (fun g => g.shuts.hi) n0 a0 (x.gates.take k) 100001) (leaveBy (fun g => g.opens.hi) (fun g => g.shuts.lo) n1 a1 (x.gates.take k) 100001) wr) (fun i _ => kn - (intOf i).toNat)
  case atStart => exact ⟨0, rfl, by omega, HD2.out⟩
  case round =>
    obtain ⟨k, rfl, hk, hD⟩ := hrel
    clear HD2
    by_cases hlt : k < kn
    · have hltB : decide ((k : Int) < (kn : Int)) = true := by simp; omega
      obtain ⟨b2, off2, gt, e, hgk, hb2, d0, d1, d2, d3⟩ := (Hgt.out.ext hD.ext).get k hlt
      subst e
      have hs0 := leaveBy_take (fun g => g.opens.lo) (fun g => g.shuts.hi) n0 a0 hgk 100001
      have hs1 := leaveBy_take (fun g => g.opens.hi) (fun g => g.shuts.lo) n1 a1 hgk 100001
      have hgg := Hgo.out _ (List.mem_of_getElem? hgk)
      have hu0 := leaveBy_le (fun g => g.opens.lo) (fun g => g.shuts.hi) n0 a0 (x.gates.take k) 100001
      have hu1 := leaveBy_le (fun g => g.opens.hi) (fun g => g.shuts.lo) n1 a1 (x.gates.take k) 100001
      have hv0 := leaveBy_nonneg (fun g => g.opens.lo) (fun g => g.shuts.hi) n0 a0 (by omega) (x.gates.take k) 100001 (by omega)
      have hv1 := leaveBy_nonneg (fun g => g.opens.hi) (fun g => g.shuts.lo) n1 a1 (by omega) (x.gates.take k) 100001 (by omega)
      generalize leaveBy (fun g => g.opens.lo) (fun g => g.shuts.hi) n0 a0 (x.gates.take k) 100001 = A at *
      generalize leaveBy (fun g => g.opens.hi) (fun g => g.shuts.lo) n1 a1 (x.gates.take k) 100001 = B at *
      obtain ⟨⟨o0, o1⟩, ⟨s0, s1⟩⟩ := gt
      simp only at *
      obtain ⟨⟨g1, g2, g3⟩, ⟨g4, g5, g6⟩⟩ := hgg
      simp only at g1 g2 g3 g4 g5 g6
      have HD := Lib.hid hD
      have Hs0 := Lib.hid hs0
      have Hs1 := Lib.hid hs1
      clear hD hs0 hs1
      go_upto_region 6 with fail
      have hgx := (Ext.refl wr).alloc (.cells #[.int .i64 o0, .int .i64 o1, .int .i64 s0, .int .i64 s1] 177)
      have hgb := heap_alloc_new wr (.cells #[.int .i64 o0, .int .i64 o1, .int .i64 s0, .int .i64 s1] 177)
      generalize wr.alloc (.cells #[.int .i64 o0, .int .i64 o1, .int .i64 s0, .int .i64 s1] 177) = W0 at *
      generalize wr.heap.size = q0 at *
      clear d0 d1 d2 d3
      have Hgx := Lib.hid hgx
      have Hgb := Lib.hid hgb
      clear hgx hgb
      refine wp_region_tree (.take [0, 1, 2, 3, 4, 5, 6, 7, 8, 9, 10, 11, 12, 13] (.two 14 (.one 15 (.one 16 (.one 17 .done))) 15 (.one 14 (.one 16 (.one 17 .done))))) (Ext W0) _ (by kernel_rfl) (by kernel_rfl) rfl ((Ext.refl _).drew) ?_
      intro ι _ f hf hs
      have f0 := fun q => ((hf q).box Hgb.out).1
      have HS := Lib.hid hs
      clear hf hs
      simp only [treeOf, oneOp, twoOp, opsOf, consOp, List.getElem?_toArray, List.getElem?_cons_succ, List.getElem?_cons_zero]
      refine wpOT_take ?_
      repeat (go_big_quiet_step (fail))
      refine wpQuiet_nil ?_
      clear f0
      refine wpOT_both ?_
      apply join_two (F := fun q1 q2 V => LvGt W0 o0 o1 s0 s1 q1 q2 V)
      · intro g
        have G := Lib.hid g
        clear g
        go_wp2_with fail
        refine ⟨HS.out _ (((Ext.refl W0).alloc _).drew), ?_⟩
        refine wpOT_one ?_
        go_wp2_with fail
        refine ⟨HS.out _ ((((Ext.refl W0).alloc _).alloc _).drew), ?_⟩
        have hxb : Ext W0 (((W0.alloc (.cells #[.int .i64 0, .int .i64 0] 114)).alloc (.cells #[.int .i64 0, .int .i64 0] 114)).drew) := (((Ext.refl W0).alloc _).alloc _).drew
        have hb7 : (((W0.alloc (.cells #[.int .i64 0, .int .i64 0] 114)).alloc (.cells #[.int .i64 0, .int .i64 0] 114)).drew).heap[W0.heap.size]? = some (.cells #[.int .i64 0, .int .i64 0] 114 (0, 0)) := ((Ext.refl _).drew).heap (alloc_heap (heap_alloc_new W0 _) _)
        have hb8 : (((W0.alloc (.cells #[.int .i64 0, .int .i64 0] 114)).alloc (.cells #[.int .i64 0, .int .i64 0] 114)).drew).heap[W0.heap.size + 1]? = some (.cells #[.int .i64 0, .int .i64 0] 114 (0, 0)) := ((Ext.refl _).drew).heap (alloc_at _ _ _ (by simp))
        generalize (((W0.alloc (.cells #[.int .i64 0, .int .i64 0] 114)).alloc (.cells #[.int .i64 0, .int .i64 0] 114)).drew) = Wb at *
        obtain ⟨z7, y7⟩ := (Ext.refl Wb).box hb7
        have l7 := heap_lt hb7
        refine wpOT_one ?_
        go_wp2_with fail
        have hxc := set2_ext hxb (b := W0.heap.size) (by omega) (.int .i64 o0) (.int .i64 o1)
        have hc7 := set2_box hb7 (.int .i64 o0) (.int .i64 o1)
        have hc8 := set2_other hb8 (b := W0.heap.size) (by omega) (.int .i64 o0) (.int .i64 o1)
        refine ⟨HS.out _ hxc, ?_⟩
        generalize ((Wb.setCell ⟨W0.heap.size, 0, none⟩ (.int .i64 o0)).setCell ⟨W0.heap.size, 1, none⟩ (.int .i64 o1)) = Wc at *
        clear z7 y7 hxb hb7 hb8
        obtain ⟨z8, y8⟩ := (Ext.refl Wc).box hc8
        have l8 := heap_lt hc8
        refine wpOT_one ?_
        go_wp2_with fail
        have hxd := set2_ext hxc (b := W0.heap.size + 1) (by omega) (.int .i64 s1) (.int .i64 s0)
        have hd7 := set2_other hc7 (b := W0.heap.size + 1) (by omega) (.int .i64 s1) (.int .i64 s0)
        have hd8 := set2_box hc8 (.int .i64 s1) (.int .i64 s0)
        refine ⟨HS.out _ hxd, ?_⟩
        refine wpOT_done ?_
        have n7 : W0.heap.size ≤ W0.heap.size := by omega
        have n8 : W0.heap.size ≤ W0.heap.size + 1 := by omega
        have hfin : LvGt W0 o0 o1 s0 s1 (W0.heap.size) (W0.heap.size + 1) _ := ⟨hxd, hd7, hd8, n7, n8⟩
        clear hxc hc7 hc8 z8 y8 l8 l7 hxd hd7 hd8 n7 n8
        generalize ((Wc.setCell ⟨W0.heap.size + 1, 0, none⟩ (.int .i64 s1)).setCell ⟨W0.heap.size + 1, 1, none⟩ (.int .i64 s0)) = Wd at *
        generalize W0.heap.size + 1 = qb at *
        generalize W0.heap.size = qa at *
        exact G.out _ _ _ hfin
      · intro g
        have G := Lib.hid g
        clear g
        go_wp2_with fail
        refine ⟨HS.out _ (((Ext.refl W0).alloc _).drew), ?_⟩
        refine wpOT_one ?_
        go_wp2_with fail
        refine ⟨HS.out _ ((((Ext.refl W0).alloc _).alloc _).drew), ?_⟩
        have hxb : Ext W0 (((W0.alloc (.cells #[.int .i64 0, .int .i64 0] 114)).alloc (.cells #[.int .i64 0, .int .i64 0] 114)).drew) := (((Ext.refl W0).alloc _).alloc _).drew
        have hb7 : (((W0.alloc (.cells #[.int .i64 0, .int .i64 0] 114)).alloc (.cells #[.int .i64 0, .int .i64 0] 114)).drew).heap[W0.heap.size + 1]? = some (.cells #[.int .i64 0, .int .i64 0] 114 (0, 0)) := ((Ext.refl _).drew).heap (alloc_at _ _ _ (by simp))
        have hb8 : (((W0.alloc (.cells #[.int .i64 0, .int .i64 0] 114)).alloc (.cells #[.int .i64 0, .int .i64 0] 114)).drew).heap[W0.heap.size]? = some (.cells #[.int .i64 0, .int .i64 0] 114 (0, 0)) := ((Ext.refl _).drew).heap (alloc_heap (heap_alloc_new W0 _) _)
        generalize (((W0.alloc (.cells #[.int .i64 0, .int .i64 0] 114)).alloc (.cells #[.int .i64 0, .int .i64 0] 114)).drew) = Wb at *
        obtain ⟨z7, y7⟩ := (Ext.refl Wb).box hb7
        have l7 := heap_lt hb7
        refine wpOT_one ?_
        go_wp2_with fail
        have hxc := set2_ext hxb (b := W0.heap.size + 1) (by omega) (.int .i64 o0) (.int .i64 o1)
        have hc7 := set2_box hb7 (.int .i64 o0) (.int .i64 o1)
        have hc8 := set2_other hb8 (b := W0.heap.size + 1) (by omega) (.int .i64 o0) (.int .i64 o1)
        refine ⟨HS.out _ hxc, ?_⟩
        generalize ((Wb.setCell ⟨W0.heap.size + 1, 0, none⟩ (.int .i64 o0)).setCell ⟨W0.heap.size + 1, 1, none⟩ (.int .i64 o1)) = Wc at *
        clear z7 y7 hxb hb7 hb8
        obtain ⟨z8, y8⟩ := (Ext.refl Wc).box hc8
        have l8 := heap_lt hc8
        refine wpOT_one ?_
        go_wp2_with fail
        have hxd := set2_ext hxc (b := W0.heap.size) (by omega) (.int .i64 s1) (.int .i64 s0)
        have hd7 := set2_other hc7 (b := W0.heap.size) (by omega) (.int .i64 s1) (.int .i64 s0)
        have hd8 := set2_box hc8 (.int .i64 s1) (.int .i64 s0)
        refine ⟨HS.out _ hxd, ?_⟩
        refine wpOT_done ?_
        have n7 : W0.heap.size ≤ W0.heap.size + 1 := by omega
        have n8 : W0.heap.size ≤ W0.heap.size := by omega
        have hfin : LvGt W0 o0 o1 s0 s1 (W0.heap.size + 1) (W0.heap.size) _ := ⟨hxd, hd7, hd8, n7, n8⟩
        clear hxc hc7 hc8 z8 y8 l8 l7 hxd hd7 hd8 n7 n8
        generalize ((Wc.setCell ⟨W0.heap.size, 0, none⟩ (.int .i64 s1)).setCell ⟨W0.heap.size, 1, none⟩ (.int .i64 s0)) = Wd at *
        generalize W0.heap.size + 1 = qb at *
        generalize W0.heap.size = qa at *
        exact G.out _ _ _ hfin
      clear HS
      rintro q1 q2 V hV
      have hDV := HD.out.next (Hgx.out.trans hV.ext)
      have hp8 := (Nat.lt_of_lt_of_le (heap_lt HD.out.ou) Hgx.out.size)
      clear HD Hgx Hgb
      have hl1 := hV.l1
      have hl2 := hV.l2
      have hpq1 : p8 ≠ q1 := by omega
      have hpq2 : p8 ≠ q2 := by omega
      clear hl1 hl2 hp8
      obtain ⟨hn1, hn2, hn3⟩ := Hdd.out
      have hop := hV.op
      have hsh := hV.sh
      clear hV
      have HDV := Lib.hid hDV
      have Hop := Lib.hid hop
      have Hsh := Lib.hid hsh
      clear hDV hop hsh
      go_wp2_with fail
      go_loopw [45] (fun i wr => (i = .int .i64 0 ∧ LvIn w a0 a1 n0 n1 CC p7 p8 A B wr ∧ wr.heap[q1]? = some (.cells #[.int .i64 o0, .int .i64 o1] 114 (0, 0)) ∧ wr.heap[q2]? = some (.cells #[.int .i64 s1, .int .i64 s0] 114 (0, 0))) ∨ (i = .int .i64 1 ∧ LvIn w a0 a1 n0 n1 CC p7 p8 (stepLv o0 s1 n0 a0 A) B wr ∧ wr.heap[q1]? = some (.cells #[.int .i64 o0, .int .i64 o1] 114 (0, 0)) ∧ wr.heap[q2]? = some (.cells #[.int .i64 s1, .int .i64 s0] 114 (0, 0))) ∨ (i = .int .i64 2 ∧ LvIn w a0 a1 n0 n1 CC p7 p8 (stepLv o0 s1 n0 a0 A) (stepLv o1 s0 n1 a1 B) wr)) (fun i _ => 2 - (intOf i).toNat)
      case atStart => exact .inl ⟨rfl, HDV.out, Hop.out, Hsh.out⟩
      case round =>
        clear HDV Hop Hsh
        rcases hrel with ⟨rfl, hD, hop, hsh⟩ | ⟨rfl, hD, hop, hsh⟩ | ⟨rfl, hD⟩
        · obtain ⟨T, hT⟩ : ∃ T, (if a0 < o0 then o0 else a0) = T := ⟨_, rfl⟩
          have hTb : 0 ≤ T ∧ T ≤ 100000 := by rw [← hT]; split <;> omega
          have HD := Lib.hid hD
          have Hop := Lib.hid hop
          have Hsh := Lib.hid hsh
          clear hD hop hsh
          go_upto_region 10 with fail
          refine wp_region_ext (by kernel_rfl) (by kernel_rfl) (fun f hf hs => ?_)
          have f0 := fun q => ((hf q).box HD.out.ac).1
          have f1 := fun q => ((hf q).box Hop.out).1
          clear hf hs
          repeat (go_big_quiet_step (fail))
          refine wpQuiet_nil ?_
          intro W3 hW3
          clear f0 f1
          have hD3 := HD.out.next hW3
          have hop3 := hW3.heap Hop.out
          have hsh3 := hW3.heap Hsh.out
          clear HD Hop Hsh hW3
          have HD3 := Lib.hid hD3
          have Hop3 := Lib.hid hop3
          have Hsh3 := Lib.hid hsh3
          clear hD3 hop3 hsh3
          obtain ⟨hTb1, hTb2⟩ := hTb
          go_upto_region 11 with fail
          have HT := Lib.hid hT
          clear hT
          refine wp_region_ext (by kernel_rfl) (by kernel_rfl) (fun f hf hs => ?_)
          have f0 := fun q => ((hf q).box HD3.out.ns).1
          have f1 := fun q => ((hf q).box Hsh3.out).1
          clear hf hs
          repeat (go_big_quiet_step (fail))
          refine wpQuiet_nil ?_
          intro W4 hW4
          clear f0 f1
          have hD4 := HD3.out.next hW4
          have hop4 := hW4.heap Hop3.out
          have hsh4 := hW4.heap Hsh3.out
          clear HD3 Hop3 Hsh3 hW4
          have HD4 := Lib.hid hD4
          have Hop4 := Lib.hid hop4
          have Hsh4 := Lib.hid hsh4
          clear hD4 hop4 hsh4
          by_cases hc : T + n0 - 1 ≤ s1
          · have hcB : decide (T + n0 - 1 ≤ s1) = true := decide_eq_true hc
            have hst := stepLv_in (out := A) HT.out hc
            have hou := HD4.out.ou
            obtain ⟨z0, _⟩ := (Ext.refl W4).box hou
            have hol := heap_lt hou
            have hf2 := first2_any W4 A T
            rw [hst] at hf2
            obtain ⟨Z, hZ⟩ : ∃ Z, stepLv o0 s1 n0 a0 A = Z := ⟨_, rfl⟩
            rw [hZ] at hf2
            have Hf2 := Lib.hid hf2
            have Hou := Lib.hid hou
            have Hst := Lib.hid hst
            have HZ := Lib.hid hZ
            clear hf2 hou hst hZ
            clear hc
            rw [hcB]
            clear hcB
            go_wp2_with (go_at_call 96; refine (Hf2.out).mono ?_; rintro e w5 ⟨rfl, hx5⟩; clear z0; obtain ⟨z1, z2⟩ := (Ext.refl w5).box (hx5.heap Hou.out); have hsz := hx5.size; have hpw : p8 < w5.heap.size := by omega)
            clear z1 z2
            have hD5 := (HD4.out.next hx5).put0 Z
            have hop5 := ((Ext.refl _).heap (hx5.heap Hop4.out))
            have hsh5 := ((Ext.refl _).heap (hx5.heap Hsh4.out))
            have hop6 : (w5.setCell ⟨p8, 0, none⟩ (.int .i64 Z)).heap[q1]? = _ := (Below.heap_setCell _ _ _ _ (Ne.symm hpq1)).trans hop5
            have hsh6 : (w5.setCell ⟨p8, 0, none⟩ (.int .i64 Z)).heap[q2]? = _ := (Below.heap_setCell _ _ _ _ (Ne.symm hpq2)).trans hsh5
            go_roundw
            case rel => rw [HZ.out]; exact .inr (.inl ⟨rfl, hD5, hop6, hsh6⟩)
            case measure => simp [intOf]
          · have hcB : decide (T + n0 - 1 ≤ s1) = false := decide_eq_false hc
            have hst := stepLv_out (out := A) HT.out hc
            have Hst := Lib.hid hst
            clear hst hc
            rw [hcB]
            clear hcB
            go_wp2_with fail
            go_roundw
            case rel => exact .inr (.inl ⟨rfl, Hst.out ▸ HD4.out, Hop4.out, Hsh4.out⟩)
            case measure => simp [intOf]
        · obtain ⟨T, hT⟩ : ∃ T, (if a1 < o1 then o1 else a1) = T := ⟨_, rfl⟩
          have hTb : 0 ≤ T ∧ T ≤ 100000 := by rw [← hT]; split <;> omega
          have HD := Lib.hid hD
          have Hop := Lib.hid hop
          have Hsh := Lib.hid hsh
          clear hD hop hsh
          go_upto_region 10 with fail
          refine wp_region_ext (by kernel_rfl) (by kernel_rfl) (fun f hf hs => ?_)
          have f0 := fun q => ((hf q).box HD.out.ac).1
          have f1 := fun q => ((hf q).box Hop.out).1
          clear hf hs
          repeat (go_big_quiet_step (fail))
          refine wpQuiet_nil ?_
          intro W3 hW3
          clear f0 f1
          have hD3 := HD.out.next hW3
          have hop3 := hW3.heap Hop.out
          have hsh3 := hW3.heap Hsh.out
          clear HD Hop Hsh hW3
          have HD3 := Lib.hid hD3
          have Hop3 := Lib.hid hop3
          have Hsh3 := Lib.hid hsh3
          clear hD3 hop3 hsh3
          obtain ⟨hTb1, hTb2⟩ := hTb
          go_upto_region 11 with fail
          have HT := Lib.hid hT
          clear hT
          refine wp_region_ext (by kernel_rfl) (by kernel_rfl) (fun f hf hs => ?_)
          have f0 := fun q => ((hf q).box HD3.out.ns).1
          have f1 := fun q => ((hf q).box Hsh3.out).1
          clear hf hs
          repeat (go_big_quiet_step (fail))
          refine wpQuiet_nil ?_
          intro W4 hW4
          clear f0 f1
          have hD4 := HD3.out.next hW4
          have hop4 := hW4.heap Hop3.out
          have hsh4 := hW4.heap Hsh3.out
          clear HD3 Hop3 Hsh3 hW4
          have HD4 := Lib.hid hD4
          have Hop4 := Lib.hid hop4
          have Hsh4 := Lib.hid hsh4
          clear hD4 hop4 hsh4
          by_cases hc : T + n1 - 1 ≤ s0
          · have hcB : decide (T + n1 - 1 ≤ s0) = true := decide_eq_true hc
            have hst := stepLv_in (out := B) HT.out hc
            have hou := HD4.out.ou
            obtain ⟨z0, _⟩ := (Ext.refl W4).box hou
            have hol := heap_lt hou
            have hf2 := first2_any W4 B T
            rw [hst] at hf2
            obtain ⟨Z, hZ⟩ : ∃ Z, stepLv o1 s0 n1 a1 B = Z := ⟨_, rfl⟩
            rw [hZ] at hf2
            have Hf2 := Lib.hid hf2
            have Hou := Lib.hid hou
            have Hst := Lib.hid hst
            have HZ := Lib.hid hZ
            clear hf2 hou hst hZ
            clear hc
            rw [hcB]
            clear hcB
            go_wp2_with (go_at_call 96; refine (Hf2.out).mono ?_; rintro e w5 ⟨rfl, hx5⟩; clear z0; obtain ⟨z1, z2⟩ := (Ext.refl w5).box (hx5.heap Hou.out); have hsz := hx5.size; have hpw : p8 < w5.heap.size := by omega)
            clear z1 z2
            have hD5 := (HD4.out.next hx5).put1 Z
            have hop5 := ((Ext.refl _).heap (hx5.heap Hop4.out))
            have hsh5 := ((Ext.refl _).heap (hx5.heap Hsh4.out))
            have hop6 : (w5.setCell ⟨p8, 1, none⟩ (.int .i64 Z)).heap[q1]? = _ := (Below.heap_setCell _ _ _ _ (Ne.symm hpq1)).trans hop5
            have hsh6 : (w5.setCell ⟨p8, 1, none⟩ (.int .i64 Z)).heap[q2]? = _ := (Below.heap_setCell _ _ _ _ (Ne.symm hpq2)).trans hsh5
            go_roundw
            case rel => rw [HZ.out]; exact .inr (.inr ⟨rfl, hD5⟩)
            case measure => simp [intOf]
          · have hcB : decide (T + n1 - 1 ≤ s0) = false := decide_eq_false hc
            have hst := stepLv_out (out := B) HT.out hc
            have Hst := Lib.hid hst
            clear hst hc
            rw [hcB]
            clear hcB
            go_wp2_with fail
            go_roundw
            case rel => exact .inr (.inr ⟨rfl, Hst.out ▸ HD4.out⟩)
            case measure => simp [intOf]
        · go_wp2_with fail
          rw [← Hs0.out, ← Hs1.out] at hD
          exact ⟨⟨k + 1, by go_num, by omega, hD⟩, by simp [intOf]; omega⟩
    · obtain rfl : k = kn := by omega
      have hkl' := hkl
      have htk : x.gates.take x.gates.length = x.gates := List.take_length
      rw [← hkl] at hD
      rw [htk] at hD
      obtain ⟨A, hA⟩ : ∃ A, leaveBy (fun g => g.opens.lo) (fun g => g.shuts.hi) n0 a0 x.gates 100001 = A := ⟨_, rfl⟩
      obtain ⟨B, hB⟩ : ∃ B, leaveBy (fun g => g.opens.hi) (fun g => g.shuts.lo) n1 a1 x.gates 100001 = B := ⟨_, rfl⟩
      rw [hA, hB] at hD
      have HA := Lib.hid hA
      have HB := Lib.hid hB
      clear hA hB
      have hrl := heap_lt hD.rs
      have hex := hD.ext
      have hrs := hD.rs
      obtain ⟨z0, _⟩ := (Ext.refl wr).box hD.ou
      obtain ⟨z1, _⟩ := (Ext.refl wr).box hD.rs
      have Hex := Lib.hid hex
      have Hrs := Lib.hid hrs
      have HD := Lib.hid hD
      clear hex hrs hD
      clear Hgt Hgo hlt hkl'
      go_wp2_with fail
      refine bodyPost_ret (results_cell_row rfl _ _ (w.heap.size + 1 + 1) 114 #[.int .i64 A, .int .i64 B] (0, 0) _ rfl (set2_box Hrs.out _ _) Try.underlying114 rfl (by kernel_rfl)) rfl ?_
      rw [HA.out, HB.out]
      exact ⟨rfl, set2_ext Hex.out (by omega) _ _⟩
end Go.Proofs.Ytcoelhpmkhimpaa
