/- The reference: Bounds. -/
import Derived.Test.YtacdndehlkaaeaaVRefFlo
import Derived.Test.YtacdndehlkaaeaaVGr1
import Derived.BigQuiet
namespace Go.Proofs.Ytacdndehlkaaeaa
open Go.RowKit
set_option linter.unusedVariables false
set_option linter.unusedSimpArgs false
def BoundsPost (l : List Half) (w : World) (e : Ending) (w' : World) : Prop := e = .returned (.tuple #[(boundsOf l).1.val, (boundsOf l).2.1.val, .int .i64 (boundsOf l).2.2]) ∧ Ext w w'
theorem bounds_err {l : List Half} {w : World} {k : Int} (h : boundsOf l = (zs, zs, k)) (w' : World) (hx : Ext w w') : BoundsPost l w (.returned (.tuple #[.agg #[.int .i64 0, .int .i64 0], .agg #[.int .i64 0, .int .i64 0], .int .i64 k])) w' := by
  unfold BoundsPost
  rw [h]
  exact ⟨rfl, hx⟩
theorem bounds_is {l : List Half} {w : World} {E N : Span} (h : boundsOf l = (E, N, 0)) (w' : World) (hx : Ext w w') : BoundsPost l w (.returned (.tuple #[.agg #[.int .i64 E.lo, .int .i64 E.hi], .agg #[.int .i64 N.lo, .int .i64 N.hi], .int .i64 0])) w' := by
  unfold BoundsPost
  rw [h]
  exact ⟨rfl, hx⟩
/-- the bounds so far -/
def bndTo (cs : List Corner) (k : Nat) : Span × Span := (bndOf (cs.take k)).getD (zs, zs)
theorem bndTo_zero {cs : List Corner} {c : Corner} (h : cs[0]? = some c) : bndTo cs 1 = (spanX c, spanY c) := by
  unfold bndTo
  have e : cs.take 1 = [c] := by
    rw [show (1 : Nat) = 0 + 1 from rfl, List.take_add_one, h]
    rfl
  rw [e]
  rfl
theorem bndTo_succ {cs : List Corner} {k : Nat} {c : Corner} (h : cs[k]? = some c) (hk : 0 < k) : bndTo cs (k + 1) = ((bndTo cs k).1.hull (spanX c), (bndTo cs k).2.hull (spanY c)) := by
  unfold bndTo
  rw [List.take_add_one, h, Option.toList_some, bndOf_snoc]
  cases hb : bndOf (cs.take k) with
  | none =>
    have inv := bndOf_inv (cs.take k)
    rw [hb] at inv
    simp only at inv
    have hlt := (List.getElem?_eq_some_iff.1 h).1
    have : (cs.take k).length = k := by rw [List.length_take]; omega
    rw [inv] at this
    simp at this
    omega
  | some a => rfl
theorem boundsOf_ok {l : List Half} (ha : areaOk l = true) (hne : someB l = true) : boundsOf l = ((bndTo (cornersOf l) (cornersOf l).length).1, (bndTo (cornersOf l) (cornersOf l).length).2, 0) := by
  unfold boundsOf bndTo
  rw [if_pos ha, List.take_length]
  cases hb : bndOf (cornersOf l) with
  | none =>
    have := bnd_none.1 hb
    unfold someB at hne
    rw [this] at hne
    cases hne
  | some a => rfl
theorem boundsOf_lost {l : List Half} (ha : areaOk l = true) (hne : someB l = false) : boundsOf l = (zs, zs, 43) := by
  unfold boundsOf
  rw [if_pos ha]
  have : cornersOf l = [] := by
    unfold someB at hne
    cases h : cornersOf l with
    | nil => rfl
    | cons c r => rw [h] at hne; cases hne
  rw [this]
  rfl
theorem boundsOf_area {l : List Half} (ha : areaOk l = false) : boundsOf l = (zs, zs, 40) := by
  unfold boundsOf
  rw [if_neg (by rw [ha]; simp)]
/-- two cells of a block are written -/
theorem set2_at {W : World} {g : Nat} {u v a b : Value} {T : TypeId} (h : W.heap[g]? = some (.cells #[u, v] T (0, 0))) : ((W.setCell ⟨g, 0, none⟩ a).setCell ⟨g, 1, none⟩ b).heap[g]? = some (.cells #[a, b] T (0, 0)) := by
  simp only [heap_setCell_box, h, Option.map_some, setIn_cells, List.setIfInBounds_toArray, List.set_cons_zero, List.set_cons_succ]
theorem set2_other {W : World} {g k : Nat} {a b : Value} (h : k ≠ g) : ((W.setCell ⟨g, 0, none⟩ a).setCell ⟨g, 1, none⟩ b).heap[k]? = W.heap[k]? := by
  rw [Below.heap_setCell _ _ _ _ (by simp only; omega), Below.heap_setCell _ _ _ _ (by simp only; omega)]
theorem set2_ext {w W : World} {g : Nat} {a b : Value} (h : Ext w W) (hg : w.heap.size ≤ g) : Ext w ((W.setCell ⟨g, 0, none⟩ a).setCell ⟨g, 1, none⟩ b) := (h.setCell (by exact hg) _).setCell (by exact hg) _
theorem set4_at {W : World} {g k : Nat} {u v u' v' a b c d : Value} {T T' : TypeId} (h : W.heap[g]? = some (.cells #[u, v] T (0, 0))) (h' : W.heap[k]? = some (.cells #[u', v'] T' (0, 0))) (hne : g ≠ k) :
    ((((W.setCell ⟨g, 0, none⟩ a).setCell ⟨g, 1, none⟩ b).setCell ⟨k, 0, none⟩ c).setCell ⟨k, 1, none⟩ d).heap[g]? = some (.cells #[a, b] T (0, 0)) ∧ ((((W.setCell ⟨g, 0, none⟩ a).setCell ⟨g, 1, none⟩ b).setCell ⟨k, 0, none⟩ c).setCell ⟨k, 1, none⟩ d).heap[k]? = some (.cells #[c, d] T' (0, 0)) :=
  ⟨(set2_other hne).trans (set2_at h), set2_at ((set2_other (Ne.symm hne)).trans h')⟩
theorem corners_len (l : List Half) : (cornersOf l).length ≤ l.length * l.length := by
  rw [← cornersTo_all]
  cases h : l.length with
  | zero => simp [cornersTo]
  | succ n =>
    rw [cornersTo_next]
    have := cornersTo_len l n n (by omega) (Nat.le_refl _)
    rw [h] at this
    rw [Nat.succ_mul]
    omega
theorem if_min (a b : Int) : (if b < a then b else a) = min a b := by split <;> omega
theorem if_max (a b : Int) : (if a < b then b else a) = max a b := by split <;> omega
def Two (p q : Nat) (a b c d : Int) (W : World) : Prop := W.heap[p]? = some (.cells #[.int .i64 a, .int .i64 b] 28 (0, 0)) ∧ W.heap[q]? = some (.cells #[.int .i64 c, .int .i64 d] 28 (0, 0))
theorem Two.set {p q g : Nat} {a b c d : Int} {u v : Value} {W : World} (h : Two p q a b c d W) (h1 : p ≠ g) (h2 : q ≠ g) : Two p q a b c d ((W.setCell ⟨g, 0, none⟩ u).setCell ⟨g, 1, none⟩ v) := ⟨(set2_other h1).trans h.1, (set2_other h2).trans h.2⟩
/-- two blocks hold the bounds so far -/
def RB (cs : List Corner) (w2 : World) (p6 p7 k : Nat) (W : World) : Prop := Ext w2 W ∧ W.heap[p6]? = some (.cells #[.int .i64 (bndTo cs k).1.lo, .int .i64 (bndTo cs k).1.hi] 28 (0, 0)) ∧ W.heap[p7]? = some (.cells #[.int .i64 (bndTo cs k).2.lo, .int .i64 (bndTo cs k).2.hi] 28 (0, 0))
theorem hull_self (s : Span) (h : s.lo ≤ s.hi) : s.hull s = s := by
  cases s
  simp only [Span.hull, Span.mk.injEq] at *
  omega
set_option maxRecDepth 100000 in
set_option maxHeartbeats 8000000 in
theorem rbounds_any (a : Option Addr) (len cap : Nat) (l : List Half) (w : World) (hl : HalvesAt w a len l) (hlen : len ≤ 100000) : Calls Try.prog 25 #[.agg #[.slice a len cap]] w (BoundsPost l w) := by
  have har := fun W (hW : Ext w W) => area_any a len cap l W (hl.ext hW) hlen
  have hll := hl.1
  have herr := fun (k : Int) (h : boundsOf l = (zs, zs, k)) => bounds_err (w := w) h
  have his := fun E N (h : boundsOf l = (E, N, 0)) => bounds_is (w := w) h
  have hd1 := boundsOf_area (l := l)
  have hd2 := boundsOf_lost (l := l)
  have hd3 := boundsOf_ok (l := l)
  obtain ⟨Q, hQ⟩ : ∃ Q, BoundsPost l w = Q := ⟨_, rfl⟩
  rw [hQ]
  simp only [hQ] at herr his
  generalize boundsOf l = B at *
  clear hQ
  obtain ⟨W0, hW0⟩ : ∃ W0, ((w.alloc (.cells #[.slice a len cap] 24)).alloc (.cells #[.int .i64 0, .int .i64 0] 28)).alloc (.cells #[.int .i64 0, .int .i64 0] 28) = W0 := ⟨_, rfl⟩
  have hx0 : Ext w W0 := by rw [← hW0]; exact (((Ext.refl w).alloc _).alloc _).alloc _
  have ha0 : W0.heap[w.heap.size]? = some (.cells #[.slice a len cap] 24 (0, 0)) := by rw [← hW0]; exact (((Ext.refl _).alloc _).alloc _).heap (heap_alloc_new w _)
  have he0 : W0.heap[w.heap.size + 1]? = some (.cells #[.int .i64 0, .int .i64 0] 28 (0, 0)) := by rw [← hW0]; exact ((Ext.refl _).alloc _).heap (alloc_at _ _ _ (by simp))
  have hn0 : W0.heap[w.heap.size + 1 + 1]? = some (.cells #[.int .i64 0, .int .i64 0] 28 (0, 0)) := by rw [← hW0]; exact alloc_at _ _ _ (by simp)
  obtain ⟨z0, _⟩ := (Ext.refl W0).box ha0
  have hl0 := heap_lt ha0
  have hl1 := heap_lt he0
  have hl2 := heap_lt hn0
  have hsz := hx0.size
  cases h : areaOk l with
  | false =>
    have hfin := herr 40 (hd1 h)
    rw [h] at har
    have Har := Lib.hid har
    have Hx0 := Lib.hid hx0
    have Ha0 := Lib.hid ha0
    have He0 := Lib.hid he0
    have Hn0 := Lib.hid hn0
    have Hfin := Lib.hid hfin
    clear har hx0 ha0 he0 hn0 hfin
    clear hl h herr his hd1 hd2 hd3
    go_enter Try.func25, Try.ntmps25
    go_wp2_with (go_at_call 53; refine (Har.out _ Hx0.out).mono ?_; rintro e w1 ⟨rfl, hx1⟩; have he1 := hx1.heap He0.out; have hn1 := hx1.heap Hn0.out; obtain ⟨q1, r1⟩ := (Ext.refl w1).box he1; obtain ⟨q2, r2⟩ := (Ext.refl w1).box hn1; have ll1 := heap_lt he1; have ll2 := heap_lt hn1; clear hW0 z0)
    have hq4 := set4_at (a := .int .i64 0) (b := .int .i64 0) (c := .int .i64 0) (d := .int .i64 0) he1 hn1 (show w.heap.size + 1 ≠ w.heap.size + 1 + 1 by omega)
    refine bodyPost_ret (results_cells_tmp (P := Try.prog) (fn := Try.f25) rfl _ _ (w.heap.size + 1) (w.heap.size + 1 + 1) 28 28 #[.int .i64 0, .int .i64 0] #[.int .i64 0, .int .i64 0] (0, 0) (0, 0) _ _ rfl hq4.1 Try.underlying28 rfl (by kernel_rfl) rfl hq4.2 Try.underlying28 rfl (by kernel_rfl)) rfl ?_
    exact Hfin.out _ (set2_ext (set2_ext (Hx0.out.trans hx1) (by omega)) (by omega))
  | true =>
    have hA := areaOk_iff.1 h
    have hlen4 := hA.len
    rw [hll] at hlen4
    rw [h] at har
    have hrc := fun W (hW : Ext w W) => rcorners_any a len cap l W (hl.ext hW) hA.each (by omega)
    have hcin : ∀ c ∈ cornersOf l, CornerIn c ∧ 0 < c.d := fun c hc => by
      obtain ⟨hin, p, hp, q, hq, _, rfl⟩ := corner_in hc
      exact ⟨meet_bd (hA.each p hp) (hA.each q hq), hin.1⟩
    unfold CornersPost at hrc
    obtain ⟨K, hK⟩ : ∃ K, (cornersOf l).length = K := ⟨_, rfl⟩
    rw [hK] at hrc
    have hK2 : K ≤ 40 * 40 := by
      rw [← hK]
      exact Nat.le_trans (corners_len l) (Nat.mul_le_mul (by omega) (by omega))
    have hemp := empty_of_some hK
    have hd2 := hd2 h
    have hd3 := hd3 h
    generalize cornersOf l = cs at *
    cases hs : someB l with
    | false =>
      have hfin := herr 43 (hd2 hs)
      have hKB := hemp false hs
      rw [Bool.not_false] at hKB
      have Har := Lib.hid har
      have Hx0 := Lib.hid hx0
      have Ha0 := Lib.hid ha0
      have He0 := Lib.hid he0
      have Hn0 := Lib.hid hn0
      have Hfin := Lib.hid hfin
      have Hrc := Lib.hid hrc
      have HK := Lib.hid hK
      clear har hx0 ha0 he0 hn0 hfin hrc hK
      clear hl h herr his hd1 hd2 hd3 hA hcin hemp hs
      go_enter Try.func25, Try.ntmps25
      go_wp2_with (first | (go_at_call 53; refine (Har.out _ Hx0.out).mono ?_; rintro e w1 ⟨rfl, hx1⟩; obtain ⟨z1, _⟩ := hx1.box Ha0.out; clear hW0 z0) | (go_at_call 55; refine (Hrc.out _ (Hx0.out.trans hx1)).mono ?_; rintro e w2 ⟨ra, rc, rfl, hx2, hcs⟩; have hx12 := hx1.trans hx2; have he1 := hx12.heap He0.out; have hn1 := hx12.heap Hn0.out; obtain ⟨q1, r1⟩ := (Ext.refl w2).box he1; obtain ⟨q2, r2⟩ := (Ext.refl w2).box hn1; have ll1 := heap_lt he1; have ll2 := heap_lt hn1; clear z1))
      have hq4 := set4_at (a := .int .i64 0) (b := .int .i64 0) (c := .int .i64 0) (d := .int .i64 0) he1 hn1 (show w.heap.size + 1 ≠ w.heap.size + 1 + 1 by omega)
      refine bodyPost_ret (results_cells_tmp (P := Try.prog) (fn := Try.f25) rfl _ _ (w.heap.size + 1) (w.heap.size + 1 + 1) 28 28 #[.int .i64 0, .int .i64 0] #[.int .i64 0, .int .i64 0] (0, 0) (0, 0) _ _ rfl hq4.1 Try.underlying28 rfl (by kernel_rfl) rfl hq4.2 Try.underlying28 rfl (by kernel_rfl)) rfl ?_
      exact Hfin.out _ (set2_ext (set2_ext (Hx0.out.trans hx12) (by omega)) (by omega))
    | true =>
      have hfin := his _ _ (hd3 hs)
      have hKB := hemp true hs
      rw [Bool.not_true] at hKB
      rw [hK] at hfin
      have hK0 : 0 < K := by
        have := beq_eq_false_iff_ne.1 hKB
        omega
      have Har := Lib.hid har
      have Hx0 := Lib.hid hx0
      have Ha0 := Lib.hid ha0
      have He0 := Lib.hid he0
      have Hn0 := Lib.hid hn0
      have Hfin := Lib.hid hfin
      have Hrc := Lib.hid hrc
      have HK := Lib.hid hK
      have Hcin := Lib.hid hcin
      clear har hx0 ha0 he0 hn0 hfin hrc hK hcin
      clear hl h herr his hd1 hd2 hd3 hA hemp hs
      go_enter Try.func25, Try.ntmps25
      go_upto_region 8 with (first | (go_at_call 53; refine (Har.out _ Hx0.out).mono ?_; rintro e w1 ⟨rfl, hx1⟩; obtain ⟨z1, _⟩ := hx1.box Ha0.out; clear hW0 z0) | (go_at_call 55; refine (Hrc.out _ (Hx0.out.trans hx1)).mono ?_; rintro e w2 ⟨ra, rc, rfl, hx2, hcs⟩; have hx12 := hx1.trans hx2; clear z1))
      have hR0 : RB cs w2 w2.heap.size (w2.heap.size + 1) 0 ((w2.alloc (.cells #[.int .i64 0, .int .i64 0] 28)).alloc (.cells #[.int .i64 0, .int .i64 0] 28)) := ⟨((Ext.refl _).alloc _).alloc _, ((Ext.refl _).alloc _).heap (heap_alloc_new w2 _), alloc_at _ _ _ (by simp)⟩
      have hcl := hcs.1
      have hs12 := hx12.size
      have HR0 := Lib.hid hR0
      have Hcs := Lib.hid hcs
      have Hx12 := Lib.hid hx12
      have Hcl := Lib.hid hcl
      clear hR0 hcs hx12 hcl
      generalize hp7 : w2.heap.size + 1 = p7 at *
      generalize hp6 : w2.heap.size = p6 at HR0 ⊢
      have hl6 : w2.heap.size ≤ p6 := by omega
      have hl7 : w2.heap.size ≤ p7 := by omega
      have hl67 : p6 ≠ p7 := by omega
      have Hl6 := Lib.hid hl6
      have Hl7 := Lib.hid hl7
      have Hl67 := Lib.hid hl67
      clear hl6 hl7 hl67
      clear hp6 hp7
      go_loopw [8] (fun i wr => ∃ k : Nat, k ≤ K ∧ i = .int .i64 k ∧ RB cs w2 p6 p7 k wr) (fun i _ => K - (intOf i).toNat)
      case atStart => exact ⟨0, Nat.zero_le _, rfl, HR0.out⟩
      case round =>
        clear HR0
        obtain ⟨k, hk, rfl, hxr, hb6, hb7⟩ := hrel
        by_cases hlt : k < K
        · have hltB : decide ((k : Int) < (K : Int)) = true := by simp; omega
          obtain ⟨cb, co, c, rfl, hck, hcb, c0, c1, c2⟩ := (Hcs.out.ext hxr).get k hlt
          obtain ⟨⟨x0, x1, y0, y1, d0, d1⟩, dp⟩ := Hcin.out c (List.mem_of_getElem? hck)
          have hn0 := fun (h : k = 0) => bndTo_zero (cs := cs) (c := c) (by rw [← h]; exact hck)
          have hn1 := fun h => bndTo_succ hck h
          obtain ⟨cx, cy, cd⟩ := c
          simp only at c0 c1 c2 x0 x1 y0 y1 d0 d1 dp
          have hf1 := fun W => rfloor_any cx cd W (by omega) (by omega) (by omega) (by omega)
          have hf2 := fun W => rfloor_any (-cx) cd W (by omega) (by omega) (by omega) (by omega)
          have hf3 := fun W => rfloor_any cy cd W (by omega) (by omega) (by omega) (by omega)
          have hf4 := fun W => rfloor_any (-cy) cd W (by omega) (by omega) (by omega) (by omega)
          have hq1 := flo_bd (a := cx) (b := cd) (M := 200000000000000) (by omega) (by omega) (by omega)
          have hq2 := flo_bd (a := -cx) (b := cd) (M := 200000000000000) (by omega) (by omega) (by omega)
          have hq3 := flo_bd (a := cy) (b := cd) (M := 200000000000000) (by omega) (by omega) (by omega)
          have hq4 := flo_bd (a := -cy) (b := cd) (M := 200000000000000) (by omega) (by omega) (by omega)
          have hsx : spanX ⟨cx, cy, cd⟩ = ⟨flo cx cd, -flo (-cx) cd⟩ := rfl
          have hsy : spanY ⟨cx, cy, cd⟩ = ⟨flo cy cd, -flo (-cy) cd⟩ := rfl
          have hlx : (spanX ⟨cx, cy, cd⟩).lo ≤ (spanX ⟨cx, cy, cd⟩).hi := flo_cei dp
          have hly : (spanY ⟨cx, cy, cd⟩).lo ≤ (spanY ⟨cx, cy, cd⟩).hi := flo_cei dp
          generalize spanX ⟨cx, cy, cd⟩ = X at *
          generalize spanY ⟨cx, cy, cd⟩ = Y at *
          generalize flo cx cd = q1 at *
          generalize flo (-cx) cd = q2 at *
          generalize flo cy cd = q3 at *
          generalize flo (-cy) cd = q4 at *
          generalize bndTo cs k = EN at *
          have hl6r := heap_lt hb6
          have hl7r := heap_lt hb7
          have Hxr := Lib.hid hxr
          have Hb6 := Lib.hid hb6
          have Hb7 := Lib.hid hb7
          have Hf1 := Lib.hid hf1
          have Hf2 := Lib.hid hf2
          have Hf3 := Lib.hid hf3
          have Hf4 := Lib.hid hf4
          have Hn0 := Lib.hid hn0
          have Hn1 := Lib.hid hn1
          clear hxr hb6 hb7 hf1 hf2 hf3 hf4 hn0 hn1
          go_upto_region 11 with fail
          obtain ⟨W1, hW1⟩ : ∃ W1, wr.alloc (.cells #[.int .i64 cx, .int .i64 cy, .int .i64 cd] 113) = W1 := ⟨_, rfl⟩
          have hx1 : Ext wr W1 := by rw [← hW1]; exact (Ext.refl _).alloc _
          have hcw : W1.heap[wr.heap.size]? = some (.cells #[.int .i64 cx, .int .i64 cy, .int .i64 cd] 113 (0, 0)) := by rw [← hW1]; exact heap_alloc_new wr _
          rw [hW1]
          clear hW1
          have Hx1 := Lib.hid hx1
          have Hcw := Lib.hid hcw
          clear hx1 hcw
          refine wp_region_plan (.take [0, 1, 2, 3, 5, 6, 7, 8, 9, 13, 14, 15, 16, 18, 19, 20, 21, 22] (.call 4 (.call 10 (.take [11, 12] (.call 17 (.call 23 (.free [24, 25] (.two 26 (.one 27 (.fin (.one 28 (.one 29 .done)))) 27 (.one 26 (.fin (.one 28 (.one 29 .done)))))))))))) [28, 29] (Ext W1) _ (by kernel_rfl) (by kernel_rfl) rfl (EC.ext W1) ((Ext.refl _).drew) ?_
          simp only [planOf, treeOf, oneOp, twoOp, opsOf, consOp, callOC, oneOC, twoOC, List.getElem?_toArray, List.getElem?_cons_succ, List.getElem?_cons_zero]
          intro ι _ f hf
          have f0 := fun q => ((hf q).box Hcw.out).1
          clear hf
          repeat (go_big_quiet_step (fail))
          refine wpQuiet_nil ?_
          clear f0
          refine wpOC_call (args := #[.int .i64 cx, .int .i64 cd]) (v := .int .i64 q1) rfl rfl (enters_of Try.func61 (by kernel_rfl) rfl) (by kernel_rfl) (fun W _ => (Hf1.out W).mono fun e w' ⟨h1, h2⟩ => ⟨h1, h2 ▸ Ext.refl _⟩) ?_
          simp only [Act.put, List.setIfInBounds_toArray, List.set_cons_succ, List.set_cons_zero]
          refine wpOC_call (args := #[.int .i64 (-cx), .int .i64 cd]) (v := .int .i64 q2) rfl rfl (enters_of Try.func61 (by kernel_rfl) rfl) (by kernel_rfl) (fun W _ => (Hf2.out W).mono fun e w' ⟨h1, h2⟩ => ⟨h1, h2 ▸ Ext.refl _⟩) ?_
          simp only [Act.put, List.setIfInBounds_toArray, List.set_cons_succ, List.set_cons_zero]
          intro ι _ f hf
          clear hf
          repeat (go_big_quiet_step (fail))
          refine wpQuiet_nil ?_
          refine wpOC_call (args := #[.int .i64 cy, .int .i64 cd]) (v := .int .i64 q3) rfl rfl (enters_of Try.func61 (by kernel_rfl) rfl) (by kernel_rfl) (fun W _ => (Hf3.out W).mono fun e w' ⟨h1, h2⟩ => ⟨h1, h2 ▸ Ext.refl _⟩) ?_
          simp only [Act.put, List.setIfInBounds_toArray, List.set_cons_succ, List.set_cons_zero]
          refine wpOC_call (args := #[.int .i64 (-cy), .int .i64 cd]) (v := .int .i64 q4) rfl rfl (enters_of Try.func61 (by kernel_rfl) rfl) (by kernel_rfl) (fun W _ => (Hf4.out W).mono fun e w' ⟨h1, h2⟩ => ⟨h1, h2 ▸ Ext.refl _⟩) ?_
          simp only [Act.put, List.setIfInBounds_toArray, List.set_cons_succ, List.set_cons_zero]
          refine wpOC_free ?_
          repeat (go_big_quiet_step (fail))
          refine wpQuiet_nil ?_
          refine wpOC_two ?_
          apply join_orders (F := fun p10 p11 W => Ext W1 W ∧ W1.heap.size ≤ p10 ∧ W1.heap.size ≤ p11 ∧ W.heap[p10]? = some (.cells #[.int .i64 q1, .int .i64 (-q2)] 28 (0, 0)) ∧ W.heap[p11]? = some (.cells #[.int .i64 q3, .int .i64 (-q4)] 28 (0, 0)))
          · intro G Wa hxa
            go_wp2_with fail
            have hpa := hxa.size
            have haa := heap_alloc_new Wa (.cells #[.int .i64 0, .int .i64 0] 28)
            have hxa' := hxa.alloc (.cells #[.int .i64 0, .int .i64 0] 28)
            generalize Wa.alloc (.cells #[.int .i64 0, .int .i64 0] 28) = Wa' at *
            generalize Wa.heap.size = pa at *
            refine ⟨fun W => Ext W1 W ∧ W.heap[pa]? = some (.cells #[.int .i64 0, .int .i64 0] 28 (0, 0)), (EC.ext W1).and (EC.heap pa _), fun _ h => h.1, ⟨hxa', haa⟩, ?_⟩
            clear hxa hxa' haa Wa Wa'
            rintro Wb ⟨hxb, hab⟩
            go_wp2_with fail
            have hpb := hxb.size
            have hlb := heap_lt hab
            have hbb := heap_alloc_new Wb (.cells #[.int .i64 0, .int .i64 0] 28)
            have hxb' := hxb.alloc (.cells #[.int .i64 0, .int .i64 0] 28)
            have hab' := ((Ext.refl Wb).alloc (.cells #[.int .i64 0, .int .i64 0] 28)).heap hab
            have hne : pa ≠ Wb.heap.size := by omega
            clear hlb
            generalize Wb.alloc (.cells #[.int .i64 0, .int .i64 0] 28) = Wb' at *
            generalize Wb.heap.size = pb at *
            refine ⟨fun W => (Ext W1 W ∧ W.heap[pa]? = some (.cells #[.int .i64 0, .int .i64 0] 28 (0, 0))) ∧ W.heap[pb]? = some (.cells #[.int .i64 0, .int .i64 0] 28 (0, 0)), ((EC.ext W1).and (EC.heap pa _)).and (EC.heap pb _), fun _ h => h.1, ⟨⟨hxb', hab'⟩, hbb⟩, ?_⟩
            clear hxb hxb' hab hab' hbb Wb Wb'
            rintro Wc ⟨⟨hxc, hac⟩, hbc⟩
            refine wpOT_one ?_
            obtain ⟨k0, k1⟩ := (Ext.refl Wc).box hac
            obtain ⟨j0, j1⟩ := (Ext.refl Wc).box hbc
            have hla := heap_lt hac
            have hlb := heap_lt hbc
            go_wp2_with fail
            refine wpOT_one ?_
            go_wp2_with fail
            refine wpOT_done ?_
            have hc4 := set4_at (a := .int .i64 q1) (b := .int .i64 (-q2)) (c := .int .i64 q3) (d := .int .i64 (-q4)) hac hbc hne
            exact G _ _ _ ⟨set2_ext (set2_ext hxc hpa) hpb, hpa, hpb, hc4⟩
          · intro G Wa hxa
            go_wp2_with fail
            have hpa := hxa.size
            have haa := heap_alloc_new Wa (.cells #[.int .i64 0, .int .i64 0] 28)
            have hxa' := hxa.alloc (.cells #[.int .i64 0, .int .i64 0] 28)
            generalize Wa.alloc (.cells #[.int .i64 0, .int .i64 0] 28) = Wa' at *
            generalize Wa.heap.size = pa at *
            refine ⟨fun W => Ext W1 W ∧ W.heap[pa]? = some (.cells #[.int .i64 0, .int .i64 0] 28 (0, 0)), (EC.ext W1).and (EC.heap pa _), fun _ h => h.1, ⟨hxa', haa⟩, ?_⟩
            clear hxa hxa' haa Wa Wa'
            rintro Wb ⟨hxb, hab⟩
            go_wp2_with fail
            have hpb := hxb.size
            have hlb := heap_lt hab
            have hbb := heap_alloc_new Wb (.cells #[.int .i64 0, .int .i64 0] 28)
            have hxb' := hxb.alloc (.cells #[.int .i64 0, .int .i64 0] 28)
            have hab' := ((Ext.refl Wb).alloc (.cells #[.int .i64 0, .int .i64 0] 28)).heap hab
            have hne : pa ≠ Wb.heap.size := by omega
            clear hlb
            generalize Wb.alloc (.cells #[.int .i64 0, .int .i64 0] 28) = Wb' at *
            generalize Wb.heap.size = pb at *
            refine ⟨fun W => (Ext W1 W ∧ W.heap[pa]? = some (.cells #[.int .i64 0, .int .i64 0] 28 (0, 0))) ∧ W.heap[pb]? = some (.cells #[.int .i64 0, .int .i64 0] 28 (0, 0)), ((EC.ext W1).and (EC.heap pa _)).and (EC.heap pb _), fun _ h => h.1, ⟨⟨hxb', hab'⟩, hbb⟩, ?_⟩
            clear hxb hxb' hab hab' hbb Wb Wb'
            rintro Wc ⟨⟨hxc, hac⟩, hbc⟩
            refine wpOT_one ?_
            obtain ⟨k0, k1⟩ := (Ext.refl Wc).box hac
            obtain ⟨j0, j1⟩ := (Ext.refl Wc).box hbc
            have hla := heap_lt hac
            have hlb := heap_lt hbc
            go_wp2_with fail
            refine wpOT_one ?_
            go_wp2_with fail
            refine wpOT_done ?_
            have hc4 := set4_at (a := .int .i64 q1) (b := .int .i64 (-q2)) (c := .int .i64 q3) (d := .int .i64 (-q4)) hbc hac (Ne.symm hne)
            exact G _ _ _ ⟨set2_ext (set2_ext hxc hpb) hpa, hpb, hpa, hc4⟩
          rintro p10 p11 W2 ⟨hx2, hp10, hp11, hb10, hb11⟩
          have hxr2 := Hx1.out.trans hx2
          have hk6 := hxr2.heap Hb6.out
          have hk7 := hxr2.heap Hb7.out
          have hx02 := Hxr.out.trans hxr2
          have hsr := Hx1.out.size
          have hn61 : p6 ≠ p10 := by omega
          have hn62 : p6 ≠ p11 := by omega
          have hn71 : p7 ≠ p10 := by omega
          have hn72 : p7 ≠ p11 := by omega
          have hla := heap_lt hk6
          have hlb := heap_lt hk7
          have hlc := heap_lt hb10
          have hld := heap_lt hb11
          subst hsx
          subst hsy
          simp only at hlx hly
          obtain ⟨E, N⟩ := EN
          obtain ⟨e0, e1⟩ := E
          obtain ⟨n0, n1⟩ := N
          simp only at hk6 hk7
          obtain ⟨k0, k1⟩ := (Ext.refl W2).box hk6
          obtain ⟨j0, j1⟩ := (Ext.refl W2).box hk7
          obtain ⟨r0, _⟩ := (Ext.refl W2).box hb10
          obtain ⟨s0, _⟩ := (Ext.refl W2).box hb11
          have Hk6 := Lib.hid hk6
          have Hk7 := Lib.hid hk7
          have Hx02 := Lib.hid hx02
          have Hb10 := Lib.hid hb10
          have Hb11 := Lib.hid hb11
          clear hk6 hk7 hx02 hb10 hb11
          clear Hf1 Hf2 Hf3 Hf4 hxr2 Hxr Hb6 Hb7 hx2 c0 c1 c2
          by_cases hk0 : k = 0
          · have hkB : ((k : Int) == 0) = true := by subst hk0; rfl
            have hn := Hn0.out hk0
            have Hn := Lib.hid hn
            clear hn
            go_upto_region 13 with fail
            clear r0 s0
            have hne67 := Hl67.out
            have hne76 := Ne.symm hne67
            refine wp_region_tree (.take [0, 1] (.one 2 (.one 3 .done))) (Two p10 p11 q1 (-q2) q3 (-q4)) _ (by kernel_rfl) (by kernel_rfl) rfl ⟨Hb10.out, Hb11.out⟩ ?_
            intro ι _ f hf hs
            have f0 := fun q => ((Ext.refl (f q)).box (hf q).1).1
            have f1 := fun q => ((Ext.refl (f q)).box (hf q).2).1
            have HS := Lib.hid hs
            clear hf hs
            simp only [treeOf, oneOp, twoOp, opsOf, consOp, List.getElem?_toArray, List.getElem?_cons_succ, List.getElem?_cons_zero]
            refine wpOT_take ?_
            repeat (go_big_quiet_step (fail))
            refine wpQuiet_nil ?_
            clear f0 f1
            have hT2 : Two p10 p11 q1 (-q2) q3 (-q4) W2.drew := ⟨Hb10.out, Hb11.out⟩
            have HT2 := Lib.hid hT2
            clear hT2
            refine wpOT_one ?_
            go_wp2_with fail
            refine ⟨HS.out _ (show Two p10 p11 q1 (-q2) q3 (-q4) _ from Two.set (W := W2) ⟨Hb10.out, Hb11.out⟩ (Ne.symm hn61) (Ne.symm hn62)), ?_⟩
            refine wpOT_one ?_
            go_wp2_with fail
            refine ⟨HS.out _ (show Two p10 p11 q1 (-q2) q3 (-q4) _ from Two.set (W := (W2.setCell ⟨p6, 0, none⟩ (.int .i64 q1)).setCell ⟨p6, 1, none⟩ (.int .i64 (-q2))) (Two.set (W := W2) ⟨Hb10.out, Hb11.out⟩ (Ne.symm hn61) (Ne.symm hn62)) (Ne.symm hn71) (Ne.symm hn72)), ?_⟩
            refine wpOT_done ?_
            have hq4' := set4_at (a := .int .i64 q1) (b := .int .i64 (-q2)) (c := .int .i64 q3) (d := .int .i64 (-q4)) Hk6.out Hk7.out Hl67.out
            have hT3 := Two.set (u := .int .i64 q3) (v := .int .i64 (-q4)) (Two.set (u := .int .i64 q1) (v := .int .i64 (-q2)) (W := W2) ⟨Hb10.out, Hb11.out⟩ (Ne.symm hn61) (Ne.symm hn62)) (Ne.symm hn71) (Ne.symm hn72)
            have hx3 := (set2_ext (a := .int .i64 q3) (b := .int .i64 (-q4)) (set2_ext (a := .int .i64 q1) (b := .int .i64 (-q2)) Hx02.out Hl6.out) Hl7.out).drew
            clear k0 k1 j0 j1 HS HT2
            obtain ⟨W3, hW3⟩ : ∃ W3, ((((W2.setCell ⟨p6, 0, none⟩ (.int .i64 q1)).setCell ⟨p6, 1, none⟩ (.int .i64 (-q2))).setCell ⟨p7, 0, none⟩ (.int .i64 q3)).setCell ⟨p7, 1, none⟩ (.int .i64 (-q4))).drew = W3 := ⟨_, rfl⟩
            have z6 : W3.heap[p6]? = some (.cells #[.int .i64 q1, .int .i64 (-q2)] 28 (0, 0)) := by rw [← hW3]; exact hq4'.1
            have z7 : W3.heap[p7]? = some (.cells #[.int .i64 q3, .int .i64 (-q4)] 28 (0, 0)) := by rw [← hW3]; exact hq4'.2
            have z10 : W3.heap[p10]? = some (.cells #[.int .i64 q1, .int .i64 (-q2)] 28 (0, 0)) := by rw [← hW3]; exact hT3.1
            have z11 : W3.heap[p11]? = some (.cells #[.int .i64 q3, .int .i64 (-q4)] 28 (0, 0)) := by rw [← hW3]; exact hT3.2
            rw [hW3] at hx3 ⊢
            clear hW3 hq4' hT3 Hk6 Hk7 Hb10 Hb11 Hx02 hla hlb hlc hld
            have hla := heap_lt z6
            have hlb := heap_lt z7
            have hlc := heap_lt z10
            have hld := heap_lt z11
            obtain ⟨k0, k1⟩ := (Ext.refl W3).box z6
            obtain ⟨j0, j1⟩ := (Ext.refl W3).box z7
            obtain ⟨r0, _⟩ := (Ext.refl W3).box z10
            obtain ⟨s0, _⟩ := (Ext.refl W3).box z11
            have Z6 := Lib.hid z6
            have Z7 := Lib.hid z7
            have Z10 := Lib.hid z10
            have Z11 := Lib.hid z11
            have Hx3 := Lib.hid hx3
            clear z6 z7 z10 z11 hx3
            go_wp2_with fail
            have hq5 := set4_at (a := .int .i64 q1) (b := .int .i64 (-q2)) (c := .int .i64 q3) (d := .int .i64 (-q4)) Z6.out Z7.out Hl67.out
            go_roundw
            case rel =>
              subst hk0
              refine ⟨1, by omega, by go_num, set2_ext (set2_ext Hx3.out Hl6.out) Hl7.out, ?_⟩
              rw [Hn.out]
              exact hq5
            case measure => subst hk0; simp [intOf]; omega
          · have hkB : ((k : Int) == 0) = false := by rw [beq_eq_false_iff_ne]; omega
            have hn := Hn1.out (by omega)
            have hne67 := Hl67.out
            have hne76 := Ne.symm hne67
            have hq5 := set4_at (a := .int .i64 (if q1 < e0 then q1 else e0)) (b := .int .i64 (if e1 < -q2 then -q2 else e1)) (c := .int .i64 (if q3 < n0 then q3 else n0)) (d := .int .i64 (if n1 < -q4 then -q4 else n1)) Hk6.out Hk7.out Hl67.out
            simp only [Span.hull, ← if_min, ← if_max] at hn
            have Hn := Lib.hid hn
            have Hq5 := Lib.hid hq5
            clear hn hq5
            go_wp2_with fail
            go_roundw
            case rel =>
              refine ⟨k + 1, by omega, by go_num, set2_ext (set2_ext Hx02.out Hl6.out) Hl7.out, ?_⟩
              rw [Hn.out]
              exact Hq5.out
            case measure => simp [intOf]; omega
        · have hltB : decide ((k : Int) < (K : Int)) = false := by simp; omega
          obtain rfl : k = K := by omega
          have hx2w := Hx12.out.trans hxr
          have he2 := hx2w.heap He0.out
          have hn2 := hx2w.heap Hn0.out
          generalize bndTo cs k = EN at *
          obtain ⟨E, N⟩ := EN
          obtain ⟨e0, e1⟩ := E
          obtain ⟨n0, n1⟩ := N
          simp only at hb6 hb7 Hfin
          have hl6r := heap_lt hb6
          have hl7r := heap_lt hb7
          have hler := heap_lt he2
          have hlnr := heap_lt hn2
          have hsw := hxr.size
          have h6e : p6 ≠ w.heap.size + 1 := by have := Hl6.out; have := heap_lt (Hx12.out.heap He0.out); omega
          have h6n : p6 ≠ w.heap.size + 1 + 1 := by have := Hl6.out; have := heap_lt (Hx12.out.heap Hn0.out); omega
          have h7e : p7 ≠ w.heap.size + 1 := by have := Hl7.out; have := heap_lt (Hx12.out.heap He0.out); omega
          have h7n : p7 ≠ w.heap.size + 1 + 1 := by have := Hl7.out; have := heap_lt (Hx12.out.heap Hn0.out); omega
          obtain ⟨k0, k1⟩ := (Ext.refl wr).box he2
          obtain ⟨j0, j1⟩ := (Ext.refl wr).box hn2
          have Hb6 := Lib.hid hb6
          have Hb7 := Lib.hid hb7
          have He2 := Lib.hid he2
          have Hn2 := Lib.hid hn2
          have Hx2w := Lib.hid hx2w
          clear hb6 hb7 he2 hn2 hx2w
          clear hxr
          go_upto_region 16 with fail
          refine wp_region_tree (.take [0, 1] (.one 2 (.one 3 (.take [4] .done)))) (Two p6 p7 e0 e1 n0 n1) _ (by kernel_rfl) (by kernel_rfl) rfl ⟨Hb6.out, Hb7.out⟩ ?_
          intro ι _ f hf hs
          have f0 := fun q => ((Ext.refl (f q)).box (hf q).1).1
          have f1 := fun q => ((Ext.refl (f q)).box (hf q).2).1
          have HS := Lib.hid hs
          clear hf hs
          simp only [treeOf, oneOp, twoOp, opsOf, consOp, List.getElem?_toArray, List.getElem?_cons_succ, List.getElem?_cons_zero]
          refine wpOT_take ?_
          repeat (go_big_quiet_step (fail))
          refine wpQuiet_nil ?_
          clear f0 f1
          refine wpOT_one ?_
          go_wp2_with fail
          refine ⟨HS.out _ (show Two p6 p7 e0 e1 n0 n1 _ from Two.set (W := wr) ⟨Hb6.out, Hb7.out⟩ h6e h7e), ?_⟩
          refine wpOT_one ?_
          go_wp2_with fail
          refine ⟨HS.out _ (show Two p6 p7 e0 e1 n0 n1 _ from Two.set (W := (wr.setCell ⟨w.heap.size + 1, 0, none⟩ (.int .i64 e0)).setCell ⟨w.heap.size + 1, 1, none⟩ (.int .i64 e1)) (Two.set (W := wr) ⟨Hb6.out, Hb7.out⟩ h6e h7e) h6n h7n), ?_⟩
          refine wpOT_take ?_
          repeat (go_big_quiet_step (fail))
          refine wpQuiet_nil ?_
          refine wpOT_done ?_
          have hq4 := set4_at (a := .int .i64 e0) (b := .int .i64 e1) (c := .int .i64 n0) (d := .int .i64 n1) He2.out Hn2.out (show w.heap.size + 1 ≠ w.heap.size + 1 + 1 by omega)
          go_wp2_with fail
          refine bodyPost_ret (results_cells_tmp (P := Try.prog) (fn := Try.f25) rfl _ _ (w.heap.size + 1) (w.heap.size + 1 + 1) 28 28 #[.int .i64 e0, .int .i64 e1] #[.int .i64 n0, .int .i64 n1] (0, 0) (0, 0) _ _ rfl hq4.1 Try.underlying28 rfl (by kernel_rfl) rfl hq4.2 Try.underlying28 rfl (by kernel_rfl)) rfl ?_
          exact Hfin.out _ (set2_ext (set2_ext (Hx0.out.trans Hx2w.out) (by omega)) (by omega)).drew
end Go.Proofs.Ytacdndehlkaaeaa
