/- The kinds of sight. -/
import Derived.Test.YtcoelhpmkhimpaaGreatVGo
import Derived.Test.YtcoelhpmkhimpaaGreatVGb
import Derived.Lib.SliceRun
import Derived.BigQuiet
namespace Go.Proofs.YtcoelhpmkhimpaaGreat
open Go.RowKit
set_option linter.unusedVariables false
set_option linter.unusedSimpArgs false
/-- halves in a slice of their own -/
def OwnHalves (l : List Half) (w : World) (e : Ending) (w' : World) : Prop := ∃ a c, e = .returned (.slice a l.length c) ∧ l.length ≤ c ∧ c ≤ maxLen ∧ Ext w w' ∧ HalvesAt w' a l.length l ∧ From w.heap.size a
theorem NewHalves.own {l : List Half} {w w' : World} {e : Ending} (h : NewHalves l w e w') (hl : l.length ≤ maxLen) : OwnHalves l w e w' :=
  let ⟨b, h1, h2, h3, h4⟩ := h; ⟨_, _, h1, Nat.le_refl _, hl, h3, halves_block l h4, fun x hx => by cases hx; exact h2⟩
end Go.Proofs.YtcoelhpmkhimpaaGreat

/- See. -/
namespace Go.Proofs.YtcoelhpmkhimpaaGreat
open Go.RowKit
set_option linter.unusedVariables false
set_option linter.unusedSimpArgs false
def SeePost (l : List Half) (s : Sight) (w : World) (e : Ending) (w' : World) : Prop := ∃ a c, e = .returned (.tuple #[.agg #[.slice a (seeOf l s).1.length c], .int .i64 (seeOf l s).2]) ∧ (seeOf l s).1.length ≤ c ∧ c ≤ maxLen ∧ Ext w w' ∧ HalvesAt w' a (seeOf l s).1.length (seeOf l s).1 ∧ From w.heap.size a
theorem see_none {l : List Half} {s : Sight} {w : World} {k : Int} (h : seeOf l s = ([], k)) (w' : World) (hx : Ext w w') : SeePost l s w (.returned (.tuple #[.agg #[.slice none 0 0], .int .i64 k])) w' := by
  unfold SeePost
  rw [h]
  exact ⟨none, 0, rfl, Nat.le_refl _, Nat.zero_le _, hx, ⟨rfl, fun h => absurd h (by simp)⟩, From.none _⟩
theorem see_all {l m : List Half} {s : Sight} {w : World} (h : seeOf l s = (m, 0)) (w' : World) (a : Option Addr) (n c : Nat) (hn : m.length = n) (h1 : n ≤ c) (h2 : c ≤ maxLen) (hx : Ext w w') (hm : HalvesAt w' a n m) (hf : From w.heap.size a) : SeePost l s w (.returned (.tuple #[.agg #[.slice a n c], .int .i64 0])) w' := by
  unfold SeePost
  rw [h]
  subst hn
  exact ⟨a, c, rfl, h1, h2, hx, hm, hf⟩
theorem Owns.mono {w : World} {B C : Nat} {e : TypeId} {sz : Nat} {v : Value} {rows : List (List Value)} (h : Owns w B e sz v rows) (hc : C ≤ B) : Owns w C e sz v rows := by
  obtain ⟨⟨h0, h1⟩, h2⟩ := h
  refine ⟨⟨h0, ?_⟩, h2⟩
  rcases h1 with h1 | ⟨g, cap, cur, e1, e2, e3⟩
  · exact .inl h1
  · exact .inr ⟨g, cap, cur, e1, Nat.le_trans hc e2, e3⟩
theorem grown_set (W : World) (b i : Nat) (u : Value) : W.grownBy (W.setCell ⟨b, i, none⟩ u) (some b) := ⟨rfl, rfl, rfl, by simp, fun k hk hne => Below.heap_setCell _ _ _ _ fun e => hne (by rw [e])⟩
theorem owns_set {W : World} {base e sz b i : Nat} {v u : Value} {rows : List (List Value)} (h : Owns W base e sz v rows) (hb : b < base) : Owns (W.setCell ⟨b, i, none⟩ u) base e sz v rows := by
  refine h.kept (grown_set W b i u) ?_
  cases ho : v.ownBlock with
  | none => exact .inl rfl
  | some g => exact .inr fun e => by have := (h.lt g ho).1; simp only [Option.some.injEq] at e; omega
/-- the result of See lies in memory of its own -/
def SeeOwn (l : List Half) (s : Sight) (w : World) (e : Ending) (w' : World) : Prop := ∃ v, e = .returned (.tuple #[.agg #[v], .int .i64 (seeOf l s).2]) ∧ Ext w w' ∧ Owns w' w.heap.size 79 3 v (halfRows (seeOf l s).1)
theorem SeeOwn.post {l : List Half} {s : Sight} {w : World} {e : Ending} {w' : World} (h : SeeOwn l s w e w') : SeePost l s w e w' := by
  obtain ⟨v, rfl, hx, ho⟩ := h
  obtain ⟨a, c, rfl, h1, h2, h3, h4⟩ := halves_of_owns ho
  exact ⟨a, c, rfl, h2, h3, hx, h4, h1⟩
theorem seeown_none {l : List Half} {s : Sight} {w : World} {k : Int} (h : seeOf l s = ([], k)) (w' : World) (hx : Ext w w') : SeeOwn l s w (.returned (.tuple #[.agg #[.slice none 0 0], .int .i64 k])) w' := by
  unfold SeeOwn
  rw [h]
  exact ⟨_, rfl, hx, Owns.nil _ _ _ _⟩
theorem seeown_all {l m : List Half} {s : Sight} {w : World} (h : seeOf l s = (m, 0)) (w' : World) (v : Value) (hx : Ext w w') (hm : Owns w' w.heap.size 79 3 v (halfRows m)) : SeeOwn l s w (.returned (.tuple #[.agg #[v], .int .i64 0])) w' := by
  unfold SeeOwn
  rw [h]
  exact ⟨v, rfl, hx, hm⟩
end Go.Proofs.YtcoelhpmkhimpaaGreat

/- Halves joined, in memory that may be written. -/
namespace Go.Proofs.YtcoelhpmkhimpaaGreat
open Go.RowKit
set_option linter.unusedVariables false
set_option linter.unusedSimpArgs false
/-- halves in a slice of their own, which may be written -/
def OwnHalvesO (l : List Half) (w : World) (e : Ending) (w' : World) : Prop := ∃ v, e = .returned v ∧ Ext w w' ∧ Owns w' w.heap.size 79 3 v (halfRows l)
theorem OwnHalvesO.own {l : List Half} {w : World} {e : Ending} {w' : World} (h : OwnHalvesO l w e w') : OwnHalves l w e w' := by
  obtain ⟨v, rfl, hx, ho⟩ := h
  obtain ⟨a, c, rfl, h1, h2, h3, h4⟩ := halves_of_owns ho
  exact ⟨a, c, rfl, h2, h3, hx, h4, h1⟩
end Go.Proofs.YtcoelhpmkhimpaaGreat

/- Whether a trek is valid; products of spans; copies of halves. -/
namespace Go.Proofs.YtcoelhpmkhimpaaGreat
open Go.RowKit
set_option linter.unusedVariables false
set_option linter.unusedSimpArgs false
set_option maxRecDepth 100000 in
theorem gone_any (t : Trek) (w : World) : Calls Tryz.prog 35 #[t.val] w fun e w' => e = .returned (.bool (trekOk t)) ∧ Ext w w' := by
  have h1 := fun W k hb => ordered1 0 60 t.d W k hb
  have h2 := fun W k hb => ordered2 (-100000) 100000 t.e t.n W k hb
  have hT : trekOk t = (spanOk t.d 0 60 && (spanOk t.e (-100000) 100000 && spanOk t.n (-100000) 100000)) := by unfold trekOk; rw [Bool.and_assoc]
  rw [hT]
  obtain ⟨⟨d0, d1⟩, ⟨e0, e1⟩, ⟨n0, n1⟩⟩ := t
  unfold Trek.val
  simp only at h1 h2 ⊢
  have hnew := fun (W : World) (o : Obj) (b : Nat) (hb : b = W.heap.size) => show (W.alloc o).heap[b]? = some o from by rw [hb]; exact heap_alloc_new W o
  obtain ⟨W0, hW0⟩ : ∃ W0, w.alloc (.cells #[.int .i64 d0, .int .i64 d1, .int .i64 e0, .int .i64 e1, .int .i64 n0, .int .i64 n1] 43) = W0 := ⟨_, rfl⟩
  have hx0 : Ext w W0 := by rw [← hW0]; exact (Ext.refl w).alloc _
  have hb0 : W0.heap[w.heap.size]? = some (.cells #[.int .i64 d0, .int .i64 d1, .int .i64 e0, .int .i64 e1, .int .i64 n0, .int .i64 n1] 43 (0, 0)) := by rw [← hW0]; exact heap_alloc_new w _
  obtain ⟨z0, _⟩ := (Ext.refl W0).box hb0
  clear hT
  generalize (spanOk ⟨e0, e1⟩ (-100000) 100000 && spanOk ⟨n0, n1⟩ (-100000) 100000) = R at *
  cases hA : spanOk ⟨d0, d1⟩ 0 60 with
  | false =>
    rw [hA] at h1
    have H1 := Lib.hid h1
    have Hnew := Lib.hid hnew
    have Hx0 := Lib.hid hx0
    have Hb0 := Lib.hid hb0
    clear h1 hnew hx0 hb0
    clear h2 hA
    go_enter Tryz.func35, Tryz.ntmps35
    go_wp2_with (go_at_call 43; refine (H1.out _ _ (Hnew.out _ _ _ rfl)).mono ?_; rintro e w1 ⟨rfl, hx1⟩)
    go_ret
    exact ⟨rfl, Hx0.out.trans (((Ext.refl _).alloc _).trans hx1)⟩
  | true =>
    rw [hA] at h1
    have H1 := Lib.hid h1
    have H2 := Lib.hid h2
    have Hnew := Lib.hid hnew
    have Hx0 := Lib.hid hx0
    have Hb0 := Lib.hid hb0
    clear h1 h2 hnew hx0 hb0
    clear hA
    go_enter Tryz.func35, Tryz.ntmps35
    go_wp2_with (first | (go_at_call 43; refine (H1.out _ _ (Hnew.out _ _ _ rfl)).mono ?_; rintro e w1 ⟨rfl, hx1⟩; have hx01 := ((Ext.refl W0).alloc _).trans hx1; obtain ⟨z1, _⟩ := hx01.box Hb0.out; have hl1 := heap_lt (hx01.heap Hb0.out); clear z0 hW0 H1) | (go_at_call 43; refine (H2.out _ _ (Hnew.out _ _ _ rfl)).mono ?_; rintro e w2 ⟨rfl, hx2⟩))
    go_ret
    exact ⟨rfl, Hx0.out.trans (hx01.trans (((Ext.refl _).alloc _).trans hx2))⟩
set_option maxRecDepth 100000 in
theorem movedFn_any (h : Half) (w : World) : Calls Tryz.prog 62 #[h.val] w fun e w' => e = .returned (.bool (edgeOk h.c)) ∧ Ext w w' := by
  have h1 := fun W k hb => from1 (-100000000000) 100000000000 h.c W k hb
  have hT : edgeOk h.c = inB h.c (-100000000000) 100000000000 := rfl
  rw [hT]
  obtain ⟨ha, hb, hc⟩ := h
  unfold Half.val
  simp only at h1 ⊢
  have hnew := fun (W : World) (o : Obj) (b : Nat) (hb : b = W.heap.size) => show (W.alloc o).heap[b]? = some o from by rw [hb]; exact heap_alloc_new W o
  have H1 := Lib.hid h1
  have Hnew := Lib.hid hnew
  clear h1 hnew
  clear hT
  go_enter Tryz.func62, Tryz.ntmps62
  go_wp2_with (go_at_call 54; refine (H1.out _ _ (Hnew.out _ _ _ (by simp))).mono ?_; rintro e w1 ⟨rfl, hx1⟩)
  go_ret
  exact ⟨rfl, (((Ext.refl _).alloc _).alloc _).trans hx1⟩
set_option maxRecDepth 100000 in
theorem clone_any (b off len cap : Nat) (l : List Half) (w : World) (hl : HalvesAt w (some ⟨b, off, none⟩) len l) (hlen : len ≤ 100000) : Calls Tryz.prog 60 #[.slice (some ⟨b, off, none⟩) len cap] w (OwnHalvesO l w) := by
  have hll := hl.1
  have hrl : (halfRows l).length = len := by rw [halfRows_len]; exact hll
  have hsl : SlAt w 3 (some ⟨b, off, none⟩) len (fun k => (halfRows l).getD k []) := hl.src
  have heq : (binOp .eql 22 (.slice (some ⟨b, off, none⟩) len cap) (.slice none 0 0)).run Tryz.prog w = .ok (.bool false) w := by
    have := Go.Lib.run_eql_slice_nil (P := Tryz.prog) w 22 79 (some ⟨b, off, none⟩) len cap 0 0 Tryz.underlying22
    simpa using this
  have Hrl := Lib.hid hrl
  have Hsl := Lib.hid hsl
  have Hl := Lib.hid hl
  clear hrl hsl hl
  go_enter Tryz.func60, Tryz.ntmps60
  go_wp2_with (at_builtin; refine wpList_app elem81 _ rfl (.tmp 5) (.tmp 6) rfl w.heap.size _ (halfRows []) rfl (Owns.empty' (alloc_at _ _ _ rfl) (Nat.le_refl _) rfl (by decide)) (some ⟨b, off, none⟩) len cap (halfRows l) rfl Hrl.out (Hsl.out.ext ((Ext.refl _).alloc _)) (halfRows_row _) ?_ ?_ ?_)
  · show 0 + len ≤ 1000000000
    omega
  · simp
  intro v4 w4 ho4 hg4 _
  rw [show halfRows [] ++ halfRows l = halfRows l from rfl] at ho4
  have hx4 : Ext w w4 := ((Ext.refl w).alloc _).app (Owns.empty' (sz := 3) (cap := 0) (alloc_at _ _ _ rfl) (Nat.le_refl _) rfl (by decide)) hg4
  have Ho4 := Lib.hid ho4
  have Hx4 := Lib.hid hx4
  clear ho4 hx4
  clear hg4
  go_wp2_with fail
  go_ret
  exact ⟨_, rfl, Hx4.out, Ho4.out⟩
theorem run_min4 (a b c d : Int) (w : World) : (Builtin.min_ #[3, 3, 3, 3] 3 #[.int .i64 a, .int .i64 b, .int .i64 c, .int .i64 d]).run Tryz.prog w = .ok (.int .i64 (min (min a b) (min c d))) w := by
  simp [Builtin.min_, Builtin.min2]
  omega
theorem run_max4 (a b c d : Int) (w : World) : (Builtin.max_ #[3, 3, 3, 3] 3 #[.int .i64 a, .int .i64 b, .int .i64 c, .int .i64 d]).run Tryz.prog w = .ok (.int .i64 (max (max a b) (max c d))) w := by
  simp [Builtin.max_, Builtin.max2]
  omega
end Go.Proofs.YtcoelhpmkhimpaaGreat

/- The reference: the list of corners. -/
namespace Go.Proofs.YtcoelhpmkhimpaaGreat
open Go.RowKit
set_option linter.unusedVariables false
set_option linter.unusedSimpArgs false
def Corner.cells (c : Corner) : List Value := [.int .i64 c.x, .int .i64 c.y, .int .i64 c.d]
def zc : Corner := ⟨0, 0, 0⟩
def CornersAt (w : World) (a : Option Addr) (n : Nat) (l : List Corner) : Prop := l.length = n ∧ SlAt w 3 a n fun i => (l.getD i zc).cells
theorem CornersAt.ext {w w' : World} {a : Option Addr} {n : Nat} {l : List Corner} (h : CornersAt w a n l) (e : Ext w w') : CornersAt w' a n l := ⟨h.1, h.2.ext e⟩
theorem CornersAt.get {w : World} {a : Option Addr} {n : Nat} {l : List Corner} (h : CornersAt w a n l) (k : Nat) (hk : k < n) :
    ∃ b off x, a = some ⟨b, off, none⟩ ∧ l[k]? = some x ∧ b < w.heap.size ∧ w.cell? ⟨b, off + k * 3, none⟩ = some (.int .i64 x.x) ∧ w.cell? ⟨b, off + k * 3 + 1, none⟩ = some (.int .i64 x.y) ∧ w.cell? ⟨b, off + k * 3 + 2, none⟩ = some (.int .i64 x.d) := by
  obtain ⟨hl, h⟩ := h
  obtain ⟨b, off, ha, hc⟩ := h (by omega)
  have h0 := hc k hk 0 _ rfl
  simp only [Nat.add_zero] at h0
  exact ⟨b, off, _, ha, by simp [List.getD, hl, hk], block_lt_of_cell h0, h0, hc k hk 1 _ rfl, hc k hk 2 _ rfl⟩
def cornerRows (l : List Corner) : List (List Value) := l.map Corner.cells
theorem cornerRows_row (l : List Corner) : ∀ r ∈ cornerRows l, r.length = 3 ∧ ∀ u ∈ r, u.oneCell' = true := by
  intro r hr
  obtain ⟨x, _, rfl⟩ := List.mem_map.1 hr
  exact ⟨rfl, fun u hu => by simp [Corner.cells] at hu; rcases hu with rfl | rfl | rfl <;> rfl⟩
theorem cornerRows_append (l m : List Corner) : cornerRows (l ++ m) = cornerRows l ++ cornerRows m := by simp [cornerRows]
theorem corners_of_owns {w : World} {B : Nat} {e : TypeId} {v : Value} {l : List Corner} (h : Owns w B e 3 v (cornerRows l)) : ∃ a c, v = .slice a l.length c ∧ From B a ∧ l.length ≤ c ∧ c ≤ maxLen ∧ CornersAt w a l.length l := by
  obtain ⟨a, c, hv, h1, h2, h3, h4⟩ := h.slAt
  rw [show (cornerRows l).length = l.length by simp [cornerRows]] at hv h2 h4
  refine ⟨a, c, hv, h1, h2, h3, rfl, h4.congr fun i hi => ?_⟩
  simp [cornerRows, List.getD, List.getElem?_map, List.getElem?_eq_getElem hi]
def CornersPost (l : List Half) (w : World) (e : Ending) (w' : World) : Prop := ∃ a c, e = .returned (.slice a (cornersOf l).length c) ∧ Ext w w' ∧ CornersAt w' a (cornersOf l).length (cornersOf l)
theorem cornersTo_len (l : List Half) : ∀ k m, k < l.length → m ≤ k → (cornersTo l k m).length ≤ k * l.length + m := by
  intro k m hk hm
  have h1 : ∀ i, (cornersAt l i).length ≤ i := fun i => by
    unfold cornersAt
    refine Nat.le_trans (List.length_filter_le _ _) ?_
    simp only [List.length_map, List.length_take]
    omega
  have h2 : ∀ k, k ≤ l.length → ((List.range k).flatMap (cornersAt l)).length ≤ k * l.length := by
    intro k
    induction k with
    | zero => intro _; simp
    | succ k ih =>
      intro hk
      have := ih (by omega)
      have := h1 k
      simp only [List.range_succ, List.flatMap_append, List.length_append, List.flatMap_cons, List.flatMap_nil, List.append_nil, Nat.add_mul]
      omega
  unfold cornersTo
  rw [List.length_append]
  have e1 := h2 k (by omega)
  have e2 : (((l.take m).map (meet (l.getD k ⟨0, 0, 0⟩))).filter (okC l)).length ≤ m := by
    refine Nat.le_trans (List.length_filter_le _ _) ?_
    simp only [List.length_map, List.length_take]
    omega
  omega
theorem meet_rev {p q : Half} : (meet0 p q).d = -(meet0 q p).d := by simp only [meet0]; grind
/-- p at m, q at k -/
theorem cornersTo_meet {l : List Half} {k m : Nat} {p q : Half} (hp : l[m]? = some p) (hq : l[k]? = some q) : cornersTo l k (m + 1) = cornersTo l k m ++ if okC l (meet p q) then [meet p q] else [] := by
  have hqd : l.getD k ⟨0, 0, 0⟩ = q := by simp [List.getD, hq]
  rw [cornersTo_step hp, hqd]
  by_cases h : (meet0 p q).d = 0
  · have h1 : okC l (meet p q) = false := by
      rw [Bool.eq_false_iff]
      intro e
      exact meet_d.1 (okC_iff.1 e).1 h
    have h2 : okC l (meet q p) = false := by
      rw [Bool.eq_false_iff]
      intro e
      have := meet_d.1 (okC_iff.1 e).1
      rw [meet_rev] at this
      omega
    rw [h1, h2]
    rfl
  · rw [meet_comm h]
theorem all_take_succ {α : Type} {f : α → Bool} {l : List α} {j : Nat} {x : α} (h : l[j]? = some x) : (l.take (j + 1)).all f = ((l.take j).all f && f x) := by
  rw [List.take_add_one, h, Option.toList_some, List.all_append]
  simp
theorem all_take_false {α : Type} {f : α → Bool} {l : List α} {j : Nat} (h : (l.take j).all f = false) : l.all f = false := by
  rw [Bool.eq_false_iff] at h ⊢
  intro e
  exact h (List.all_eq_true.2 fun x hx => List.all_eq_true.1 e x (List.mem_of_mem_take hx))
end Go.Proofs.YtcoelhpmkhimpaaGreat

/- The reference: Bounds. -/
namespace Go.Proofs.YtcoelhpmkhimpaaGreat
open Go.RowKit
set_option linter.unusedVariables false
set_option linter.unusedSimpArgs false
def BoundsPost (l : List Half) (w : World) (e : Ending) (w' : World) : Prop := e = .returned (.tuple #[(boundsOf l).1.val, (boundsOf l).2.1.val, .int .i64 (boundsOf l).2.2]) ∧ Ext w w'
theorem bounds_err {l : List Half} {w : World} {k : Int} (h : boundsOf l = (zs, zs, k)) (w' : World) (hx : Ext w w') : BoundsPost l w (.returned (.tuple #[.agg #[.int .i64 0, .int .i64 0], .agg #[.int .i64 0, .int .i64 0], .int .i64 k])) w' := by
  unfold BoundsPost
  rw [h]
  exact ⟨rfl, hx⟩
theorem bounds_is {l : List Half} {w : World} {E N : Span} (h : boundsOf l = (E, N, 0)) (w' : World) (hx : Ext w w') : BoundsPost l w (.returned (.tuple #[.agg #[.int .i64 E.lo, .int .i64 E.hi], .agg #[.int .i64 N.lo, .int .i64 N.hi], .int .i64 0])) w' := by
  unfold BoundsPost
  rw [h]
  exact ⟨rfl, hx⟩
/-- the bounds so far -/
def bndTo (cs : List Corner) (k : Nat) : Span × Span := (bndOf (cs.take k)).getD (zs, zs)
theorem bndTo_zero {cs : List Corner} {c : Corner} (h : cs[0]? = some c) : bndTo cs 1 = (spanX c, spanY c) := by
  unfold bndTo
  have e : cs.take 1 = [c] := by
    rw [show (1 : Nat) = 0 + 1 from rfl, List.take_add_one, h]
    rfl
  rw [e]
  rfl
theorem bndTo_succ {cs : List Corner} {k : Nat} {c : Corner} (h : cs[k]? = some c) (hk : 0 < k) : bndTo cs (k + 1) = ((bndTo cs k).1.hull (spanX c), (bndTo cs k).2.hull (spanY c)) := by
  unfold bndTo
  rw [List.take_add_one, h, Option.toList_some, bndOf_snoc]
  cases hb : bndOf (cs.take k) with
  | none =>
    have inv := bndOf_inv (cs.take k)
    rw [hb] at inv
    simp only at inv
    have hlt := (List.getElem?_eq_some_iff.1 h).1
    have : (cs.take k).length = k := by rw [List.length_take]; omega
    rw [inv] at this
    simp at this
    omega
  | some a => rfl
theorem boundsOf_ok {l : List Half} (ha : areaOk l = true) (hne : someB l = true) : boundsOf l = ((bndTo (cornersOf l) (cornersOf l).length).1, (bndTo (cornersOf l) (cornersOf l).length).2, 0) := by
  unfold boundsOf bndTo
  rw [if_pos ha, List.take_length]
  cases hb : bndOf (cornersOf l) with
  | none =>
    have := bnd_none.1 hb
    unfold someB at hne
    rw [this] at hne
    cases hne
  | some a => rfl
theorem boundsOf_lost {l : List Half} (ha : areaOk l = true) (hne : someB l = false) : boundsOf l = (zs, zs, 43) := by
  unfold boundsOf
  rw [if_pos ha]
  have : cornersOf l = [] := by
    unfold someB at hne
    cases h : cornersOf l with
    | nil => rfl
    | cons c r => rw [h] at hne; cases hne
  rw [this]
  rfl
theorem boundsOf_area {l : List Half} (ha : areaOk l = false) : boundsOf l = (zs, zs, 40) := by
  unfold boundsOf
  rw [if_neg (by rw [ha]; simp)]
/-- two cells of a block are written -/
theorem set2_at {W : World} {g : Nat} {u v a b : Value} {T : TypeId} (h : W.heap[g]? = some (.cells #[u, v] T (0, 0))) : ((W.setCell ⟨g, 0, none⟩ a).setCell ⟨g, 1, none⟩ b).heap[g]? = some (.cells #[a, b] T (0, 0)) := by
  simp only [heap_setCell_box, h, Option.map_some, setIn_cells, List.setIfInBounds_toArray, List.set_cons_zero, List.set_cons_succ]
theorem gset2_other {W : World} {g k : Nat} {a b : Value} (h : k ≠ g) : ((W.setCell ⟨g, 0, none⟩ a).setCell ⟨g, 1, none⟩ b).heap[k]? = W.heap[k]? := by
  rw [Below.heap_setCell _ _ _ _ (by simp only; omega), Below.heap_setCell _ _ _ _ (by simp only; omega)]
theorem gset2_ext {w W : World} {g : Nat} {a b : Value} (h : Ext w W) (hg : w.heap.size ≤ g) : Ext w ((W.setCell ⟨g, 0, none⟩ a).setCell ⟨g, 1, none⟩ b) := (h.setCell (by exact hg) _).setCell (by exact hg) _
theorem set4_at {W : World} {g k : Nat} {u v u' v' a b c d : Value} {T T' : TypeId} (h : W.heap[g]? = some (.cells #[u, v] T (0, 0))) (h' : W.heap[k]? = some (.cells #[u', v'] T' (0, 0))) (hne : g ≠ k) :
    ((((W.setCell ⟨g, 0, none⟩ a).setCell ⟨g, 1, none⟩ b).setCell ⟨k, 0, none⟩ c).setCell ⟨k, 1, none⟩ d).heap[g]? = some (.cells #[a, b] T (0, 0)) ∧ ((((W.setCell ⟨g, 0, none⟩ a).setCell ⟨g, 1, none⟩ b).setCell ⟨k, 0, none⟩ c).setCell ⟨k, 1, none⟩ d).heap[k]? = some (.cells #[c, d] T' (0, 0)) :=
  ⟨(gset2_other hne).trans (set2_at h), set2_at ((gset2_other (Ne.symm hne)).trans h')⟩
theorem corners_len (l : List Half) : (cornersOf l).length ≤ l.length * l.length := by
  rw [← cornersTo_all]
  cases h : l.length with
  | zero => simp [cornersTo]
  | succ n =>
    rw [cornersTo_next]
    have := cornersTo_len l n n (by omega) (Nat.le_refl _)
    rw [h] at this
    rw [Nat.succ_mul]
    omega
theorem if_max (a b : Int) : (if a < b then b else a) = max a b := by split <;> omega
def Two (p q : Nat) (a b c d : Int) (W : World) : Prop := W.heap[p]? = some (.cells #[.int .i64 a, .int .i64 b] 27 (0, 0)) ∧ W.heap[q]? = some (.cells #[.int .i64 c, .int .i64 d] 27 (0, 0))
theorem Two.set {p q g : Nat} {a b c d : Int} {u v : Value} {W : World} (h : Two p q a b c d W) (h1 : p ≠ g) (h2 : q ≠ g) : Two p q a b c d ((W.setCell ⟨g, 0, none⟩ u).setCell ⟨g, 1, none⟩ v) := ⟨(gset2_other h1).trans h.1, (gset2_other h2).trans h.2⟩
/-- two blocks hold the bounds so far -/
def RB (cs : List Corner) (w2 : World) (p6 p7 k : Nat) (W : World) : Prop := Ext w2 W ∧ W.heap[p6]? = some (.cells #[.int .i64 (bndTo cs k).1.lo, .int .i64 (bndTo cs k).1.hi] 27 (0, 0)) ∧ W.heap[p7]? = some (.cells #[.int .i64 (bndTo cs k).2.lo, .int .i64 (bndTo cs k).2.hi] 27 (0, 0))
theorem hull_self (s : Span) (h : s.lo ≤ s.hi) : s.hull s = s := by
  cases s
  simp only [Span.hull, Span.mk.injEq] at *
  omega
end Go.Proofs.YtcoelhpmkhimpaaGreat
