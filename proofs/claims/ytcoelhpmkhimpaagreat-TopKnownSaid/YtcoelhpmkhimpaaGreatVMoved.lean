/- Halves after a trek. -/
import Derived.Test.YtcoelhpmkhimpaaGreatVGp
namespace Go.Proofs.YtcoelhpmkhimpaaGreat
open Go.RowKit
set_option linter.unusedVariables false
set_option linter.unusedSimpArgs false
theorem flat_set (c : Int) : ∀ (L : List Half) (j : Nat) (h : Half), L[j]? = some h → (halfRows (L.set j ⟨h.a, h.b, c⟩)).flatten = (halfRows L).flatten.set (j * 3 + 2) (.int .i64 c)
  | [], j, h, e => by simp at e
  | x :: r, 0, h, e => by
    simp at e
    subst e
    simp [halfRows, Half.cells]
  | x :: r, j + 1, h, e => by
    have ih := flat_set c r j h (by simpa using e)
    simp only [halfRows, List.set_cons_succ, List.map_cons, List.flatten_cons] at ih ⊢
    rw [ih, show (j + 1) * 3 + 2 = (j * 3 + 2) + 3 by omega]
    simp [Half.cells]
theorem owns_set_c {W : World} {B g n cap : Nat} {L : List Half} {j : Nat} {h : Half} {c : Int} (ho : Owns W B 79 3 (.slice (some ⟨g, 0, none⟩) n cap) (halfRows L)) (hj : L[j]? = some h) : Owns (W.setCell ⟨g, j * 3 + 2, none⟩ (.int .i64 c)) B 79 3 (.slice (some ⟨g, 0, none⟩) n cap) (halfRows (L.set j ⟨h.a, h.b, c⟩)) := by
  have hjl := (List.getElem?_eq_some_iff.1 hj).1
  obtain ⟨⟨h0, h1⟩, h2⟩ := ho
  have hl : (halfRows (L.set j ⟨h.a, h.b, c⟩)).length = (halfRows L).length := by simp [halfRows]
  refine ⟨⟨?_, ?_⟩, fun r hr => (halfRows_row _ r hr).1⟩
  · rw [hl, flat_set c L j h hj, List.length_set]
    exact h0
  · rw [hl, flat_set c L j h hj]
    rcases h1 with ⟨e, _⟩ | ⟨g', cap', cur, e, e1, e2, e3, e4, e5, e6⟩
    · cases e
    · simp only [Value.slice.injEq, Option.some.injEq, Addr.mk.injEq] at e
      obtain ⟨⟨rfl, _⟩, rfl, rfl⟩ := e
      refine .inr ⟨g, cap, cur.setIfInBounds (j * 3 + 2) (.int .i64 c), rfl, e1, by rw [heap_setCell_box, e2, Option.map_some, setIn_cells], e3, e4, by simpa using e5, ?_⟩
      rw [← e6, Array.toList_setIfInBounds, List.take_set]
theorem owns_box {W : World} {B g n cap : Nat} {rows : List (List Value)} (ho : Owns W B 79 3 (.slice (some ⟨g, 0, none⟩) n cap) rows) : ∃ cur, W.heap[g]? = some (.cells cur 79 (0, 0)) := by
  obtain ⟨⟨h0, h1⟩, h2⟩ := ho
  rcases h1 with ⟨e, _⟩ | ⟨g', cap', cur, e, e1, e2, _⟩
  · cases e
  · simp only [Value.slice.injEq, Option.some.injEq, Addr.mk.injEq] at e
    obtain ⟨⟨rfl, _⟩, rfl, rfl⟩ := e
    exact ⟨cur, e2⟩
theorem owns_halves {W : World} {B g n cap : Nat} {L : List Half} (ho : Owns W B 79 3 (.slice (some ⟨g, 0, none⟩) n cap) (halfRows L)) : HalvesAt W (some ⟨g, 0, none⟩) n L := by
  obtain ⟨a, c, e, _, _, _, h⟩ := halves_of_owns ho
  simp only [Value.slice.injEq] at e
  obtain ⟨rfl, rfl, rfl⟩ := e
  exact h
theorem join_orders1 {F M : World → Prop} {S : World → Prop} {X Y : World → Prop} (h1 : (∀ W, F W → M W) → ∀ W, S W → X W) (h2 : (∀ W, F W → M W) → ∀ W, S W → Y W) (h : ∀ W, F W → M W) : ∀ W, S W → X W ∧ Y W := fun W hW => ⟨h1 h W hW, h2 h W hW⟩
theorem times_bd {d e : Span} (hd : spanOk d 0 60 = true) (he : spanOk e (-100000) 100000 = true) : -6000000 ≤ (times d e).lo ∧ (times d e).lo ≤ 6000000 ∧ -6000000 ≤ (times d e).hi ∧ (times d e).hi ≤ 6000000 := by
  simp only [spanOk, Bool.and_eq_true, decide_eq_true_eq] at hd he
  obtain ⟨⟨d0, d1⟩, d2⟩ := hd
  obtain ⟨⟨e0, e1⟩, e2⟩ := he
  have m1 := mul_le (A := 60) (B := 100000) (show -60 ≤ d.lo by omega) (show d.lo ≤ 60 by omega) e0 (show e.lo ≤ 100000 by omega)
  have m2 := mul_le (A := 60) (B := 100000) (show -60 ≤ d.lo by omega) (show d.lo ≤ 60 by omega) (show -100000 ≤ e.hi by omega) e2
  have m3 := mul_le (A := 60) (B := 100000) (show -60 ≤ d.hi by omega) d2 e0 (show e.lo ≤ 100000 by omega)
  have m4 := mul_le (A := 60) (B := 100000) (show -60 ≤ d.hi by omega) d2 (show -100000 ≤ e.hi by omega) e2
  simp only [times]
  omega
/-- the first j halves have been moved -/
def mvTo (X Y : Span) (l : List Half) (j : Nat) : List Half := (l.take j).map (movedH X Y) ++ l.drop j
theorem mvTo_zero (X Y : Span) (l : List Half) : mvTo X Y l 0 = l := by simp [mvTo]
theorem mvTo_all (X Y : Span) (l : List Half) {n : Nat} (hn : l.length = n) : mvTo X Y l n = l.map (movedH X Y) := by
  subst hn
  simp [mvTo]
theorem mvTo_len (X Y : Span) (l : List Half) (j : Nat) : (mvTo X Y l j).length = l.length := by
  simp [mvTo]
  omega
theorem mvTo_get {X Y : Span} {l : List Half} {j : Nat} {h : Half} (hj : l[j]? = some h) : (mvTo X Y l j)[j]? = some h := by
  have hjl := (List.getElem?_eq_some_iff.1 hj).1
  unfold mvTo
  rw [List.getElem?_append_right (by simp; omega)]
  simp only [List.length_map, List.length_take]
  rw [show min j l.length = j by omega, Nat.sub_self, List.getElem?_drop, Nat.add_zero]
  exact hj
theorem mvTo_succ {X Y : Span} {l : List Half} {j : Nat} {h : Half} (hj : l[j]? = some h) : mvTo X Y l (j + 1) = (mvTo X Y l j).set j (movedH X Y h) := by
  have hjl := (List.getElem?_eq_some_iff.1 hj).1
  unfold mvTo
  rw [List.take_add_one, hj, Option.toList_some, List.map_append, List.map_cons, List.map_nil, List.append_assoc]
  rw [List.set_append_right _ _ (by simp; omega)]
  congr 1
  simp only [List.length_map, List.length_take]
  rw [show min j l.length = j by omega, Nat.sub_self]
  have : l.drop j = h :: l.drop (j + 1) := by
    rw [List.drop_eq_getElem_cons hjl]
    congr 1
    have := List.getElem?_eq_getElem hjl
    rw [hj] at this
    exact (Option.some.inj this).symm
  rw [this]
  rfl
def MovedPost (l : List Half) (t : Trek) (w : World) (e : Ending) (w' : World) : Prop := ∃ v, e = .returned (.tuple #[v, .bool (fitB (movedOf l t))]) ∧ Ext w w' ∧ Owns w' w.heap.size 79 3 v (halfRows (movedOf l t))
set_option maxRecDepth 100000 in
set_option maxHeartbeats 8000000 in
theorem moved_any (a : Option Addr) (len cap : Nat) (l : List Half) (t : Trek) (w : World) (hl : HalvesAt w a len l) (hl0 : 0 < len) (hlen : len ≤ 1000) (hh : ∀ h ∈ l, HalfIn h) (ht : trekOk t = true) :
    Calls Tryz.prog 38 #[.slice a len cap, t.val] w (MovedPost l t w) := by
  have hll := hl.1
  obtain ⟨lb, lo, _, rfl, _, hbl, _⟩ := hl.get 0 hl0
  have htk := ht
  simp only [trekOk, Bool.and_eq_true] at htk
  obtain ⟨⟨td, te⟩, tn⟩ := htk
  have hbx := times_bd td te
  have hby := times_bd td tn
  have hmo : movedOf l t = l.map (movedH (times t.d t.e) (times t.d t.n)) := rfl
  have hcl := fun W (hW : Ext w W) => clone_any lb lo len cap l W (hl.ext hW) (by omega)
  unfold OwnHalvesO at hcl
  have hfit : fitB (movedOf l t) = (movedOf l t).all fun h => edgeOk h.c := rfl
  have hsp : ∀ (s : Span) lo hi, spanOk s lo hi = true → lo ≤ s.lo ∧ s.lo ≤ s.hi ∧ s.hi ≤ hi := fun s lo hi h => by
    simp only [spanOk, Bool.and_eq_true, decide_eq_true_eq] at h
    omega
  have s1 := hsp _ _ _ td
  have s2 := hsp _ _ _ te
  have s3 := hsp _ _ _ tn
  have ht1 := fun W => times_any t.d t.e W (by omega) (by omega) (by omega) (by omega)
  have ht2 := fun W => times_any t.d t.n W (by omega) (by omega) (by omega) (by omega)
  clear hsp
  obtain ⟨⟨d0, d1⟩, ⟨e0, e1⟩, ⟨n0, n1⟩⟩ := t
  simp only at ht1 ht2 hbx hby hmo
  generalize times ⟨d0, d1⟩ ⟨e0, e1⟩ = X at *
  generalize times ⟨d0, d1⟩ ⟨n0, n1⟩ = Y at *
  obtain ⟨x0, x1⟩ := X
  obtain ⟨y0, y1⟩ := Y
  rw [hmo] at hfit
  obtain ⟨F, hF⟩ : ∃ F, fitB (l.map (movedH ⟨x0, x1⟩ ⟨y0, y1⟩)) = F := ⟨_, rfl⟩
  rw [hF] at hfit
  obtain ⟨Q, hQ⟩ : ∃ Q, MovedPost l ⟨⟨d0, d1⟩, ⟨e0, e1⟩, ⟨n0, n1⟩⟩ w = Q := ⟨_, rfl⟩
  have hfin : ∀ v w', Ext w w' → Owns w' w.heap.size 79 3 v (halfRows (l.map (movedH ⟨x0, x1⟩ ⟨y0, y1⟩))) → Q (.returned (.tuple #[v, .bool F])) w' := fun v w' h1 h2 => by
    rw [← hQ]
    unfold MovedPost
    rw [hmo, hF]
    exact ⟨v, rfl, h1, h2⟩
  rw [hQ]
  clear hQ
  unfold Span.val at ht1 ht2
  unfold Trek.val
  simp only at ht1 ht2 hbx hby ⊢
  obtain ⟨W0, hW0⟩ : ∃ W0, w.alloc (.cells #[.int .i64 d0, .int .i64 d1, .int .i64 e0, .int .i64 e1, .int .i64 n0, .int .i64 n1] 43) = W0 := ⟨_, rfl⟩
  have hx0 : Ext w W0 := by rw [← hW0]; exact (Ext.refl w).alloc _
  have hb0 : W0.heap[w.heap.size]? = some (.cells #[.int .i64 d0, .int .i64 d1, .int .i64 e0, .int .i64 e1, .int .i64 n0, .int .i64 n1] 43 (0, 0)) := by rw [← hW0]; exact heap_alloc_new w _
  have Hx0 := Lib.hid hx0
  have Hb0 := Lib.hid hb0
  have Hl := Lib.hid hl
  have Hll := Lib.hid hll
  have Hh := Lib.hid hh
  have Hcl := Lib.hid hcl
  have Ht1 := Lib.hid ht1
  have Ht2 := Lib.hid ht2
  have Hfit := Lib.hid hfit
  have HF := Lib.hid hF
  have Hfin := Lib.hid hfin
  clear hx0 hb0 hl hll hh hcl ht1 ht2 hfit hF hfin
  clear hmo ht td te tn s1 s2 s3
  go_enter Tryz.func38, Tryz.ntmps38
  go_upto_region 1 with fail
  clear hW0
  refine wp_region_plan (.take [0, 1, 2, 3, 5, 6, 7, 8] (.call 4 (.call 9 (.two 10 (.one 11 (.fin (.one 12 (.one 13 .done)))) 11 (.one 10 (.fin (.one 12 (.one 13 .done)))))))) [12, 13] (Ext W0) _ (by kernel_rfl) (by kernel_rfl) rfl (EC.ext W0) ((Ext.refl _).drew) ?_
  simp only [planOf, treeOf, oneOp, twoOp, opsOf, consOp, callOC, oneOC, twoOC, List.getElem?_toArray, List.getElem?_cons_succ, List.getElem?_cons_zero]
  intro ι _ f hf
  have f0 := fun q => ((hf q).box Hb0.out).1
  clear hf
  repeat (go_big_quiet_step (fail))
  refine wpQuiet_nil ?_
  clear f0
  refine wpOC_call (args := #[.agg #[.int .i64 d0, .int .i64 d1], .agg #[.int .i64 e0, .int .i64 e1]]) (v := .agg #[.int .i64 x0, .int .i64 x1]) rfl rfl (enters_of Tryz.func59 (by kernel_rfl) rfl) (by kernel_rfl) (fun V hV => Ht1.out V) ?_
  simp only [Act.put, List.setIfInBounds_toArray, List.set_cons_succ, List.set_cons_zero]
  refine wpOC_call (args := #[.agg #[.int .i64 d0, .int .i64 d1], .agg #[.int .i64 n0, .int .i64 n1]]) (v := .agg #[.int .i64 y0, .int .i64 y1]) rfl rfl (enters_of Tryz.func59 (by kernel_rfl) rfl) (by kernel_rfl) (fun V hV => Ht2.out V) ?_
  simp only [Act.put, List.setIfInBounds_toArray, List.set_cons_succ, List.set_cons_zero]
  refine wpOC_two ?_
  apply join_orders (F := fun p10 p11 W' => Ext W0 W' ∧ W0.heap.size ≤ p10 ∧ W0.heap.size ≤ p11 ∧ W'.heap[p10]? = some (.cells #[.int .i64 x0, .int .i64 x1] 27 (0, 0)) ∧ W'.heap[p11]? = some (.cells #[.int .i64 y0, .int .i64 y1] 27 (0, 0)))
  · intro G Wa hxa
    go_wp2_with fail
    have hpa := hxa.size
    have haa := heap_alloc_new Wa (.cells #[.int .i64 0, .int .i64 0] 27)
    have hxa' := hxa.alloc (.cells #[.int .i64 0, .int .i64 0] 27)
    generalize Wa.alloc (.cells #[.int .i64 0, .int .i64 0] 27) = Wa' at *
    generalize Wa.heap.size = pa at *
    refine ⟨fun V => Ext W0 V ∧ V.heap[pa]? = some (.cells #[.int .i64 0, .int .i64 0] 27 (0, 0)), (EC.ext W0).and (EC.heap pa _), fun _ h => h.1, ⟨hxa', haa⟩, ?_⟩
    clear hxa hxa' haa Wa Wa'
    rintro Wb ⟨hxb, hab⟩
    go_wp2_with fail
    have hpb := hxb.size
    have hlb := heap_lt hab
    have hbb := heap_alloc_new Wb (.cells #[.int .i64 0, .int .i64 0] 27)
    have hxb' := hxb.alloc (.cells #[.int .i64 0, .int .i64 0] 27)
    have hab' := ((Ext.refl Wb).alloc (.cells #[.int .i64 0, .int .i64 0] 27)).heap hab
    have hne : pa ≠ Wb.heap.size := by omega
    clear hlb
    generalize Wb.alloc (.cells #[.int .i64 0, .int .i64 0] 27) = Wb' at *
    generalize Wb.heap.size = pb at *
    refine ⟨fun V => (Ext W0 V ∧ V.heap[pa]? = some (.cells #[.int .i64 0, .int .i64 0] 27 (0, 0))) ∧ V.heap[pb]? = some (.cells #[.int .i64 0, .int .i64 0] 27 (0, 0)), ((EC.ext W0).and (EC.heap pa _)).and (EC.heap pb _), fun _ h => h.1, ⟨⟨hxb', hab'⟩, hbb⟩, ?_⟩
    clear hxb hxb' hab hab' hbb Wb Wb'
    rintro Wc ⟨⟨hxc, hac⟩, hbc⟩
    refine wpOT_one ?_
    obtain ⟨k0, k1⟩ := (Ext.refl Wc).box hac
    obtain ⟨j0, j1⟩ := (Ext.refl Wc).box hbc
    have hla := heap_lt hac
    have hlb := heap_lt hbc
    go_wp2_with fail
    refine wpOT_one ?_
    go_wp2_with fail
    refine wpOT_done ?_
    have hc4 := set4_at (a := .int .i64 x0) (b := .int .i64 x1) (c := .int .i64 y0) (d := .int .i64 y1) hac hbc hne
    exact G _ _ _ ⟨gset2_ext (gset2_ext hxc hpa) hpb, hpa, hpb, hc4⟩
  · intro G Wa hxa
    go_wp2_with fail
    have hpa := hxa.size
    have haa := heap_alloc_new Wa (.cells #[.int .i64 0, .int .i64 0] 27)
    have hxa' := hxa.alloc (.cells #[.int .i64 0, .int .i64 0] 27)
    generalize Wa.alloc (.cells #[.int .i64 0, .int .i64 0] 27) = Wa' at *
    generalize Wa.heap.size = pa at *
    refine ⟨fun V => Ext W0 V ∧ V.heap[pa]? = some (.cells #[.int .i64 0, .int .i64 0] 27 (0, 0)), (EC.ext W0).and (EC.heap pa _), fun _ h => h.1, ⟨hxa', haa⟩, ?_⟩
    clear hxa hxa' haa Wa Wa'
    rintro Wb ⟨hxb, hab⟩
    go_wp2_with fail
    have hpb := hxb.size
    have hlb := heap_lt hab
    have hbb := heap_alloc_new Wb (.cells #[.int .i64 0, .int .i64 0] 27)
    have hxb' := hxb.alloc (.cells #[.int .i64 0, .int .i64 0] 27)
    have hab' := ((Ext.refl Wb).alloc (.cells #[.int .i64 0, .int .i64 0] 27)).heap hab
    have hne : pa ≠ Wb.heap.size := by omega
    clear hlb
    generalize Wb.alloc (.cells #[.int .i64 0, .int .i64 0] 27) = Wb' at *
    generalize Wb.heap.size = pb at *
    refine ⟨fun V => (Ext W0 V ∧ V.heap[pa]? = some (.cells #[.int .i64 0, .int .i64 0] 27 (0, 0))) ∧ V.heap[pb]? = some (.cells #[.int .i64 0, .int .i64 0] 27 (0, 0)), ((EC.ext W0).and (EC.heap pa _)).and (EC.heap pb _), fun _ h => h.1, ⟨⟨hxb', hab'⟩, hbb⟩, ?_⟩
    clear hxb hxb' hab hab' hbb Wb Wb'
    rintro Wc ⟨⟨hxc, hac⟩, hbc⟩
    refine wpOT_one ?_
    obtain ⟨k0, k1⟩ := (Ext.refl Wc).box hac
    obtain ⟨j0, j1⟩ := (Ext.refl Wc).box hbc
    have hla := heap_lt hac
    have hlb := heap_lt hbc
    go_wp2_with fail
    refine wpOT_one ?_
    go_wp2_with fail
    refine wpOT_done ?_
    have hc4 := set4_at (a := .int .i64 x0) (b := .int .i64 x1) (c := .int .i64 y0) (d := .int .i64 y1) hbc hac (Ne.symm hne)
    exact G _ _ _ ⟨gset2_ext (gset2_ext hxc hpb) hpa, hpb, hpa, hc4⟩
  rintro p6 p7 W2 ⟨hx2, hp6, hp7, hb6, hb7⟩
  have hxw2 := Hx0.out.trans hx2
  have hl6 := heap_lt hb6
  have hl7 := heap_lt hb7
  have Hxw2 := Lib.hid hxw2
  have Hb6 := Lib.hid hb6
  have Hb7 := Lib.hid hb7
  clear hxw2 hb6 hb7
  clear Ht1 Ht2 Hb0 hx2
  go_upto_region 4 with (go_at_call 60; refine (Hcl.out _ Hxw2.out).mono ?_; rintro e w3 ⟨v3, rfl, hx3, ho3⟩; obtain ⟨g, gc, hv3, hg3⟩ : ∃ g gc, v3 = .slice (some ⟨g, 0, none⟩) len gc ∧ W2.heap.size ≤ g := (by
    obtain ⟨⟨_, h⟩, _⟩ := ho3
    rcases h with ⟨_, hn⟩ | ⟨g, cap, cur, e, e1, _⟩
    · rw [halfRows_len] at hn; have := Hll.out; omega
    · rw [halfRows_len, Hll.out] at e; exact ⟨g, cap, e, e1⟩); subst hv3)
  have hO0 : Owns w3 W2.heap.size 79 3 (.slice (some ⟨g, 0, none⟩) len gc) (halfRows (mvTo ⟨x0, x1⟩ ⟨y0, y1⟩ l 0)) := by rw [mvTo_zero]; exact ho3
  have HO0 := Lib.hid hO0
  have Hx3 := Lib.hid hx3
  clear hO0 hx3
  clear ho3
  go_loopw [25] (fun i wr => ∃ j : Nat, j ≤ len ∧ i = .int .i64 j ∧ Ext W2 wr ∧ Owns wr W2.heap.size 79 3 (.slice (some ⟨g, 0, none⟩) len gc) (halfRows (mvTo ⟨x0, x1⟩ ⟨y0, y1⟩ l j))) (fun i _ => len - (intOf i).toNat)
  case atStart => exact ⟨0, Nat.zero_le _, rfl, Hx3.out, HO0.out⟩
  case round =>
    clear HO0
    obtain ⟨j, hj, rfl, hx, ho⟩ := hrel
    by_cases hlt : j < len
    · have hltB : decide ((j : Int) < (len : Int)) = true := by simp; omega
      obtain ⟨h, hhj⟩ : ∃ h, l[j]? = some h := ⟨l[j]'(by have := Hll.out; omega), List.getElem?_eq_getElem _⟩
      obtain ⟨_, _, k, e, hk, hgl, c0, c1, c2⟩ := (owns_halves ho).get j hlt
      cases e
      rw [mvTo_get hhj] at hk
      cases hk
      simp only [Nat.zero_add] at c0 c1 c2
      obtain ⟨cur, hcur⟩ := owns_box ho
      obtain ⟨k0, k1, l0, l1, _, n0', n1'⟩ := Hh.out h (List.mem_of_getElem? hhj)
      have m1 := mul_le (A := 1000) (B := 6000000) k0 k1 hbx.1 hbx.2.1
      have m2 := mul_le (A := 1000) (B := 6000000) k0 k1 hbx.2.2.1 hbx.2.2.2
      have m3 := mul_le (A := 1000) (B := 6000000) l0 l1 hby.1 hby.2.1
      have m4 := mul_le (A := 1000) (B := 6000000) l0 l1 hby.2.2.1 hby.2.2.2
      simp only [Int.reduceMul, Int.reduceNeg] at m1 m2 m3 m4
      have hmv : movedH ⟨x0, x1⟩ ⟨y0, y1⟩ h = ⟨h.a, h.b, h.c + (max (h.a * x0) (h.a * x1) + max (h.b * y0) (h.b * y1))⟩ := rfl
      rw [← if_max, ← if_max] at hmv
      obtain ⟨T1, t1⟩ : ∃ P, h.a * x0 = P := ⟨_, rfl⟩
      obtain ⟨T2, t2⟩ : ∃ P, h.a * x1 = P := ⟨_, rfl⟩
      obtain ⟨T3, t3⟩ : ∃ P, h.b * y0 = P := ⟨_, rfl⟩
      obtain ⟨T4, t4⟩ : ∃ P, h.b * y1 = P := ⟨_, rfl⟩
      rw [t1, t2, t3, t4] at hmv
      rw [t1] at m1
      rw [t2] at m2
      rw [t3] at m3
      rw [t4] at m4
      have hM1 : (if T1 < T2 then T2 else T1) ≤ 6000000000 ∧ -6000000000 ≤ (if T1 < T2 then T2 else T1) := by split <;> omega
      have hM2 : (if T3 < T4 then T4 else T3) ≤ 6000000000 ∧ -6000000000 ≤ (if T3 < T4 then T4 else T3) := by split <;> omega
      obtain ⟨M1, hM1e⟩ : ∃ M, (if T1 < T2 then T2 else T1) = M := ⟨_, rfl⟩
      obtain ⟨M2, hM2e⟩ : ∃ M, (if T3 < T4 then T4 else T3) = M := ⟨_, rfl⟩
      rw [hM1e] at hmv hM1
      rw [hM2e] at hmv hM2
      have hb6' := hx.heap Hb6.out
      have hb7' := hx.heap Hb7.out
      have Hx := Lib.hid hx
      have Ho := Lib.hid ho
      have Hmv := Lib.hid hmv
      have Hcur := Lib.hid hcur
      have Hb6' := Lib.hid hb6'
      have Hb7' := Lib.hid hb7'
      have Hhj := Lib.hid hhj
      clear hx ho hmv hcur hb6' hb7' hhj
      go_upto_region 7 with fail
      refine wp_region_plan (.take [0, 1, 2, 3, 4, 5, 6, 7, 8, 9, 10, 11, 12, 13, 14, 15, 16, 17, 19, 20, 21, 22, 23, 24, 25, 26, 27, 28, 29, 30, 31, 32] (.two 18 (.one 33 (.take [34, 35, 36, 37] (.fin (.one 38 .done)))) 33 (.one 18 (.take [34, 35, 36, 37] (.fin (.one 38 .done)))))) [38] (Ext wr) _ (by kernel_rfl) (by kernel_rfl) rfl (EC.ext wr) ((Ext.refl _).drew) ?_
      simp only [planOf, treeOf, oneOp, twoOp, opsOf, consOp, callOC, oneOC, twoOC, List.getElem?_toArray, List.getElem?_cons_succ, List.getElem?_cons_zero]
      intro ι _ f hf
      have f0 := fun q => (hf q).cell c0
      have f1 := fun q => (hf q).cell c1
      have f2 := fun q => (hf q).cell c2
      have f3 := fun q => ((hf q).box Hb6'.out).1
      have f4 := fun q => ((hf q).box Hb7'.out).1
      clear hf
      repeat (go_big_quiet_step (fail))
      refine wpQuiet_nil ?_
      clear f0 f1 f2 f3 f4
      refine wpOC_two ?_
      apply join_orders1 (F := fun V => ∃ V0, Ext wr V0 ∧ V = V0.setCell ⟨g, j * 3 + 2, none⟩ (.int .i64 (h.c + (M1 + M2))))
      · intro G Wa hxa
        go_wp2_with fail
        refine ⟨Ext wr, EC.ext wr, fun _ h => h, hxa, ?_⟩
        clear hxa Wa
        intro Wb hxb
        go_wp2_with fail
        refine ⟨Ext wr, EC.ext wr, fun _ h => h, hxb, ?_⟩
        clear hxb Wb
        intro ι _ f hf
        clear hf
        repeat (go_big_quiet_step (fail))
        refine wpQuiet_nil ?_
        intro Wc hxc
        have e2 := hxc.cell c2
        have fz := ((hxc.box Hcur.out).2 (j * 3 + 2))
        have hgc : g < Wc.heap.size := Nat.lt_of_lt_of_le hgl hxc.size
        refine wpOT_one ?_
        go_wp2_with fail
        refine wpOT_done ?_
        exact G _ ⟨Wc, hxc, rfl⟩
      · intro G Wa hxa
        go_wp2_with fail
        refine ⟨Ext wr, EC.ext wr, fun _ h => h, hxa, ?_⟩
        clear hxa Wa
        intro Wb hxb
        go_wp2_with fail
        refine ⟨Ext wr, EC.ext wr, fun _ h => h, hxb, ?_⟩
        clear hxb Wb
        intro ι _ f hf
        clear hf
        repeat (go_big_quiet_step (fail))
        refine wpQuiet_nil ?_
        intro Wc hxc
        have e2 := hxc.cell c2
        have fz := ((hxc.box Hcur.out).2 (j * 3 + 2))
        have hgc : g < Wc.heap.size := Nat.lt_of_lt_of_le hgl hxc.size
        refine wpOT_one ?_
        go_wp2_with fail
        refine wpOT_done ?_
        exact G _ ⟨Wc, hxc, rfl⟩
      rintro _ ⟨V, hxv, rfl⟩
      have hsucc := mvTo_succ (X := ⟨x0, x1⟩) (Y := ⟨y0, y1⟩) Hhj.out
      rw [Hmv.out] at hsucc
      have hov := owns_set_c (c := h.c + (M1 + M2)) (Ho.out.ext hxv) (mvTo_get Hhj.out)
      rw [← hsucc] at hov
      have hxn := (Hx.out.trans hxv).setCell (p := ⟨g, j * 3 + 2, none⟩) hg3 (.int .i64 (h.c + (M1 + M2)))
      have Hov := Lib.hid hov
      have Hxn := Lib.hid hxn
      clear hov hxn
      clear hsucc
      go_wp2_with fail
      go_roundw
      case rel => exact ⟨j + 1, by omega, by go_num, Hxn.out, Hov.out⟩
      case measure => simp [intOf]; omega
    · have hltB : decide ((j : Int) < (len : Int)) = false := by simp; omega
      obtain rfl : len = j := by omega
      rw [mvTo_all _ _ _ Hll.out] at ho
      have hev := every_half0 62 (enters_of Tryz.func62 (by kernel_rfl) rfl) (some ⟨g, 0, none⟩) len gc _ (fun h => edgeOk h.c) wr (owns_halves ho) (by omega) (fun h _ W _ => movedFn_any h W)
      rw [← Hfit.out] at hev
      have hxw := Hxw2.out.trans hx
      have Hev := Lib.hid hev
      have Hxw := Lib.hid hxw
      have Ho := Lib.hid ho
      clear hev hxw ho
      clear hx
      go_wp2_with (go_at_call 61; refine Hev.out.mono ?_; rintro e w9 ⟨rfl, hx9⟩)
      exact Hfin.out _ _ (Hxw.out.trans hx9) ((Ho.out.ext hx9).mono (Hxw2.out.size))
end Go.Proofs.YtcoelhpmkhimpaaGreat
