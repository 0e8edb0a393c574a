/- See. -/
import Derived.Test.YtacdndehlkaaeaaVRules
import Derived.Test.YtacdndehlkaaeaaVCheck
namespace Go.Proofs.Ytacdndehlkaaeaa
open Go.RowKit
set_option linter.unusedVariables false
set_option linter.unusedSimpArgs false
def SeePost (l : List Half) (s : Sight) (w : World) (e : Ending) (w' : World) : Prop := ∃ a c, e = .returned (.tuple #[.agg #[.slice a (seeOf l s).1.length c], .int .i64 (seeOf l s).2]) ∧ (seeOf l s).1.length ≤ c ∧ c ≤ maxLen ∧ Ext w w' ∧ HalvesAt w' a (seeOf l s).1.length (seeOf l s).1 ∧ From w.heap.size a
theorem see_none {l : List Half} {s : Sight} {w : World} {k : Int} (h : seeOf l s = ([], k)) (w' : World) (hx : Ext w w') : SeePost l s w (.returned (.tuple #[.agg #[.slice none 0 0], .int .i64 k])) w' := by
  unfold SeePost
  rw [h]
  exact ⟨none, 0, rfl, Nat.le_refl _, Nat.zero_le _, hx, ⟨rfl, fun h => absurd h (by simp)⟩, From.none _⟩
theorem see_all {l m : List Half} {s : Sight} {w : World} (h : seeOf l s = (m, 0)) (w' : World) (a : Option Addr) (n c : Nat) (hn : m.length = n) (h1 : n ≤ c) (h2 : c ≤ maxLen) (hx : Ext w w') (hm : HalvesAt w' a n m) (hf : From w.heap.size a) : SeePost l s w (.returned (.tuple #[.agg #[.slice a n c], .int .i64 0])) w' := by
  unfold SeePost
  rw [h]
  subst hn
  exact ⟨a, c, rfl, h1, h2, hx, hm, hf⟩
theorem Owns.mono {w : World} {B C : Nat} {e : TypeId} {sz : Nat} {v : Value} {rows : List (List Value)} (h : Owns w B e sz v rows) (hc : C ≤ B) : Owns w C e sz v rows := by
  obtain ⟨⟨h0, h1⟩, h2⟩ := h
  refine ⟨⟨h0, ?_⟩, h2⟩
  rcases h1 with h1 | ⟨g, cap, cur, e1, e2, e3⟩
  · exact .inl h1
  · exact .inr ⟨g, cap, cur, e1, Nat.le_trans hc e2, e3⟩
theorem grown_set (W : World) (b i : Nat) (u : Value) : W.grownBy (W.setCell ⟨b, i, none⟩ u) (some b) := ⟨rfl, rfl, rfl, by simp, fun k hk hne => Below.heap_setCell _ _ _ _ fun e => hne (by rw [e])⟩
theorem owns_set {W : World} {base e sz b i : Nat} {v u : Value} {rows : List (List Value)} (h : Owns W base e sz v rows) (hb : b < base) : Owns (W.setCell ⟨b, i, none⟩ u) base e sz v rows := by
  refine h.kept (grown_set W b i u) ?_
  cases ho : v.ownBlock with
  | none => exact .inl rfl
  | some g => exact .inr fun e => by have := (h.lt g ho).1; simp only [Option.some.injEq] at e; omega
/-- the result of See lies in memory of its own -/
def SeeOwn (l : List Half) (s : Sight) (w : World) (e : Ending) (w' : World) : Prop := ∃ v, e = .returned (.tuple #[.agg #[v], .int .i64 (seeOf l s).2]) ∧ Ext w w' ∧ Owns w' w.heap.size 47 3 v (halfRows (seeOf l s).1)
theorem SeeOwn.post {l : List Half} {s : Sight} {w : World} {e : Ending} {w' : World} (h : SeeOwn l s w e w') : SeePost l s w e w' := by
  obtain ⟨v, rfl, hx, ho⟩ := h
  obtain ⟨a, c, rfl, h1, h2, h3, h4⟩ := halves_of_owns ho
  exact ⟨a, c, rfl, h2, h3, hx, h4, h1⟩
theorem seeown_none {l : List Half} {s : Sight} {w : World} {k : Int} (h : seeOf l s = ([], k)) (w' : World) (hx : Ext w w') : SeeOwn l s w (.returned (.tuple #[.agg #[.slice none 0 0], .int .i64 k])) w' := by
  unfold SeeOwn
  rw [h]
  exact ⟨_, rfl, hx, Owns.nil _ _ _ _⟩
theorem seeown_all {l m : List Half} {s : Sight} {w : World} (h : seeOf l s = (m, 0)) (w' : World) (v : Value) (hx : Ext w w') (hm : Owns w' w.heap.size 47 3 v (halfRows m)) : SeeOwn l s w (.returned (.tuple #[.agg #[v], .int .i64 0])) w' := by
  unfold SeeOwn
  rw [h]
  exact ⟨v, rfl, hx, hm⟩
set_option maxRecDepth 100000 in
set_option maxHeartbeats 4000000 in
theorem seeown_any (a : Option Addr) (len cap : Nat) (l : List Half) (s : Sight) (w : World) (hl : HalvesAt w a len l) (hc : len ≤ cap) (hm : cap ≤ maxLen) (h0 : 0 ≤ s.kind) (h1 : s.kind ≤ 255) :
    Calls Try.prog 16 #[.agg #[.slice a len cap], s.val] w (SeeOwn l s w) := by
  have hch := fun W (hW : Ext w W) => check_any a len cap l W (hl.ext hW) (by unfold maxLen at hm; omega)
  have hal := fun W => halves_any s W h0 h1
  have hnone := fun (k : Int) (h : seeOf l s = ([], k)) => seeown_none (w := w) h
  have hsall := fun m (h : seeOf l s = (m, 0)) => seeown_all (w := w) h
  have hhin : sightOk s = true → ∀ k ∈ halvesOf s, HalfIn k := halves_ok
  have hmlen := halves_len s
  have hsee : seeOf l s = if areaOk l = false then ([], 40) else if sightOk s = false then ([], 41) else if 40 < l.length + (halvesOf s).length then ([], 9) else if someB (l ++ halvesOf s) = false then ([], 43) else (l ++ halvesOf s, 0) := rfl
  obtain ⟨Q, hQ⟩ : ∃ Q, SeeOwn l s w = Q := ⟨_, rfl⟩
  unfold HalvesPost at hal
  rw [hQ]
  simp only [hQ] at hnone hsall
  generalize halvesOf s = M at *
  generalize sightOk s = so at *
  generalize seeOf l s = sl at *
  obtain ⟨kd, x, y, fx, fy, tx, ty, nl, nh, far⟩ := s
  unfold Sight.val at hal ⊢
  try simp only at hal ⊢
  clear hQ h0 h1
  unfold checkOf at hch
  have hll := hl.1
  cases hao : areaOk l with
  | false =>
    have hfin := hnone 40 (by rw [hsee, if_pos hao])
    rw [hao] at hch
    simp only [Bool.false_eq_true, if_false] at hch
    have Hch := Lib.hid hch
    have Hfin := Lib.hid hfin
    clear hch hfin
    clear hl hal hnone hsall hsee hhin
    go_enter Try.func16, Try.ntmps16
    go_wp2_with (go_at_call 28; refine (Hch.out _ ((((Ext.refl _).alloc _).alloc _).alloc _)).mono ?_; rintro e w1 ⟨rfl, hx1⟩; have hw1 := ((((Ext.refl w).alloc _).alloc _).alloc _).trans hx1; have hr1 := hx1.heap (alloc_at ((w.alloc (.cells #[.slice a len cap] 24)).alloc (.cells #[.int .u8 kd, .int .i64 x, .int .i64 y, .int .i64 fx, .int .i64 fy, .int .i64 tx, .int .i64 ty, .int .i64 nl, .int .i64 nh, .int .i64 far] 30)) (.cells #[.slice none 0 0] 24) (w.heap.size + 1 + 1) (by simp)); have hs1 := hx1.heap (((Ext.refl _).alloc _).heap (alloc_at (w.alloc (.cells #[.slice a len cap] 24)) (.cells #[.int .u8 kd, .int .i64 x, .int .i64 y, .int .i64 fx, .int .i64 fy, .int .i64 tx, .int .i64 ty, .int .i64 nl, .int .i64 nh, .int .i64 far] 30) (w.heap.size + 1) (by simp))); have ha1 := hx1.heap ((((Ext.refl _).alloc _).alloc _).heap (alloc_at w (.cells #[.slice a len cap] 24) _ rfl)); obtain ⟨f0, _⟩ := (Ext.refl w1).box ha1; obtain ⟨f1, _⟩ := (Ext.refl w1).box hs1; obtain ⟨f2, _⟩ := (Ext.refl w1).box hr1)
    have hsz := hw1.size
    refine bodyPost_ret (results_cell_tmp (P := Try.prog) (fn := Try.f16) rfl _ _ (w.heap.size + 1 + 1) 24 #[.slice none 0 0] (0, 0) _ rfl (by simp only [heap_setCell_box, hr1, Option.map_some, setIn_cells, List.setIfInBounds_toArray, List.set_cons_zero, List.set_cons_succ]) Try.underlying24 rfl (by kernel_rfl)) rfl ?_
    exact Hfin.out _ (hw1.setCell (p := ⟨w.heap.size + 1 + 1, 0, none⟩) (by simp only; omega) _)
  | true =>
    have hA := areaOk_iff.1 hao
    have hlen4 := hA.len
    rw [hll] at hlen4
    rw [hao] at hch
    simp only [if_true] at hch
    cases so with
    | false =>
      have hfin := hnone 41 (by rw [hsee, hao]; rfl)
      have hal : ∀ W, Calls Try.prog 51 _ W fun e w' => e = .returned (.tuple #[.slice none 0 0, .bool false]) ∧ Ext W w' := fun W => (hal W).mono fun e w' h => h.elim (fun h => absurd h.1 (by simp)) (fun h => h.2)
      have Hch := Lib.hid hch
      have Hfin := Lib.hid hfin
      have Hal := Lib.hid hal
      clear hch hfin hal
      clear hl hnone hsall hsee hhin hA
      go_enter Try.func16, Try.ntmps16
      go_wp2_with (first | (go_at_call 28; refine (Hch.out _ ((((Ext.refl _).alloc _).alloc _).alloc _)).mono ?_; rintro e w1 ⟨rfl, hx1⟩; have hw1 := ((((Ext.refl w).alloc _).alloc _).alloc _).trans hx1; have hr1 := hx1.heap (alloc_at ((w.alloc (.cells #[.slice a len cap] 24)).alloc (.cells #[.int .u8 kd, .int .i64 x, .int .i64 y, .int .i64 fx, .int .i64 fy, .int .i64 tx, .int .i64 ty, .int .i64 nl, .int .i64 nh, .int .i64 far] 30)) (.cells #[.slice none 0 0] 24) (w.heap.size + 1 + 1) (by simp)); have hs1 := hx1.heap (((Ext.refl _).alloc _).heap (alloc_at (w.alloc (.cells #[.slice a len cap] 24)) (.cells #[.int .u8 kd, .int .i64 x, .int .i64 y, .int .i64 fx, .int .i64 fy, .int .i64 tx, .int .i64 ty, .int .i64 nl, .int .i64 nh, .int .i64 far] 30) (w.heap.size + 1) (by simp))); have ha1 := hx1.heap ((((Ext.refl _).alloc _).alloc _).heap (alloc_at w (.cells #[.slice a len cap] 24) _ rfl)); obtain ⟨f0, _⟩ := (Ext.refl w1).box ha1; obtain ⟨f1, _⟩ := (Ext.refl w1).box hs1; obtain ⟨f2, _⟩ := (Ext.refl w1).box hr1) | (go_at_call 51; refine (Hal.out _).mono ?_; rintro e w2 ⟨rfl, hx2⟩; have hw2 := hw1.trans hx2; have hr2 := hx2.heap hr1; obtain ⟨g2, _⟩ := (Ext.refl w2).box hr2))
      have hsz := hw2.size
      refine bodyPost_ret (results_cell_tmp (P := Try.prog) (fn := Try.f16) rfl _ _ (w.heap.size + 1 + 1) 24 #[.slice none 0 0] (0, 0) _ rfl (by simp only [heap_setCell_box, hr2, Option.map_some, setIn_cells, List.setIfInBounds_toArray, List.set_cons_zero, List.set_cons_succ]) Try.underlying24 rfl (by kernel_rfl)) rfl ?_
      exact Hfin.out _ (hw2.setCell (p := ⟨w.heap.size + 1 + 1, 0, none⟩) (by simp only; omega) _)
    | true =>
      have hal : ∀ W, Calls Try.prog 51 _ W fun e w' => ∃ a c, e = .returned (.tuple #[.slice a M.length c, .bool true]) ∧ M.length ≤ c ∧ c ≤ maxLen ∧ Ext W w' ∧ HalvesAt w' a M.length M ∧ From W.heap.size a := fun W => (hal W).mono fun e w' h => h.elim (fun h => h.2) (fun h => absurd h.1 (by simp))
      replace hhin := hhin rfl
      obtain ⟨m, hml⟩ : ∃ m, M.length = m := ⟨_, rfl⟩
      rw [hml] at hal hmlen
      by_cases hsum : 40 < len + m
      · have hfin := hnone 9 (by rw [hsee, hao, if_neg (by simp), if_neg (by simp), if_pos (by omega)])
        have hsB : decide ((40 : Int) < (len : Int) + (m : Int)) = true := decide_eq_true (by omega)
        have hsB' : decide (40 < len + m) = true := decide_eq_true hsum
        have Hch := Lib.hid hch
        have Hfin := Lib.hid hfin
        have Hal := Lib.hid hal
        have Hl := Lib.hid hl
        clear hch hfin hal hl
        clear hnone hsall hsee hhin hA
        go_enter Try.func16, Try.ntmps16
        go_wp2_with (first | (go_at_call 28; refine (Hch.out _ ((((Ext.refl _).alloc _).alloc _).alloc _)).mono ?_; rintro e w1 ⟨rfl, hx1⟩; have hw1 := ((((Ext.refl w).alloc _).alloc _).alloc _).trans hx1; have hr1 := hx1.heap (alloc_at ((w.alloc (.cells #[.slice a len cap] 24)).alloc (.cells #[.int .u8 kd, .int .i64 x, .int .i64 y, .int .i64 fx, .int .i64 fy, .int .i64 tx, .int .i64 ty, .int .i64 nl, .int .i64 nh, .int .i64 far] 30)) (.cells #[.slice none 0 0] 24) (w.heap.size + 1 + 1) (by simp)); have hs1 := hx1.heap (((Ext.refl _).alloc _).heap (alloc_at (w.alloc (.cells #[.slice a len cap] 24)) (.cells #[.int .u8 kd, .int .i64 x, .int .i64 y, .int .i64 fx, .int .i64 fy, .int .i64 tx, .int .i64 ty, .int .i64 nl, .int .i64 nh, .int .i64 far] 30) (w.heap.size + 1) (by simp))); have ha1 := hx1.heap ((((Ext.refl _).alloc _).alloc _).heap (alloc_at w (.cells #[.slice a len cap] 24) _ rfl)); obtain ⟨f0, _⟩ := (Ext.refl w1).box ha1; obtain ⟨f1, _⟩ := (Ext.refl w1).box hs1; obtain ⟨f2, _⟩ := (Ext.refl w1).box hr1) | (go_at_call 51; refine (Hal.out _).mono ?_; rintro e w2 ⟨ma, mc, rfl, m1, m2, hx2, hM, _⟩; have hw2 := hw1.trans hx2; have hr2 := hx2.heap hr1; have ha2 := hx2.heap ha1; obtain ⟨g0, _⟩ := (Ext.refl w2).box ha2; obtain ⟨g2, _⟩ := (Ext.refl w2).box hr2; have hl2 := Hl.out.ext hw2))
        have hsz := hw2.size
        refine bodyPost_ret (results_cell_tmp (P := Try.prog) (fn := Try.f16) rfl _ _ (w.heap.size + 1 + 1) 24 #[.slice none 0 0] (0, 0) _ rfl (by simp only [heap_setCell_box, hr2, Option.map_some, setIn_cells, List.setIfInBounds_toArray, List.set_cons_zero, List.set_cons_succ]) Try.underlying24 rfl (by kernel_rfl)) rfl ?_
        exact Hfin.out _ (hw2.setCell (p := ⟨w.heap.size + 1 + 1, 0, none⟩) (by simp only; omega) _)
      · have hsB : decide ((40 : Int) < (len : Int) + (m : Int)) = false := decide_eq_false (by omega)
        have hsB' : decide (40 < len + m) = false := decide_eq_false hsum
        have hso := fun W b (ma : Option Addr) (mc : Nat) (hW : Ext w W) (hM : HalvesAt W ma m M) (h1 : m ≤ mc) (h2 : mc ≤ maxLen) (hb : W.heap[b]? = some (.cells #[.slice a len cap, .slice ma m mc] 22 (0, 0))) => some_any (some ⟨b, 0, none⟩) 2 2 [l, M] W (lists2 hb (hl.ext hW) hM hc hm h1 h2) (by omega) (by simp; omega) (fun h hh => by
          simp only [List.flatten_cons, List.flatten_nil, List.append_nil] at hh
          rcases List.mem_append.1 hh with h' | h'
          · exact hA.each h h'
          · exact hhin h h')
        simp only [List.flatten_cons, List.flatten_nil, List.append_nil] at hso
        cases hsm : someB (l ++ M) with
        | false =>
          have hfin := hnone 43 (by rw [hsee, hao, if_neg (by simp), if_neg (by simp), if_neg (by omega), if_pos hsm])
          rw [hsm] at hso
          have Hch := Lib.hid hch
          have Hfin := Lib.hid hfin
          have Hal := Lib.hid hal
          have Hl := Lib.hid hl
          have Hso := Lib.hid hso
          clear hch hfin hal hl hso
          clear hnone hsall hsee hhin hA
          go_enter Try.func16, Try.ntmps16
          go_wp2_with (first | (go_at_call 28; refine (Hch.out _ ((((Ext.refl _).alloc _).alloc _).alloc _)).mono ?_; rintro e w1 ⟨rfl, hx1⟩; have hw1 := ((((Ext.refl w).alloc _).alloc _).alloc _).trans hx1; have hr1 := hx1.heap (alloc_at ((w.alloc (.cells #[.slice a len cap] 24)).alloc (.cells #[.int .u8 kd, .int .i64 x, .int .i64 y, .int .i64 fx, .int .i64 fy, .int .i64 tx, .int .i64 ty, .int .i64 nl, .int .i64 nh, .int .i64 far] 30)) (.cells #[.slice none 0 0] 24) (w.heap.size + 1 + 1) (by simp)); have hs1 := hx1.heap (((Ext.refl _).alloc _).heap (alloc_at (w.alloc (.cells #[.slice a len cap] 24)) (.cells #[.int .u8 kd, .int .i64 x, .int .i64 y, .int .i64 fx, .int .i64 fy, .int .i64 tx, .int .i64 ty, .int .i64 nl, .int .i64 nh, .int .i64 far] 30) (w.heap.size + 1) (by simp))); have ha1 := hx1.heap ((((Ext.refl _).alloc _).alloc _).heap (alloc_at w (.cells #[.slice a len cap] 24) _ rfl)); obtain ⟨f0, _⟩ := (Ext.refl w1).box ha1; obtain ⟨f1, _⟩ := (Ext.refl w1).box hs1; obtain ⟨f2, _⟩ := (Ext.refl w1).box hr1; clear Hch) | (go_at_call 51; refine (Hal.out _).mono ?_; rintro e w2 ⟨ma, mc, rfl, m1, m2, hx2, hM, _⟩; have hw2 := hw1.trans hx2; have hr2 := hx2.heap hr1; have ha2 := hx2.heap ha1; obtain ⟨g0, _⟩ := (Ext.refl w2).box ha2; obtain ⟨g2, _⟩ := (Ext.refl w2).box hr2; have hl2 := Hl.out.ext hw2) | (go_at_call 52; refine (Hso.out _ _ ma mc (hw2.alloc _) (hM.ext ((Ext.refl _).alloc _)) m1 m2 (alloc_at _ _ _ rfl)).mono ?_; rintro e w3 ⟨rfl, hx3⟩; have hw3 := (hw2.alloc _).trans hx3; have hr3 := hx3.heap (((Ext.refl _).alloc _).heap hr2); have ha3 := hx3.heap (((Ext.refl _).alloc _).heap ha2); obtain ⟨k0, _⟩ := (Ext.refl w3).box ha3; obtain ⟨k2, _⟩ := (Ext.refl w3).box hr3; have hlt3 := heap_lt ha3; have hlr3 := heap_lt hr3; have hM3 := hM.ext (((Ext.refl _).alloc _).trans hx3); have hl3 := hl2.ext (((Ext.refl _).alloc _).trans hx3)))
          have hsz := hw3.size
          refine bodyPost_ret (results_cell_tmp (P := Try.prog) (fn := Try.f16) rfl _ _ (w.heap.size + 1 + 1) 24 #[.slice none 0 0] (0, 0) _ rfl (by simp only [heap_setCell_box, hr3, Option.map_some, setIn_cells, List.setIfInBounds_toArray, List.set_cons_zero, List.set_cons_succ]) Try.underlying24 rfl (by kernel_rfl)) rfl ?_
          exact Hfin.out _ (hw3.setCell (p := ⟨w.heap.size + 1 + 1, 0, none⟩) (by simp only; omega) _)
        | true =>
          have hfin := hsall (l ++ M) (by rw [hsee, hao, if_neg (by simp), if_neg (by simp), if_neg (by omega), if_neg (by rw [hsm]; simp)])
          rw [hsm] at hso
          have hrl : (halfRows l).length = len := by rw [halfRows_len]; exact hll
          have hrm : (halfRows M).length = m := by rw [halfRows_len]; exact hml
          have hsl : SlAt w 3 a len (fun k => (halfRows l).getD k []) := hl.src
          have Hch := Lib.hid hch
          have Hfin := Lib.hid hfin
          have Hal := Lib.hid hal
          have Hl := Lib.hid hl
          have Hso := Lib.hid hso
          have Hrl := Lib.hid hrl
          have Hrm := Lib.hid hrm
          have Hsl := Lib.hid hsl
          have Hml := Lib.hid hml
          have Hll := Lib.hid hll
          clear hch hfin hal hl hso hrl hrm hsl hml hll
          clear hnone hsall hsee hhin hA
          go_enter Try.func16, Try.ntmps16
          go_wp2_with (first | (go_at_call 28; refine (Hch.out _ ((((Ext.refl _).alloc _).alloc _).alloc _)).mono ?_; rintro e w1 ⟨rfl, hx1⟩; have hw1 := ((((Ext.refl w).alloc _).alloc _).alloc _).trans hx1; have hr1 := hx1.heap (alloc_at ((w.alloc (.cells #[.slice a len cap] 24)).alloc (.cells #[.int .u8 kd, .int .i64 x, .int .i64 y, .int .i64 fx, .int .i64 fy, .int .i64 tx, .int .i64 ty, .int .i64 nl, .int .i64 nh, .int .i64 far] 30)) (.cells #[.slice none 0 0] 24) (w.heap.size + 1 + 1) (by simp)); have hs1 := hx1.heap (((Ext.refl _).alloc _).heap (alloc_at (w.alloc (.cells #[.slice a len cap] 24)) (.cells #[.int .u8 kd, .int .i64 x, .int .i64 y, .int .i64 fx, .int .i64 fy, .int .i64 tx, .int .i64 ty, .int .i64 nl, .int .i64 nh, .int .i64 far] 30) (w.heap.size + 1) (by simp))); have ha1 := hx1.heap ((((Ext.refl _).alloc _).alloc _).heap (alloc_at w (.cells #[.slice a len cap] 24) _ rfl)); obtain ⟨f0, _⟩ := (Ext.refl w1).box ha1; obtain ⟨f1, _⟩ := (Ext.refl w1).box hs1; obtain ⟨f2, _⟩ := (Ext.refl w1).box hr1; clear Hch) | (go_at_call 51; refine (Hal.out _).mono ?_; rintro e w2 ⟨ma, mc, rfl, m1, m2, hx2, hM, _⟩; have hw2 := hw1.trans hx2; have hr2 := hx2.heap hr1; have ha2 := hx2.heap ha1; obtain ⟨g0, _⟩ := (Ext.refl w2).box ha2; obtain ⟨g2, _⟩ := (Ext.refl w2).box hr2; have hl2 := Hl.out.ext hw2) | (go_at_call 52; refine (Hso.out _ _ ma mc (hw2.alloc _) (hM.ext ((Ext.refl _).alloc _)) m1 m2 (alloc_at _ _ _ rfl)).mono ?_; rintro e w3 ⟨rfl, hx3⟩; have hw3 := (hw2.alloc _).trans hx3; have hr3 := hx3.heap (((Ext.refl _).alloc _).heap hr2); have ha3 := hx3.heap (((Ext.refl _).alloc _).heap ha2); obtain ⟨k0, _⟩ := (Ext.refl w3).box ha3; obtain ⟨k2, _⟩ := (Ext.refl w3).box hr3; have hlt3 := heap_lt ha3; have hlr3 := heap_lt hr3; have hM3 := hM.ext (((Ext.refl _).alloc _).trans hx3); have hl3 := hl2.ext (((Ext.refl _).alloc _).trans hx3)) | (at_builtin; refine wpList_app elem22 _ rfl (.tmp 41) (.tmp 43) rfl w3.heap.size _ (halfRows []) rfl (Owns.empty' (alloc_at _ _ _ rfl) (Nat.le_refl _) rfl (by decide)) a len cap (halfRows l) rfl Hrl.out (Hsl.out.ext (hw3.alloc _)) (halfRows_row _) ?_ ?_ ?_))
          · show 0 + len ≤ 1000000000
            omega
          · simp
          intro v4 w4 ho4 hg4 _
          rw [show halfRows [] ++ halfRows l = halfRows l from rfl] at ho4
          have hx4 : Ext w3 w4 := ((Ext.refl w3).alloc _).app (Owns.empty' (sz := 3) (cap := 0) (alloc_at _ _ _ rfl) (Nat.le_refl _) rfl (by decide)) hg4
          obtain ⟨va4, vc4, hv4, _, _, _, _⟩ := ho4.slAt
          subst hv4
          have hM4 := (hM3.ext hx4).src
          have Ho4 := Lib.hid ho4
          have Hx4 := Lib.hid hx4
          have HM4 := Lib.hid hM4
          clear ho4 hx4 hM4
          clear hg4 k0 k2
          go_wp2_with (at_builtin; refine wpList_app elem22 _ rfl (.tmp 44) (.tmp 45) rfl w3.heap.size _ (halfRows l) rfl Ho4.out ma m mc (halfRows M) rfl Hrm.out HM4.out (halfRows_row _) ?_ ?_ ?_)
          · rw [Hrl.out]
            omega
          · exact Hx4.out.size
          intro v5 w5 ho5 hg5 _
          rw [← halfRows_append] at ho5
          have hx5 := Hx4.out.app Ho4.out hg5
          obtain ⟨a5, c5, hv5, hf5, hc5, hm5, hM5⟩ := halves_of_owns ho5
          obtain ⟨N, hN⟩ : ∃ N, (l ++ M).length = N := ⟨_, rfl⟩
          rw [hN] at hv5 hc5 hM5
          subst hv5
          have hr5 := hx5.heap hr3
          obtain ⟨q2, _⟩ := (Ext.refl w5).box hr5
          have hw5 := hw3.trans hx5
          have hlw := heap_lt hr3
          have Ho5 := Lib.hid ho5
          have HM5 := Lib.hid hM5
          have Hw5 := Lib.hid hw5
          clear ho5 hM5 hw5
          clear hg5
          go_wp2_with fail
          refine bodyPost_ret (results_cell_tmp (P := Try.prog) (fn := Try.f16) rfl _ _ (w.heap.size + 1 + 1) 24 #[.slice a5 N c5] (0, 0) _ rfl (by simp only [heap_setCell_box, hr5, Option.map_some, setIn_cells, List.setIfInBounds_toArray, List.set_cons_zero, List.set_cons_succ]) Try.underlying24 rfl (by kernel_rfl)) rfl ?_
          have hsz := Hw5.out.size
          exact Hfin.out _ _ (Hw5.out.setCell (p := ⟨w.heap.size + 1 + 1, 0, none⟩) (by simp only; omega) _) ((owns_set Ho5.out hlr3).mono hw3.size)
theorem see_any (a : Option Addr) (len cap : Nat) (l : List Half) (s : Sight) (w : World) (hl : HalvesAt w a len l) (hc : len ≤ cap) (hm : cap ≤ maxLen) (h0 : 0 ≤ s.kind) (h1 : s.kind ≤ 255) :
    Calls Try.prog 16 #[.agg #[.slice a len cap], s.val] w (SeePost l s w) := (seeown_any a len cap l s w hl hc hm h0 h1).mono fun _ _ h => h.post
end Go.Proofs.Ytacdndehlkaaeaa
