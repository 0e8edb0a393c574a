/- A leg of 2 to 3 days, and an animal that lasts 10: beast, path, alive03. -/
import Derived.Test.YtcoelhpmkhimpaaGreatVDaysC
import Derived.Test.YtcoelhpmkhimpaaGreatVGk
import Derived.Test.YtcoelhpmkhimpaaGreatVGb
namespace Go.Proofs.YtcoelhpmkhimpaaGreat
open Go.RowKit
set_option linter.unusedVariables false
set_option linter.unusedSimpArgs false
theorem flat_get {sz : Nat} : ∀ (rows : List (List Value)), (∀ r ∈ rows, r.length = sz) → ∀ (k j : Nat), j < sz → rows.flatten[k * sz + j]? = (rows[k]?.bind fun r => r[j]?)
  | [], _, k, j, _ => by simp
  | r :: rows, h, 0, j, hj => by
    have hr := h r (List.mem_cons_self ..)
    simp only [List.flatten_cons, Nat.zero_mul, Nat.zero_add, List.getElem?_cons_zero, Option.bind_some]
    rw [List.getElem?_append_left (by omega)]
  | r :: rows, h, k + 1, j, hj => by
    have hr := h r (List.mem_cons_self ..)
    have ih := flat_get rows (fun r hr => h r (List.mem_cons_of_mem _ hr)) k j hj
    simp only [List.flatten_cons, List.getElem?_cons_succ]
    rw [List.getElem?_append_right (by rw [hr, Nat.succ_mul]; omega), hr, show (k + 1) * sz + j - sz = k * sz + j by rw [Nat.succ_mul]; omega]
    exact ih
theorem slAt_block {w : World} {b : Nat} {t : TypeId} {sz : Nat} {rows : List (List Value)} (hb : w.heap[b]? = some (.cells rows.flatten.toArray t (0, 0))) (hr : ∀ r ∈ rows, r.length = sz) : SlAt w sz (some ⟨b, 0, none⟩) rows.length (fun i => rows.getD i []) := by
  intro _
  refine ⟨b, 0, rfl, fun k hk j v hv => ?_⟩
  have hrow : (rows.getD k []).length = sz := by
    simp only [List.getD, List.getElem?_eq_getElem hk, Option.getD_some]
    exact hr _ (List.getElem_mem hk)
  have hj : j < sz := by
    rw [← hrow]
    exact (List.getElem?_eq_some_iff.1 hv).1
  rw [((Ext.refl w).box hb).1, Nat.zero_add, List.getElem?_toArray, flat_get rows hr k j hj]
  simp only [List.getD, List.getElem?_eq_getElem hk, Option.getD_some, Option.bind_some] at hv ⊢
  exact hv
theorem results_cell_cell {P : Program} {fn : Func} {p q : Tmp} {ty ty' : TypeId} (h : fn.results = #[.cell p ty, .cell q ty']) (tmps : Array Value) (w : World) (g g' : Nat) (T T' : TypeId) (cs cs' : Array Value) (fr fr' : Nat × Nat) (d d' : TypeDesc)
    (hp : tmps.getD p undef = .pointer (some ⟨g, 0, none⟩)) (hg : w.heap[g]? = some (.cells cs T fr))
    (hu : P.underlying ty = some d) (hd : (match d with | .struct _ | .array _ _ => true | _ => false) = true) (hi : (P.info? ty).map (·.size) = some cs.size)
    (hp' : tmps.getD q undef = .pointer (some ⟨g', 0, none⟩)) (hg' : w.heap[g']? = some (.cells cs' T' fr'))
    (hu' : P.underlying ty' = some d') (hd' : (match d' with | .struct _ | .array _ _ => true | _ => false) = true) (hi' : (P.info? ty').map (·.size) = some cs'.size) :
    (results fn tmps).run P w = .ok (.tuple #[.agg cs, .agg cs']) w := by
  have h1 : tmps[p]?.getD undef = .pointer (some ⟨g, 0, none⟩) := by simpa using hp
  have h2 : tmps[q]?.getD undef = .pointer (some ⟨g', 0, none⟩) := by simpa using hp'
  simp [results, h, h1, h2, asAddr, run_loadVar_row w g T ty cs fr d hg hu hd hi, run_loadVar_row w g' T' ty' cs' fr' d' hg' hu' hd' hi']
def exBreed : Breed := ⟨100, 10, ⟨10, 10⟩, ⟨0, 0⟩, ⟨0, 0⟩, ⟨0, 0⟩, ⟨0, 0⟩, ⟨0, 0⟩, 0, ⟨50, 50⟩⟩
def exCamel : Camel := ⟨⟨100, 100⟩, ⟨10, 10⟩, ⟨0, 0⟩, false⟩
def exHour : March := ⟨1, 0, ⟨0, 0⟩, ⟨0, 0⟩, ⟨0, 0⟩⟩
def exLand : Land := ⟨[zw, ⟨30, 0, 0, ⟨5, 5⟩, 100, ⟨0, 0⟩, 0⟩], [⟨0, 1, ⟨20, 30⟩, [⟨⟨0, 0⟩, ⟨99, 99⟩⟩]⟩]⟩
theorem exA_days : wdaysErr exLand 0 ⟨10, 10⟩ = 0 ∧ wdaysVal exLand 0 ⟨10, 10⟩ = ⟨2, 3⟩ := by decide +kernel
theorem exA_lasts : lastsVal exBreed exCamel exHour = (⟨10, 10⟩, 0) := by decide +kernel
theorem exA_ask : askDays exBreed exCamel (List.replicate 3 zday) = 0 := by decide +kernel
def exAfter (k : Int) : Camel := ⟨⟨100 - 10 * k, 100 - 10 * k⟩, ⟨10, 10⟩, ⟨0, 0⟩, false⟩
theorem exA_lives : daysOf exBreed exCamel (List.replicate 3 zday) = some ([exAfter 1, exAfter 2, exAfter 3], 0) := by decide +kernel
set_option maxRecDepth 100000 in
theorem beast_any (w : World) : Calls Tryz.prog 49 #[] w fun e w' => e = .returned (.tuple #[exBreed.val, exCamel.val]) ∧ Ext w w' := by
  have hsp := stretch_any
  obtain ⟨W0, hW0⟩ : ∃ W0, (w.alloc (.cells #[.int .i64 0, .int .i64 0, .int .i64 0, .int .i64 0, .int .i64 0, .int .i64 0, .int .i64 0, .int .i64 0, .int .i64 0, .int .i64 0, .int .i64 0, .int .i64 0, .int .i64 0, .int .i64 0, .int .i64 0, .int .i64 0, .int .i64 0] 29)).alloc (.cells #[.int .i64 0, .int .i64 0, .int .i64 0, .int .i64 0, .int .i64 0, .int .i64 0, .bool false] 31) = W0 := ⟨_, rfl⟩
  have hx0 : Ext w W0 := by rw [← hW0]; exact ((Ext.refl w).alloc _).alloc _
  have hb0 : W0.heap[w.heap.size]? = some (.cells #[.int .i64 0, .int .i64 0, .int .i64 0, .int .i64 0, .int .i64 0, .int .i64 0, .int .i64 0, .int .i64 0, .int .i64 0, .int .i64 0, .int .i64 0, .int .i64 0, .int .i64 0, .int .i64 0, .int .i64 0, .int .i64 0, .int .i64 0] 29 (0, 0)) := by rw [← hW0]; exact alloc_heap (heap_alloc_new w _) _
  have hb1 : W0.heap[w.heap.size + 1]? = some (.cells #[.int .i64 0, .int .i64 0, .int .i64 0, .int .i64 0, .int .i64 0, .int .i64 0, .bool false] 31 (0, 0)) := by rw [← hW0]; exact alloc_at _ _ _ (by simp)
  have Hsp := Lib.hid hsp
  have Hx0 := Lib.hid hx0
  have Hb0 := Lib.hid hb0
  have Hb1 := Lib.hid hb1
  clear hsp hx0 hb0 hb1
  have gg1 := trivial
  have gg2 := trivial
  have gg3 := trivial
  go_enter Tryz.func49, Tryz.ntmps49
  go_wp2_with (first
    | (go_at_call 11; (have q := gg1; clear q gg1); refine (Hsp.out _ _ _).mono ?_; rintro e w1 ⟨rfl, hx1⟩; have hy1 := Ext.trans (Ext.refl W0) hx1)
    | (go_at_call 11; (have q := gg2; clear q gg2); refine (Hsp.out _ _ _).mono ?_; rintro e w2 ⟨rfl, hx2⟩; have hy2 := hy1.trans hx2)
    | (go_at_call 11; (have q := gg3; clear q gg3); refine (Hsp.out _ _ _).mono ?_; rintro e w3 ⟨rfl, hx3⟩; have hy3 := hy2.trans hx3)
    | (go_at_call 11; refine (Hsp.out _ _ _).mono ?_; rintro e w4 ⟨rfl, hx4⟩; have hy4 := hy3.trans hx4; have hb04 := hy4.heap Hb0.out; have hb14 := hy4.heap Hb1.out)
    | (refine wpList_store_row rfl 29 (.tmp 0) (.tmp 4) rfl w.heap.size exBreed.cells.toArray rfl rfl 29 _ hb04 (by kernel_rfl) (by kernel_rfl) (by kernel_rfl) ?_; have hb05 := setRow_heap w4 w.heap.size _ exBreed.cells.toArray 29 (0, 0) hb04; have hb15 := (setRow_other w4 w.heap.size (w.heap.size + 1) exBreed.cells.toArray (by omega)).trans hb14; have hx5 := below_setRow (Hx0.out.trans hy4) (Nat.le_refl _) exBreed.cells.toArray)
    | (refine wpList_store_row rfl 31 (.tmp 1) (.tmp 7) rfl (w.heap.size + 1) exCamel.cells.toArray rfl rfl 31 _ hb15 (by kernel_rfl) (by kernel_rfl) (by kernel_rfl) ?_))
  have hb06 := (setRow_other (w4.setRow w.heap.size exBreed.cells.toArray) (w.heap.size + 1) w.heap.size exCamel.cells.toArray (by omega)).trans hb05
  have hb16 := setRow_heap (w4.setRow w.heap.size exBreed.cells.toArray) (w.heap.size + 1) _ exCamel.cells.toArray 31 (0, 0) hb15
  have hx6 := below_setRow hx5 (show w.heap.size ≤ w.heap.size + 1 by omega) exCamel.cells.toArray
  refine bodyPost_ret (results_cell_cell (P := Tryz.prog) (fn := Tryz.f49) rfl _ _ w.heap.size (w.heap.size + 1) 29 31 exBreed.cells.toArray exCamel.cells.toArray (0, 0) (0, 0) _ _ rfl hb06 Tryz.underlying29 rfl (by kernel_rfl) rfl hb16 Tryz.underlying31 rfl (by kernel_rfl)) rfl ?_
  exact ⟨rfl, hx6⟩
def wellRows (l : List Well) : List (List Value) := l.map Well.cells
theorem wells_block {W : World} {b : Nat} {t : TypeId} {n : Nat} (l : List Well) (hn : l.length = n) (hb : W.heap[b]? = some (.cells (wellRows l).flatten.toArray t (0, 0))) : WellsAt W (some ⟨b, 0, none⟩) n l := by
  subst hn
  have h := slAt_block (rows := wellRows l) (sz := 9) hb (fun r hr => by obtain ⟨s, _, rfl⟩ := List.mem_map.1 hr; rfl)
  rw [show (wellRows l).length = l.length by simp [wellRows]] at h
  exact ⟨rfl, h.congr fun i hi => by simp [wellRows, List.getD, List.getElem?_map, List.getElem?_eq_getElem hi]⟩
def gateRows (l : List Gate) : List (List Value) := l.map Gate.cells
theorem gates_block {W : World} {b : Nat} {t : TypeId} {n : Nat} (l : List Gate) (hn : l.length = n) (hb : W.heap[b]? = some (.cells (gateRows l).flatten.toArray t (0, 0))) : GatesAt W (some ⟨b, 0, none⟩) n l := by
  subst hn
  have h := slAt_block (rows := gateRows l) (sz := 4) hb (fun r hr => by obtain ⟨s, _, rfl⟩ := List.mem_map.1 hr; rfl)
  rw [show (gateRows l).length = l.length by simp [gateRows]] at h
  exact ⟨rfl, h.congr fun i hi => by simp [gateRows, List.getD, List.getElem?_map, List.getElem?_eq_getElem hi]⟩
theorem legs_one {W : World} {b gb : Nat} {t : TypeId} {f : Leg} {n : Nat} (hb : W.heap[b]? = some (.cells #[.int .i64 f.frm, .int .i64 f.to, .int .i64 f.long.lo, .int .i64 f.long.hi, .slice (some ⟨gb, 0, none⟩) n n] t (0, 0))) (hg : GatesAt W (some ⟨gb, 0, none⟩) n f.gates) (hn : n ≤ maxLen) : LegsAt W (some ⟨b, 0, none⟩) 1 [f] := by
  refine ⟨rfl, fun _ => ⟨b, 0, rfl, fun k x hx => ?_⟩⟩
  obtain rfl : k = 0 := by have := (List.getElem?_eq_some_iff.1 hx).1; simp at this; omega
  obtain rfl : f = x := by simpa using hx
  refine ⟨some ⟨gb, 0, none⟩, n, n, fun j v hv => ?_, Nat.le_refl _, hn, hg⟩
  rw [((Ext.refl W).box hb).1]
  simpa using hv
def PathPost (w : World) (e : Ending) (w' : World) : Prop := ∃ wb lb, e = .returned (.agg #[.slice (some ⟨wb, 0, none⟩) 2 2, .slice (some ⟨lb, 0, none⟩) 1 1]) ∧ LandAt w' (some ⟨wb, 0, none⟩) 2 2 (some ⟨lb, 0, none⟩) 1 1 exLand ∧ lb < w'.heap.size ∧ Ext w w'
set_option maxRecDepth 100000 in
theorem path_any (w : World) : Calls Tryz.prog 51 #[] w (PathPost w) := by
  have hsp := stretch_any
  have hx0 : Ext w (w.alloc (.cells #[.slice none 0 0, .slice none 0 0] 57)) := (Ext.refl w).alloc _
  have hb0 := heap_alloc_new w (.cells #[.slice none 0 0, .slice none 0 0] 57)
  obtain ⟨W0, hW0⟩ : ∃ W0, w.alloc (.cells #[.slice none 0 0, .slice none 0 0] 57) = W0 := ⟨_, rfl⟩
  rw [hW0] at hx0 hb0
  have Hsp := Lib.hid hsp
  have Hx0 := Lib.hid hx0
  have Hb0 := Lib.hid hb0
  clear hsp hx0 hb0
  have gg1 := trivial
  have gg2 := trivial
  go_enter Tryz.func51, Tryz.ntmps51
  go_wp2_with (first
    | (go_at_call 11; (have q := gg1; clear q gg1); refine (Hsp.out _ _ _).mono ?_; rintro e w1 ⟨rfl, hx1⟩)
    | (go_at_call 11; (have q := gg2; clear q gg2); refine (Hsp.out _ _ _).mono ?_; rintro e w2 ⟨rfl, hx2⟩)
    | (go_at_call 11; refine (Hsp.out _ _ _).mono ?_; rintro e w3 ⟨rfl, hx3⟩; have hb3 := hx3.heap (hx2.heap (alloc_heap (hx1.heap Hb0.out) _)); have hw3 := hx3.heap (hx2.heap (heap_alloc_new w1 _)); have hy3 := Hx0.out.trans (((hx1.alloc _).trans hx2).trans hx3))
    | (refine wpList_store_row rfl 57 (.tmp 0) (.tmp 11) rfl w.heap.size #[.slice (some ⟨w1.heap.size, 0, none⟩) 2 2, .slice (some ⟨w3.heap.size + 1, 0, none⟩) 1 1] rfl rfl 57 _ (alloc_heap (alloc_heap hb3 _) _) (by kernel_rfl) (by kernel_rfl) (by kernel_rfl) ?_))
  have hwl := heap_lt hw3
  have hbl := heap_lt hb3
  have hg4 : ((w3.alloc (.cells #[.int .i64 0, .int .i64 0, .int .i64 99, .int .i64 99] 137)).alloc (.cells #[.int .i64 0, .int .i64 1, .int .i64 20, .int .i64 30, .slice (some ⟨w3.heap.size, 0, none⟩) 1 1] 101)).heap[w3.heap.size]? = some (.cells #[.int .i64 0, .int .i64 0, .int .i64 99, .int .i64 99] 137 (0, 0)) := alloc_heap (heap_alloc_new w3 _) _
  have hl4 : ((w3.alloc (.cells #[.int .i64 0, .int .i64 0, .int .i64 99, .int .i64 99] 137)).alloc (.cells #[.int .i64 0, .int .i64 1, .int .i64 20, .int .i64 30, .slice (some ⟨w3.heap.size, 0, none⟩) 1 1] 101)).heap[w3.heap.size + 1]? = some (.cells #[.int .i64 0, .int .i64 1, .int .i64 20, .int .i64 30, .slice (some ⟨w3.heap.size, 0, none⟩) 1 1] 101 (0, 0)) := alloc_at _ _ _ (by simp)
  have hw4 : ((w3.alloc (.cells #[.int .i64 0, .int .i64 0, .int .i64 99, .int .i64 99] 137)).alloc (.cells #[.int .i64 0, .int .i64 1, .int .i64 20, .int .i64 30, .slice (some ⟨w3.heap.size, 0, none⟩) 1 1] 101)).heap[w1.heap.size]? = some (.cells #[.int .i64 0, .int .i64 0, .int .i64 0, .int .i64 0, .int .i64 0, .int .i64 0, .int .i64 0, .int .i64 0, .int .i64 0, .int .i64 30, .int .i64 0, .int .i64 0, .int .i64 5, .int .i64 5, .int .i64 100, .int .i64 0, .int .i64 0, .int .i64 0] 62 (0, 0)) := alloc_heap (alloc_heap hw3 _) _
  have hb4 : ((w3.alloc (.cells #[.int .i64 0, .int .i64 0, .int .i64 99, .int .i64 99] 137)).alloc (.cells #[.int .i64 0, .int .i64 1, .int .i64 20, .int .i64 30, .slice (some ⟨w3.heap.size, 0, none⟩) 1 1] 101)).heap[w.heap.size]? = some (.cells #[.slice none 0 0, .slice none 0 0] 57 (0, 0)) := alloc_heap (alloc_heap hb3 _) _
  have hy4 : Ext w ((w3.alloc (.cells #[.int .i64 0, .int .i64 0, .int .i64 99, .int .i64 99] 137)).alloc (.cells #[.int .i64 0, .int .i64 1, .int .i64 20, .int .i64 30, .slice (some ⟨w3.heap.size, 0, none⟩) 1 1] 101)) := (hy3.alloc _).alloc _
  have hwq : w.heap.size < w1.heap.size := Nat.lt_of_lt_of_le (heap_lt Hb0.out) hx1.size
  generalize ((w3.alloc (.cells #[.int .i64 0, .int .i64 0, .int .i64 99, .int .i64 99] 137)).alloc (.cells #[.int .i64 0, .int .i64 1, .int .i64 20, .int .i64 30, .slice (some ⟨w3.heap.size, 0, none⟩) 1 1] 101)) = W5 at *
  have hb5 := setRow_heap W5 w.heap.size _ #[.slice (some ⟨w1.heap.size, 0, none⟩) 2 2, .slice (some ⟨w3.heap.size + 1, 0, none⟩) 1 1] 57 (0, 0) hb4
  have hl5 := (setRow_other W5 w.heap.size (w3.heap.size + 1) #[.slice (some ⟨w1.heap.size, 0, none⟩) 2 2, .slice (some ⟨w3.heap.size + 1, 0, none⟩) 1 1] (by omega)).trans hl4
  have hg5 := (setRow_other W5 w.heap.size w3.heap.size #[.slice (some ⟨w1.heap.size, 0, none⟩) 2 2, .slice (some ⟨w3.heap.size + 1, 0, none⟩) 1 1] (by omega)).trans hg4
  have hw5 := (setRow_other W5 w.heap.size w1.heap.size #[.slice (some ⟨w1.heap.size, 0, none⟩) 2 2, .slice (some ⟨w3.heap.size + 1, 0, none⟩) 1 1] (by omega)).trans hw4
  have hx5 := below_setRow hy4 (Nat.le_refl _) #[.slice (some ⟨w1.heap.size, 0, none⟩) 2 2, .slice (some ⟨w3.heap.size + 1, 0, none⟩) 1 1]
  refine bodyPost_ret (results_cell_row rfl _ _ w.heap.size 57 #[.slice (some ⟨w1.heap.size, 0, none⟩) 2 2, .slice (some ⟨w3.heap.size + 1, 0, none⟩) 1 1] (0, 0) _ rfl hb5 Tryz.underlying57 rfl (by kernel_rfl)) rfl ?_
  exact ⟨w1.heap.size, w3.heap.size + 1, rfl, ⟨wells_block exLand.wells rfl hw5, legs_one (f := ⟨0, 1, ⟨20, 30⟩, [⟨⟨0, 0⟩, ⟨99, 99⟩⟩]⟩) hl5 (gates_block [⟨⟨0, 0⟩, ⟨99, 99⟩⟩] rfl hg5) (by decide), by omega, by decide, by omega, by decide, by omega, by omega⟩, heap_lt hl5, hx5⟩
def oDays3 : Obj := .cells (dayRows (List.replicate 3 zday)).flatten.toArray 33
theorem mk48c : ∀ w, (Instr.makeSlice 92 (.int .i64 3) (.int .i64 3)).run Tryz.prog w = .ok (.slice (some ⟨w.heap.size, 0, none⟩) 3 3) (w.alloc oDays3) := fun _ => by kernel_rfl
theorem days_block {W : World} {b : Nat} {t : TypeId} {n : Nat} (l : List March) (hn : l.length = n) (hb : W.heap[b]? = some (.cells (dayRows l).flatten.toArray t (0, 0))) : DaysAt W (some ⟨b, 0, none⟩) n l := by
  subst hn
  have h := slAt_block (rows := dayRows l) (sz := 8) hb (fun r hr => by obtain ⟨s, _, rfl⟩ := List.mem_map.1 hr; rfl)
  rw [show (dayRows l).length = l.length by simp [dayRows]] at h
  exact ⟨rfl, h.congr fun i hi => by simp [dayRows, List.getD, List.getElem?_map, List.getElem?_eq_getElem hi]⟩
theorem zDays3_at (w : World) : DaysAt (w.alloc oDays3) (some ⟨w.heap.size, 0, none⟩) 3 (List.replicate 3 zday) := days_block _ (by simp) (heap_alloc_new w oDays3)
theorem exBeast_any (w : World) : Calls Tryz.prog 49 #[] w fun e w' => e = .returned (.tuple #[.agg #[.int .i64 100, .int .i64 10, .int .i64 10, .int .i64 10, .int .i64 0, .int .i64 0, .int .i64 0, .int .i64 0, .int .i64 0, .int .i64 0, .int .i64 0, .int .i64 0, .int .i64 0, .int .i64 0, .int .i64 0, .int .i64 50, .int .i64 50], .agg #[.int .i64 100, .int .i64 100, .int .i64 10, .int .i64 10, .int .i64 0, .int .i64 0, .bool false]]) ∧ Ext w w' := beast_any w
theorem exDays_any (wb lb : Nat) (W : World) (h : LandAt W (some ⟨wb, 0, none⟩) 2 2 (some ⟨lb, 0, none⟩) 1 1 exLand) : Calls Tryz.prog 50 #[.agg #[.slice (some ⟨wb, 0, none⟩) 2 2, .slice (some ⟨lb, 0, none⟩) 1 1], .int .i64 0, .agg #[.int .i64 10, .int .i64 10]] W fun e w' => e = .returned (.tuple #[.agg #[.int .i64 2, .int .i64 3], .int .i64 0]) ∧ Ext W w' :=
  (wdays_any _ _ _ _ _ _ exLand 0 ⟨10, 10⟩ W h).mono fun e w' ⟨h1, h2⟩ => by
    rw [exA_days.1, exA_days.2] at h1
    exact ⟨h1, h2⟩
theorem exLasts_any (W : World) : Calls Tryz.prog 14 #[.agg #[.int .i64 100, .int .i64 10, .int .i64 10, .int .i64 10, .int .i64 0, .int .i64 0, .int .i64 0, .int .i64 0, .int .i64 0, .int .i64 0, .int .i64 0, .int .i64 0, .int .i64 0, .int .i64 0, .int .i64 0, .int .i64 50, .int .i64 50], .agg #[.int .i64 100, .int .i64 100, .int .i64 10, .int .i64 10, .int .i64 0, .int .i64 0, .bool false], .agg #[.int .i64 1, .int .i64 0, .int .i64 0, .int .i64 0, .int .i64 0, .int .i64 0, .int .i64 0, .int .i64 0]] W fun e w' => e = .returned (.tuple #[.agg #[.int .i64 10, .int .i64 10], .int .i64 0]) ∧ Ext W w' :=
  (lasts_any exBreed exCamel exHour W).mono fun e w' h => by
    unfold LastsPost at h
    rw [exA_lasts] at h
    exact h
theorem exLives_any (g : Nat) (W : World) (h : DaysAt W (some ⟨g, 0, none⟩) 3 (List.replicate 3 zday)) (hg : g < W.heap.size) : Calls Tryz.prog 52 #[.agg #[.int .i64 100, .int .i64 10, .int .i64 10, .int .i64 10, .int .i64 0, .int .i64 0, .int .i64 0, .int .i64 0, .int .i64 0, .int .i64 0, .int .i64 0, .int .i64 0, .int .i64 0, .int .i64 0, .int .i64 0, .int .i64 50, .int .i64 50], .agg #[.int .i64 100, .int .i64 100, .int .i64 10, .int .i64 10, .int .i64 0, .int .i64 0, .bool false], .slice (some ⟨g, 0, none⟩) 3 3] W fun e w' => ∃ a cp, e = .returned (.tuple #[.slice a 3 cp, .int .u8 0, .int .i64 0, .int .i64 0]) ∧ 3 ≤ cp ∧ cp ≤ maxLen ∧ CamelsAt w' a 3 [exAfter 1, exAfter 2, exAfter 3] ∧ Ext W w' :=
  (days_any exBreed exCamel (List.replicate 3 zday) (some ⟨g, 0, none⟩) 3 3 ([exAfter 1, exAfter 2, exAfter 3], 0) W h exA_ask exA_lives (by omega) (by decide) (fun x hx => by cases hx; exact hg)).mono fun e w' ⟨a, cp, h1, _, h2, h3, h4, h5⟩ => ⟨a, cp, h1, h2, h3, h4, h5⟩
end Go.Proofs.YtcoelhpmkhimpaaGreat

/- Contracts of layer 4's specification: Great; of the law's own functions: here, in time. -/
namespace Go.Proofs.YtcoelhpmkhimpaaGreat
open Go.RowKit
set_option linter.unusedVariables false
set_option linter.unusedSimpArgs false
theorem great04_any (a : Option Addr) (n cap : Nat) (w : World) (hn : n ≤ cap) (hm : cap ≤ maxLen) : Calls Tryz.prog 6 #[.agg #[.slice a n cap]] w fun e w' => e = .returned (.bool (decide (60 < n))) ∧ Ext w w' := by
  unfold maxLen at hm
  have hb0 := heap_alloc_new w (.cells #[.slice a n cap] 24)
  have hx0 : Ext w (w.alloc (.cells #[.slice a n cap] 24)) := (Ext.refl _).alloc _
  obtain ⟨z0, _⟩ := (Ext.refl _).box hb0
  have Hx0 := Lib.hid hx0
  clear hx0
  by_cases h : 60 < n
  · have h1 : decide (60 < (n : Int)) = true := by simp; omega
    have h2 : decide (60 < n) = true := decide_eq_true h
    go_enter Tryz.func6, Tryz.ntmps6
    go_wp2_with fail
    go_ret
    exact ⟨ret_bool (by rw [h2]), Hx0.out⟩
  · have h1 : decide (60 < (n : Int)) = false := by simp; omega
    have h2 : decide (60 < n) = false := decide_eq_false h
    go_enter Tryz.func6, Tryz.ntmps6
    go_wp2_with fail
    go_ret
    exact ⟨ret_bool (by rw [h2]), Hx0.out⟩
def hereL : List Half := [⟨1, 0, 0⟩, ⟨-1, 0, 0⟩, ⟨0, 1, 0⟩, ⟨0, -1, 0⟩]
def halfRows (l : List Half) : List (List Value) := l.map Half.cells
theorem halves_blk {W : World} {b : Nat} {t : TypeId} {n : Nat} (l : List Half) (hn : l.length = n) (hb : W.heap[b]? = some (.cells (halfRows l).flatten.toArray t (0, 0))) : HalvesAt W (some ⟨b, 0, none⟩) n l := by
  subst hn
  have h := slAt_block (rows := halfRows l) (sz := 3) hb (fun r hr => by obtain ⟨s, _, rfl⟩ := List.mem_map.1 hr; rfl)
  rw [show (halfRows l).length = l.length by simp [halfRows]] at h
  exact ⟨rfl, h.congr fun i hi => by simp [halfRows, List.getD, List.getElem?_map, List.getElem?_eq_getElem hi]⟩
theorem here_any (w : World) : Calls Tryz.prog 23 #[.int .i64 0, .int .i64 0] w fun e w' => ∃ b, e = .returned (.agg #[.slice (some ⟨b, 0, none⟩) 4 4]) ∧ HalvesAt w' (some ⟨b, 0, none⟩) 4 hereL ∧ b < w'.heap.size ∧ Ext w w' := by
  have hb0 := heap_alloc_new w (.cells #[.slice none 0 0] 24)
  have hx0 : Ext w (w.alloc (.cells #[.slice none 0 0] 24)) := (Ext.refl w).alloc _
  go_enter Tryz.func23, Tryz.ntmps23
  go_wp2_with fail
  refine bodyPost_ret (results_cell_row rfl _ _ w.heap.size 24 #[.slice (some ⟨w.heap.size + 1, 0, none⟩) 4 4] (0, 0) _ rfl (alloc_heap (heap_alloc_new w _) _) Tryz.underlying24 rfl (by kernel_rfl)) rfl ?_
  exact ⟨w.heap.size + 1, rfl, halves_blk hereL rfl (alloc_at _ _ _ (by simp)), by simp, ((Ext.refl w).alloc _).alloc _⟩
end Go.Proofs.YtcoelhpmkhimpaaGreat
