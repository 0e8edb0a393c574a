/- Contracts of layer 1: an animal after a day. -/
import Derived.Test.YtcoelhpmkhimpaaGreatDoorCostC
import Derived.Laws.CopyOwn
namespace Go.Proofs.YtcoelhpmkhimpaaGreatDoor
open Go.RowKit
set_option linter.unusedVariables false
set_option linter.unusedSimpArgs false
def beastVal (s : Breed) (c : Camel) : Value := .agg #[.int .i64 s.full, .int .i64 s.fed, .int .i64 s.rest.lo, .int .i64 s.rest.hi, .int .i64 s.heat.lo, .int .i64 s.heat.hi, .int .i64 s.toil.lo, .int .i64 s.toil.hi, .int .i64 s.burn.lo, .int .i64 s.burn.hi, .int .i64 s.rub.lo, .int .i64 s.rub.hi, .int .i64 s.milk.lo, .int .i64 s.milk.hi, .int .i64 s.heal, .int .i64 s.strong.lo, .int .i64 s.strong.hi,
  .int .i64 c.water.lo, .int .i64 c.water.hi, .int .i64 c.fat.lo, .int .i64 c.fat.hi, .int .i64 c.sore.lo, .int .i64 c.sore.hi, .bool c.milks]
def zBeast : Value := .agg #[.int .i64 0, .int .i64 0, .int .i64 0, .int .i64 0, .int .i64 0, .int .i64 0, .int .i64 0, .int .i64 0, .int .i64 0, .int .i64 0, .int .i64 0, .int .i64 0, .int .i64 0, .int .i64 0, .int .i64 0, .int .i64 0, .int .i64 0, .int .i64 0, .int .i64 0, .int .i64 0, .int .i64 0, .int .i64 0, .int .i64 0, .bool false]
def dayVal (s : Breed) (c : Camel) (m : March) : Value := if diesB s c m then zBeast else beastVal s (nextOf s c m)
def dayFate (s : Breed) (c : Camel) (m : March) : Int := if diesB s c m then 2 else if safeB s c m then 0 else 1
/-- the day between two steps: the animal's cells are A; the blocks p7, p8 hold the most, and what it gets -/
structure DayIn (w : World) (A M : Array Value) (fu fe d0 d1 g0 g1 : Int) (p7 p8 : Nat) (W : World) : Prop where
  ext : Ext w W
  a : W.heap[w.heap.size]? = some (.cells A 83 (0, 0))
  m : W.heap[w.heap.size + 1]? = some (.cells M 54 (0, 0))
  r : W.heap[w.heap.size + 1 + 1]? = some (.cells #[.int .i64 0, .int .i64 0, .int .i64 0, .int .i64 0, .int .i64 0, .int .i64 0, .int .i64 0, .int .i64 0, .int .i64 0, .int .i64 0, .int .i64 0, .int .i64 0, .int .i64 0, .int .i64 0, .int .i64 0, .int .i64 0, .int .i64 0, .int .i64 0, .int .i64 0, .int .i64 0, .int .i64 0, .int .i64 0, .int .i64 0, .bool false] 83 (0, 0))
  h : W.heap[w.heap.size + 1 + 1 + 1]? = some (.cells #[.pointer (some ⟨w.heap.size, 17, none⟩), .pointer (some ⟨w.heap.size, 19, none⟩)] 127 (0, 0))
  b7 : W.heap[p7]? = some (.cells #[.int .i64 fu, .int .i64 fe] 128 (0, 0))
  b8 : W.heap[p8]? = some (.cells #[.int .i64 d0, .int .i64 d1, .int .i64 g0, .int .i64 g1] 129 (0, 0))
  n7 : w.heap.size + 1 + 1 + 1 < p7
  n8 : w.heap.size + 1 + 1 + 1 < p8
theorem DayIn.next {w : World} {A M : Array Value} {fu fe d0 d1 g0 g1 : Int} {p7 p8 : Nat} {W W' : World} (h : DayIn w A M fu fe d0 d1 g0 g1 p7 p8 W) (hx : Ext W W') : DayIn w A M fu fe d0 d1 g0 g1 p7 p8 W' :=
  ⟨h.ext.trans hx, hx.heap h.a, hx.heap h.m, hx.heap h.r, hx.heap h.h, hx.heap h.b7, hx.heap h.b8, h.n7, h.n8⟩
theorem DayIn.set {w : World} {A M : Array Value} {fu fe d0 d1 g0 g1 : Int} {p7 p8 : Nat} {W : World} (h : DayIn w A M fu fe d0 d1 g0 g1 p7 p8 W) (i j : Nat) (x y : Value) : DayIn w ((A.setIfInBounds i x).setIfInBounds j y) M fu fe d0 d1 g0 g1 p7 p8 ((W.setCell ⟨w.heap.size, i, none⟩ x).setCell ⟨w.heap.size, j, none⟩ y) := by
  have h7 := h.n7
  have h8 := h.n8
  have o : ∀ {k : Nat} {ob : Obj}, W.heap[k]? = some ob → k ≠ w.heap.size → ((W.setCell ⟨w.heap.size, i, none⟩ x).setCell ⟨w.heap.size, j, none⟩ y).heap[k]? = some ob := fun hk hne => (Below.heap_setCell _ _ _ _ hne).trans ((Below.heap_setCell _ _ _ _ hne).trans hk)
  refine ⟨(h.ext.setCell (p := ⟨w.heap.size, i, none⟩) (Nat.le_refl _) _).setCell (p := ⟨w.heap.size, j, none⟩) (Nat.le_refl _) _, ?_, o h.m (by omega), o h.r (by omega), o h.h (by omega), o h.b7 (by omega), o h.b8 (by omega), h7, h8⟩
  rw [heap_setCell_box, heap_setCell_box, h.a]
  rfl
theorem min_if (a b : Int) : min a b = if b < a then b else a := by split <;> omega
theorem max_if (a b : Int) : max 0 (a - b) = if b < a then a - b else 0 := by split <;> omega
theorem day_die {s : Breed} {c : Camel} {m : March} {c0 c1 f0 f1 : Int} (hw : waterOf s c.milks m = ⟨c0, c1⟩) (hf : fatOf s m = ⟨f0, f1⟩) (h : c.water.hi < c0 ∨ c.fat.hi < f0) : dayVal s c m = zBeast ∧ dayFate s c m = 2 := by
  have e : diesB s c m = true := by
    unfold diesB
    rw [hw, hf]
    simpa using h
  unfold dayVal dayFate
  rw [e]
  exact ⟨rfl, rfl⟩
theorem day_live {s : Breed} {c : Camel} {m : March} {c0 c1 f0 f1 S0 S1 : Int} (hw : waterOf s c.milks m = ⟨c0, c1⟩) (hf : fatOf s m = ⟨f0, f1⟩) (h1 : ¬c.water.hi < c0) (h2 : ¬c.fat.hi < f0) (hS : soreOf s c.sore m = ⟨S0, S1⟩) :
    dayVal s c m = .agg #[.int .i64 s.full, .int .i64 s.fed, .int .i64 s.rest.lo, .int .i64 s.rest.hi, .int .i64 s.heat.lo, .int .i64 s.heat.hi, .int .i64 s.toil.lo, .int .i64 s.toil.hi, .int .i64 s.burn.lo, .int .i64 s.burn.hi, .int .i64 s.rub.lo, .int .i64 s.rub.hi, .int .i64 s.milk.lo, .int .i64 s.milk.hi, .int .i64 s.heal, .int .i64 s.strong.lo, .int .i64 s.strong.hi, .int .i64 (if (if c1 < c.water.lo then c.water.lo - c1 else 0) + m.drinks.lo < s.full then (if c1 < c.water.lo then c.water.lo - c1 else 0) + m.drinks.lo else s.full), .int .i64 (if c.water.hi - c0 + m.drinks.hi < s.full then c.water.hi - c0 + m.drinks.hi else s.full), .int .i64 (if (if f1 < c.fat.lo then c.fat.lo - f1 else 0) + m.grass.lo < s.fed then (if f1 < c.fat.lo then c.fat.lo - f1 else 0) + m.grass.lo else s.fed), .int .i64 (if c.fat.hi - f0 + m.grass.hi < s.fed then c.fat.hi - f0 + m.grass.hi else s.fed), .int .i64 S0, .int .i64 S1, .bool c.milks]
      ∧ dayFate s c m = (if c.water.lo < c1 ∨ c.fat.lo < f1 then 1 else 0) := by
  have e : diesB s c m = false := by
    unfold diesB
    rw [hw, hf]
    simp
    omega
  unfold dayVal dayFate safeB nextOf
  rw [e, hw, hf, hS]
  refine ⟨?_, ?_⟩
  · rw [if_neg (by simp)]
    unfold beastVal leftOf
    simp only [min_if, max_if]
  · rw [if_neg (by simp)]
    by_cases q1 : c.water.lo < c1 <;> by_cases q2 : c.fat.lo < f1 <;> simp [q1, q2] <;> omega
/-- some of a block's cells are read at once -/
theorem wpList_load_part {P : Program} {ops : Array Oper} {rest : List Oper} {o : Oper} {a : Act} {w : World} {Q : Exit → Act → World → Prop} (hgd : o.guard = none) (ty : TypeId) (x : Operand) (ho : o.op = .load ty x)
    (g off : Nat) (hx : a.eval x = .pointer (some ⟨g, off, none⟩)) (t : TypeId) (cs : Array Value) (fr : Nat × Nat) (d : TypeDesc) (hg : w.heap[g]? = some (.cells cs t fr)) (part : List Value) (hpart : (cs.toList.drop off).take part.length = part)
    (hu : P.underlying ty = some d) (hd : (match d with | .struct _ | .array _ _ => true | _ => false) = true) (hi : (P.info? ty).map (·.size) = some part.length)
    (h : wpList P ops Q rest (a.put o.dst (.agg part.toArray)) w) : wpList P ops Q (o :: rest) a w := by
  refine wpList_plain hgd fun K hK => ?_
  have hl : (loadCells ⟨g, off, none⟩ part.length).run P w = .ok part.toArray w :=
    run_loadCells_list (P := P) w ⟨g, off, none⟩ part (fun j v hv => by
      have hadd : (⟨g, off, none⟩ : Addr).add j = ⟨g, off + j, none⟩ := addr_add' g off j
      rw [hadd, cell_of_row w g (off + j) cs t fr hg]
      rw [← hpart] at hv
      rw [List.getElem?_take] at hv
      split at hv
      · rw [List.getElem?_drop] at hv
        simpa using hv
      · cases hv)
  have hagg : (isAgg ty).run P w = .ok true w := by
    unfold isAgg
    rw [Sem.run_bind, run_underlying hu w]
    cases d <;> simp_all
  cases hq : P.info? ty with
  | none => simp [hq] at hi
  | some i =>
    have hs : i.size = part.length := by simpa [hq] using hi
    have hv : (loadVar ty ⟨g, off, none⟩).run P w = .ok (.agg part.toArray) w := by simp [loadVar, Sem.run_bind, hagg, sizeOf, typeInfo, hq, hs, hl]
    unfold Oper.wp execOp
    simp only [ho, hx, Instr.loadAt, Instr.sureAddr, Sem.run_bind, Sem.run_pure, Result.andThen_ok, hv]
    exact hK _ _ h
theorem set4_ext {w W : World} (hx : Ext w W) {b : Nat} (hb : w.heap.size ≤ b) (x y z u : Value) : Ext w ((((W.setCell ⟨b, 0, none⟩ x).setCell ⟨b, 1, none⟩ y).setCell ⟨b, 2, none⟩ z).setCell ⟨b, 3, none⟩ u) :=
  (((hx.setCell (p := ⟨b, 0, none⟩) hb _).setCell (p := ⟨b, 1, none⟩) hb _).setCell (p := ⟨b, 2, none⟩) hb _).setCell (p := ⟨b, 3, none⟩) hb _
theorem set4_other {W : World} {b k : Nat} {o : Obj} (h : W.heap[k]? = some o) (hne : k ≠ b) (x y z u : Value) : ((((W.setCell ⟨b, 0, none⟩ x).setCell ⟨b, 1, none⟩ y).setCell ⟨b, 2, none⟩ z).setCell ⟨b, 3, none⟩ u).heap[k]? = some o :=
  (Below.heap_setCell _ _ _ _ hne).trans ((Below.heap_setCell _ _ _ _ hne).trans ((Below.heap_setCell _ _ _ _ hne).trans ((Below.heap_setCell _ _ _ _ hne).trans h)))
set_option maxRecDepth 100000 in
set_option maxHeartbeats 8000000 in
theorem day_any (s : Breed) (c : Camel) (m : March) (w : World) (hb : BreedOk s) (hc : CamelOk s c) (hm : DayOk m) : Calls Tryz.prog 42 #[beastVal s c, m.val] w fun e w' => e = .returned (.tuple #[dayVal s c m, .int .u8 (dayFate s c m)]) ∧ Ext w w' := by
  have hco := fun W => cost_any s c.milks m W hb hm
  have hwi := water_is hb hm c.milks
  have hfi := fat_is hb hm
  have hwa := hc.water
  have hfa := hc.fat
  have hso := hc.sore
  have hb1 := hb.full
  have hb2 := hb.fed
  obtain ⟨R, hR⟩ : ∃ R, dayVal s c m = R := ⟨_, rfl⟩
  obtain ⟨F, hF⟩ : ∃ F, dayFate s c m = F := ⟨_, rfl⟩
  rw [hR, hF]
  obtain ⟨⟨c0, c1⟩, hC⟩ : ∃ C, waterOf s c.milks m = C := ⟨_, rfl⟩
  obtain ⟨⟨f0, f1⟩, hFC⟩ : ∃ C, fatOf s m = C := ⟨_, rfl⟩
  rw [hC, hFC] at hco
  rw [hC] at hwi
  rw [hFC] at hfi
  obtain ⟨fu, fe, ⟨r0, r1⟩, ⟨h0, h1⟩, ⟨t0, t1⟩, ⟨b0, b1⟩, ⟨u0, u1⟩, ⟨m0, m1⟩, hl, ⟨s0, s1⟩⟩ := s
  obtain ⟨hh, ll, ⟨e0, e1⟩, ⟨g0, g1⟩, ⟨d0, d1⟩⟩ := m
  obtain ⟨⟨w0, w1⟩, ⟨k0, k1⟩, ⟨o0, o1⟩, mk⟩ := c
  unfold Breed.val March.val at hco
  unfold beastVal March.val
  simp only at *
  obtain ⟨V0, hV0⟩ : ∃ x, (if c1 < w0 then w0 - c1 else 0) = x := ⟨_, rfl⟩
  obtain ⟨V2, hV2⟩ : ∃ x, (if f1 < k0 then k0 - f1 else 0) = x := ⟨_, rfl⟩
  obtain ⟨N0, hN0⟩ : ∃ x, (if V0 + d0 < fu then V0 + d0 else fu) = x := ⟨_, rfl⟩
  obtain ⟨N1, hN1⟩ : ∃ x, (if w1 - c0 + d1 < fu then w1 - c0 + d1 else fu) = x := ⟨_, rfl⟩
  obtain ⟨N2, hN2⟩ : ∃ x, (if V2 + g0 < fe then V2 + g0 else fe) = x := ⟨_, rfl⟩
  obtain ⟨N3, hN3⟩ : ∃ x, (if k1 - f0 + g1 < fe then k1 - f0 + g1 else fe) = x := ⟨_, rfl⟩
  have bV0 : 0 ≤ V0 ∧ V0 ≤ 1000000 := by rw [← hV0]; have := hwa.low; have := hwa.ord; have := hwa.top; simp only at *; split <;> omega
  have bV2 : 0 ≤ V2 ∧ V2 ≤ 1000000 := by rw [← hV2]; have := hfa.low; have := hfa.ord; have := hfa.top; simp only at *; split <;> omega
  obtain ⟨wa1, wa2, wa3⟩ := hwa
  obtain ⟨fa1, fa2, fa3⟩ := hfa
  obtain ⟨so1, so2, so3⟩ := hso
  have hge := hm.grass
  have hdr := hm.drinks
  have hhb := hm.hours
  have hlb := hm.load
  have hru := hb.rub
  have hhe := hb.heal
  obtain ⟨ge1, ge2, ge3⟩ := hge
  obtain ⟨dr1, dr2, dr3⟩ := hdr
  obtain ⟨ru1, ru2, ru3⟩ := hru
  simp only at wa1 wa2 wa3 fa1 fa2 fa3 so1 so2 so3 ge1 ge2 ge3 dr1 dr2 dr3 ru1 ru2 ru3 hhb hlb hhe
  clear hb hc hm
  have bnd0 := And.intro wa1 (And.intro wa2 (And.intro wa3 (And.intro dr1 (And.intro dr2 (And.intro dr3 (And.intro bV0 (And.intro hwi hb1)))))))
  have bnd1 := And.intro fa1 (And.intro fa2 (And.intro fa3 (And.intro ge1 (And.intro ge2 (And.intro ge3 (And.intro bV2 (And.intro hfi hb2)))))))
  have bnd2 := And.intro so1 (And.intro so2 (And.intro so3 (And.intro ru1 (And.intro ru2 (And.intro ru3 (And.intro hhb (And.intro hlb hhe)))))))
  clear wa1 wa2 wa3 dr1 dr2 dr3 bV0 hwi hb1 fa1 fa2 fa3 ge1 ge2 ge3 bV2 hfi hb2 so1 so2 so3 ru1 ru2 ru3 hhb hlb hhe
  have HC := Lib.hid hC
  have HFC := Lib.hid hFC
  have HR := Lib.hid hR
  have HF := Lib.hid hF
  have Bnd0 := Lib.hid bnd0
  have Bnd1 := Lib.hid bnd1
  have Bnd2 := Lib.hid bnd2
  have HV0 := Lib.hid hV0
  have HV2 := Lib.hid hV2
  have HN0 := Lib.hid hN0
  have HN1 := Lib.hid hN1
  have HN2 := Lib.hid hN2
  have HN3 := Lib.hid hN3
  clear hC hFC hR hF bnd0 bnd1 bnd2 hV0 hV2 hN0 hN1 hN2 hN3
  obtain ⟨W0, hW0⟩ : ∃ W0, (((w.alloc (.cells #[.int .i64 fu, .int .i64 fe, .int .i64 r0, .int .i64 r1, .int .i64 h0, .int .i64 h1, .int .i64 t0, .int .i64 t1, .int .i64 b0, .int .i64 b1, .int .i64 u0, .int .i64 u1, .int .i64 m0, .int .i64 m1, .int .i64 hl, .int .i64 s0, .int .i64 s1, .int .i64 w0, .int .i64 w1, .int .i64 k0, .int .i64 k1, .int .i64 o0, .int .i64 o1, .bool mk] 83)).alloc (.cells #[.int .i64 hh, .int .i64 ll, .int .i64 e0, .int .i64 e1, .int .i64 g0, .int .i64 g1, .int .i64 d0, .int .i64 d1] 54)).alloc (.cells #[.int .i64 0, .int .i64 0, .int .i64 0, .int .i64 0, .int .i64 0, .int .i64 0, .int .i64 0, .int .i64 0, .int .i64 0, .int .i64 0, .int .i64 0, .int .i64 0, .int .i64 0, .int .i64 0, .int .i64 0, .int .i64 0, .int .i64 0, .int .i64 0, .int .i64 0, .int .i64 0, .int .i64 0, .int .i64 0, .int .i64 0, .bool false] 83)).alloc (.cells #[.pointer (some ⟨w.heap.size, 17, none⟩), .pointer (some ⟨w.heap.size, 19, none⟩)] 127) = W0 := ⟨_, rfl⟩
  have hx0 : Ext w W0 := by rw [← hW0]; exact ((((Ext.refl w).alloc _).alloc _).alloc _).alloc _
  have ha0 : W0.heap[w.heap.size]? = some (.cells #[.int .i64 fu, .int .i64 fe, .int .i64 r0, .int .i64 r1, .int .i64 h0, .int .i64 h1, .int .i64 t0, .int .i64 t1, .int .i64 b0, .int .i64 b1, .int .i64 u0, .int .i64 u1, .int .i64 m0, .int .i64 m1, .int .i64 hl, .int .i64 s0, .int .i64 s1, .int .i64 w0, .int .i64 w1, .int .i64 k0, .int .i64 k1, .int .i64 o0, .int .i64 o1, .bool mk] 83 (0, 0)) := by rw [← hW0]; exact alloc_heap (alloc_heap (alloc_heap (heap_alloc_new w _) _) _) _
  have hm0 : W0.heap[w.heap.size + 1]? = some (.cells #[.int .i64 hh, .int .i64 ll, .int .i64 e0, .int .i64 e1, .int .i64 g0, .int .i64 g1, .int .i64 d0, .int .i64 d1] 54 (0, 0)) := by rw [← hW0]; exact alloc_heap (alloc_heap (alloc_at _ _ _ (by simp)) _) _
  have hr0 : W0.heap[w.heap.size + 1 + 1]? = some (.cells #[.int .i64 0, .int .i64 0, .int .i64 0, .int .i64 0, .int .i64 0, .int .i64 0, .int .i64 0, .int .i64 0, .int .i64 0, .int .i64 0, .int .i64 0, .int .i64 0, .int .i64 0, .int .i64 0, .int .i64 0, .int .i64 0, .int .i64 0, .int .i64 0, .int .i64 0, .int .i64 0, .int .i64 0, .int .i64 0, .int .i64 0, .bool false] 83 (0, 0)) := by rw [← hW0]; exact alloc_heap (alloc_at _ _ _ (by simp)) _
  have hh0 : W0.heap[w.heap.size + 1 + 1 + 1]? = some (.cells #[.pointer (some ⟨w.heap.size, 17, none⟩), .pointer (some ⟨w.heap.size, 19, none⟩)] 127 (0, 0)) := by rw [← hW0]; exact alloc_at _ _ _ (by simp)
  have Hx0 := Lib.hid hx0
  have Ha0 := Lib.hid ha0
  have Hm0 := Lib.hid hm0
  have Hr0 := Lib.hid hr0
  have Hh0 := Lib.hid hh0
  have Hco := Lib.hid hco
  clear hx0 ha0 hm0 hr0 hh0 hco
  go_enter Tryz.func42, Tryz.ntmps42
  go_upto_region 2 with fail
  clear hW0
  refine wp_region_tree (.take [0, 1, 2, 3, 4, 5, 6, 7, 8, 9, 10, 11] (.two 12 (.one 13 (.one 14 (.one 15 .done))) 13 (.one 12 (.one 14 (.one 15 .done))))) (Ext W0) _ (by kernel_rfl) (by kernel_rfl) rfl ((Ext.refl _).drew) ?_
  intro ι _ f hf hs
  have q0 := fun q => ((hf q).box Ha0.out).1
  have q1 := fun q => ((hf q).box Hm0.out).1
  have HS := Lib.hid hs
  clear hf hs
  simp only [treeOf, oneOp, twoOp, opsOf, consOp, List.getElem?_toArray, List.getElem?_cons_succ, List.getElem?_cons_zero]
  refine wpOT_take ?_
  repeat (go_big_quiet_step (fail))
  refine wpQuiet_nil ?_
  clear q0 q1
  refine wpOT_both ?_
  apply join_two (F := fun p7 p8 V => DayIn w #[.int .i64 fu, .int .i64 fe, .int .i64 r0, .int .i64 r1, .int .i64 h0, .int .i64 h1, .int .i64 t0, .int .i64 t1, .int .i64 b0, .int .i64 b1, .int .i64 u0, .int .i64 u1, .int .i64 m0, .int .i64 m1, .int .i64 hl, .int .i64 s0, .int .i64 s1, .int .i64 w0, .int .i64 w1, .int .i64 k0, .int .i64 k1, .int .i64 o0, .int .i64 o1, .bool mk] #[.int .i64 hh, .int .i64 ll, .int .i64 e0, .int .i64 e1, .int .i64 g0, .int .i64 g1, .int .i64 d0, .int .i64 d1] fu fe d0 d1 g0 g1 p7 p8 V)
  · intro g
    have G := Lib.hid g
    clear g
    have hlh := heap_lt Hh0.out
    go_wp2_with fail
    refine ⟨HS.out _ (((Ext.refl W0).alloc _).drew), ?_⟩
    refine wpOT_one ?_
    go_wp2_with fail
    refine ⟨HS.out _ ((((Ext.refl W0).alloc _).alloc _).drew), ?_⟩
    have hxb : Ext W0 (((W0.alloc (.cells #[.int .i64 0, .int .i64 0] 128)).alloc (.cells #[.int .i64 0, .int .i64 0, .int .i64 0, .int .i64 0] 129)).drew) := (((Ext.refl W0).alloc _).alloc _).drew
    have hb7 : (((W0.alloc (.cells #[.int .i64 0, .int .i64 0] 128)).alloc (.cells #[.int .i64 0, .int .i64 0, .int .i64 0, .int .i64 0] 129)).drew).heap[W0.heap.size]? = some (.cells #[.int .i64 0, .int .i64 0] 128 (0, 0)) := ((Ext.refl _).drew).heap (alloc_heap (heap_alloc_new W0 _) _)
    have hb8 : (((W0.alloc (.cells #[.int .i64 0, .int .i64 0] 128)).alloc (.cells #[.int .i64 0, .int .i64 0, .int .i64 0, .int .i64 0] 129)).drew).heap[W0.heap.size + 1]? = some (.cells #[.int .i64 0, .int .i64 0, .int .i64 0, .int .i64 0] 129 (0, 0)) := ((Ext.refl _).drew).heap (alloc_at _ _ _ (by simp))
    generalize (((W0.alloc (.cells #[.int .i64 0, .int .i64 0] 128)).alloc (.cells #[.int .i64 0, .int .i64 0, .int .i64 0, .int .i64 0] 129)).drew) = Wb at *
    obtain ⟨z7, y7⟩ := (Ext.refl Wb).box hb7
    have l7 := heap_lt hb7
    refine wpOT_one ?_
    go_wp2_with fail
    have hxc := set2_ext hxb (b := W0.heap.size) (by omega) (.int .i64 fu) (.int .i64 fe)
    have hc7 := set2_box hb7 (.int .i64 fu) (.int .i64 fe)
    have hc8 := set2_other hb8 (b := W0.heap.size) (by omega) (.int .i64 fu) (.int .i64 fe)
    refine ⟨HS.out _ hxc, ?_⟩
    generalize ((Wb.setCell ⟨W0.heap.size, 0, none⟩ (.int .i64 fu)).setCell ⟨W0.heap.size, 1, none⟩ (.int .i64 fe)) = Wc at *
    clear z7 y7 hxb hb7 hb8
    obtain ⟨z8, y8⟩ := (Ext.refl Wc).box hc8
    have l8 := heap_lt hc8
    refine wpOT_one ?_
    go_wp2_with fail
    have hxd := set4_ext hxc (b := W0.heap.size + 1) (by omega) (.int .i64 d0) (.int .i64 d1) (.int .i64 g0) (.int .i64 g1)
    have hd7 := set4_other hc7 (b := W0.heap.size + 1) (by omega) (.int .i64 d0) (.int .i64 d1) (.int .i64 g0) (.int .i64 g1)
    have hd8 := set4_box hc8 (.int .i64 d0) (.int .i64 d1) (.int .i64 g0) (.int .i64 g1)
    refine ⟨HS.out _ hxd, ?_⟩
    refine wpOT_done ?_
    have hxw := Hx0.out.trans hxd
    have ha := hxd.heap Ha0.out
    have hmm := hxd.heap Hm0.out
    have hr := hxd.heap Hr0.out
    have hh' := hxd.heap Hh0.out
    have n7 : w.heap.size + 1 + 1 + 1 < W0.heap.size := by omega
    have n8 : w.heap.size + 1 + 1 + 1 < W0.heap.size + 1 := by omega
    clear hxc hc7 hc8 z8 y8 l8 l7 hlh
    generalize ((((Wc.setCell ⟨W0.heap.size + 1, 0, none⟩ (.int .i64 d0)).setCell ⟨W0.heap.size + 1, 1, none⟩ (.int .i64 d1)).setCell ⟨W0.heap.size + 1, 2, none⟩ (.int .i64 g0)).setCell ⟨W0.heap.size + 1, 3, none⟩ (.int .i64 g1)) = Wd at *
    clear hxd
    generalize W0.heap.size + 1 = qb at *
    generalize W0.heap.size = qa at *
    exact G.out _ _ _ ⟨hxw, ha, hmm, hr, hh', hd7, hd8, n7, n8⟩
  · intro g
    have G := Lib.hid g
    clear g
    have hlh := heap_lt Hh0.out
    go_wp2_with fail
    refine ⟨HS.out _ (((Ext.refl W0).alloc _).drew), ?_⟩
    refine wpOT_one ?_
    go_wp2_with fail
    refine ⟨HS.out _ ((((Ext.refl W0).alloc _).alloc _).drew), ?_⟩
    have hxb : Ext W0 (((W0.alloc (.cells #[.int .i64 0, .int .i64 0, .int .i64 0, .int .i64 0] 129)).alloc (.cells #[.int .i64 0, .int .i64 0] 128)).drew) := (((Ext.refl W0).alloc _).alloc _).drew
    have hb7 : (((W0.alloc (.cells #[.int .i64 0, .int .i64 0, .int .i64 0, .int .i64 0] 129)).alloc (.cells #[.int .i64 0, .int .i64 0] 128)).drew).heap[W0.heap.size + 1]? = some (.cells #[.int .i64 0, .int .i64 0] 128 (0, 0)) := ((Ext.refl _).drew).heap (alloc_at _ _ _ (by simp))
    have hb8 : (((W0.alloc (.cells #[.int .i64 0, .int .i64 0, .int .i64 0, .int .i64 0] 129)).alloc (.cells #[.int .i64 0, .int .i64 0] 128)).drew).heap[W0.heap.size]? = some (.cells #[.int .i64 0, .int .i64 0, .int .i64 0, .int .i64 0] 129 (0, 0)) := ((Ext.refl _).drew).heap (alloc_heap (heap_alloc_new W0 _) _)
    generalize (((W0.alloc (.cells #[.int .i64 0, .int .i64 0, .int .i64 0, .int .i64 0] 129)).alloc (.cells #[.int .i64 0, .int .i64 0] 128)).drew) = Wb at *
    obtain ⟨z7, y7⟩ := (Ext.refl Wb).box hb7
    have l7 := heap_lt hb7
    refine wpOT_one ?_
    go_wp2_with fail
    have hxc := set2_ext hxb (b := W0.heap.size + 1) (by omega) (.int .i64 fu) (.int .i64 fe)
    have hc7 := set2_box hb7 (.int .i64 fu) (.int .i64 fe)
    have hc8 := set2_other hb8 (b := W0.heap.size + 1) (by omega) (.int .i64 fu) (.int .i64 fe)
    refine ⟨HS.out _ hxc, ?_⟩
    generalize ((Wb.setCell ⟨W0.heap.size + 1, 0, none⟩ (.int .i64 fu)).setCell ⟨W0.heap.size + 1, 1, none⟩ (.int .i64 fe)) = Wc at *
    clear z7 y7 hxb hb7 hb8
    obtain ⟨z8, y8⟩ := (Ext.refl Wc).box hc8
    have l8 := heap_lt hc8
    refine wpOT_one ?_
    go_wp2_with fail
    have hxd := set4_ext hxc (b := W0.heap.size) (by omega) (.int .i64 d0) (.int .i64 d1) (.int .i64 g0) (.int .i64 g1)
    have hd7 := set4_other hc7 (b := W0.heap.size) (by omega) (.int .i64 d0) (.int .i64 d1) (.int .i64 g0) (.int .i64 g1)
    have hd8 := set4_box hc8 (.int .i64 d0) (.int .i64 d1) (.int .i64 g0) (.int .i64 g1)
    refine ⟨HS.out _ hxd, ?_⟩
    refine wpOT_done ?_
    have hxw := Hx0.out.trans hxd
    have ha := hxd.heap Ha0.out
    have hmm := hxd.heap Hm0.out
    have hr := hxd.heap Hr0.out
    have hh' := hxd.heap Hh0.out
    have n7 : w.heap.size + 1 + 1 + 1 < W0.heap.size + 1 := by omega
    have n8 : w.heap.size + 1 + 1 + 1 < W0.heap.size := by omega
    clear hxc hc7 hc8 z8 y8 l8 l7 hlh
    generalize ((((Wc.setCell ⟨W0.heap.size, 0, none⟩ (.int .i64 d0)).setCell ⟨W0.heap.size, 1, none⟩ (.int .i64 d1)).setCell ⟨W0.heap.size, 2, none⟩ (.int .i64 g0)).setCell ⟨W0.heap.size, 3, none⟩ (.int .i64 g1)) = Wd at *
    clear hxd
    generalize W0.heap.size + 1 = qb at *
    generalize W0.heap.size = qa at *
    exact G.out _ _ _ ⟨hxw, ha, hmm, hr, hh', hd7, hd8, n7, n8⟩
  rintro p7 p8 W1 hD
  clear HS Hx0 Ha0 Hm0 Hr0 Hh0
  obtain ⟨z0, _⟩ := (Ext.refl W1).box hD.a
  obtain ⟨z1, _⟩ := (Ext.refl W1).box hD.m
  have hlh := heap_lt hD.h
  have HD := Lib.hid hD
  clear hD
  go_wp2_with (first | (go_at_call 72; refine (Hco.out _).mono ?_; rintro e W2 ⟨rfl, hx2⟩) | (refine wpList_load_part rfl 25 (.tmp 33) rfl w.heap.size 0 rfl 83 _ (0, 0) _ HD.out.a [.int .i64 fu, .int .i64 fe, .int .i64 r0, .int .i64 r1, .int .i64 h0, .int .i64 h1, .int .i64 t0, .int .i64 t1, .int .i64 b0, .int .i64 b1, .int .i64 u0, .int .i64 u1, .int .i64 m0, .int .i64 m1, .int .i64 hl, .int .i64 s0, .int .i64 s1] rfl Tryz.underlying25 rfl (by kernel_rfl) ?_) | (refine wpList_load_row rfl 54 (.tmp 3) rfl (w.heap.size + 1) rfl 54 _ (0, 0) _ HD.out.m Tryz.underlying54 rfl (by kernel_rfl) ?_))
  have hD2 := HD.out.next hx2
  have HD2 := Lib.hid hD2
  clear hD2
  clear z0 z1 HD hx2 hlh
  go_loopw [40, 9] (fun i f wr => (i = .int .i64 0 ∧ f = .int .u8 0 ∧ DayIn w #[.int .i64 fu, .int .i64 fe, .int .i64 r0, .int .i64 r1, .int .i64 h0, .int .i64 h1, .int .i64 t0, .int .i64 t1, .int .i64 b0, .int .i64 b1, .int .i64 u0, .int .i64 u1, .int .i64 m0, .int .i64 m1, .int .i64 hl, .int .i64 s0, .int .i64 s1, .int .i64 w0, .int .i64 w1, .int .i64 k0, .int .i64 k1, .int .i64 o0, .int .i64 o1, .bool mk] #[.int .i64 hh, .int .i64 ll, .int .i64 e0, .int .i64 e1, .int .i64 g0, .int .i64 g1, .int .i64 d0, .int .i64 d1] fu fe d0 d1 g0 g1 p7 p8 wr) ∨ (i = .int .i64 1 ∧ f = .int .u8 (if w0 < c1 then 1 else 0) ∧ ¬w1 < c0 ∧ DayIn w #[.int .i64 fu, .int .i64 fe, .int .i64 r0, .int .i64 r1, .int .i64 h0, .int .i64 h1, .int .i64 t0, .int .i64 t1, .int .i64 b0, .int .i64 b1, .int .i64 u0, .int .i64 u1, .int .i64 m0, .int .i64 m1, .int .i64 hl, .int .i64 s0, .int .i64 s1, .int .i64 N0, .int .i64 N1, .int .i64 k0, .int .i64 k1, .int .i64 o0, .int .i64 o1, .bool mk] #[.int .i64 hh, .int .i64 ll, .int .i64 e0, .int .i64 e1, .int .i64 g0, .int .i64 g1, .int .i64 d0, .int .i64 d1] fu fe d0 d1 g0 g1 p7 p8 wr) ∨ (i = .int .i64 2 ∧ f = .int .u8 (if w0 < c1 ∨ k0 < f1 then 1 else 0) ∧ ¬w1 < c0 ∧ ¬k1 < f0 ∧ DayIn w #[.int .i64 fu, .int .i64 fe, .int .i64 r0, .int .i64 r1, .int .i64 h0, .int .i64 h1, .int .i64 t0, .int .i64 t1, .int .i64 b0, .int .i64 b1, .int .i64 u0, .int .i64 u1, .int .i64 m0, .int .i64 m1, .int .i64 hl, .int .i64 s0, .int .i64 s1, .int .i64 N0, .int .i64 N1, .int .i64 N2, .int .i64 N3, .int .i64 o0, .int .i64 o1, .bool mk] #[.int .i64 hh, .int .i64 ll, .int .i64 e0, .int .i64 e1, .int .i64 g0, .int .i64 g1, .int .i64 d0, .int .i64 d1] fu fe d0 d1 g0 g1 p7 p8 wr)) (fun i _ _ => 2 - (intOf i).toNat)
  case atStart => exact .inl ⟨rfl, rfl, HD2.out⟩
  case round =>
    clear HD2
    rcases hrel with ⟨rfl, rfl, hD⟩ | ⟨rfl, rfl, hnd, hD⟩ | ⟨rfl, rfl, hnd, hnd2, hD⟩
    · have i0 : ∀ w, (Instr.index 129 (.agg #[.int .i64 c0, .int .i64 c1, .int .i64 f0, .int .i64 f1]) (.int .i64 0)).run Tryz.prog w = .ok (.agg #[.int .i64 c0, .int .i64 c1]) w := fun _ => by kernel_rfl
      have hqn := heap_alloc_new wr (.cells #[.int .i64 c0, .int .i64 c1] 23)
      have hDn := hD.next ((Ext.refl wr).alloc (.cells #[.int .i64 c0, .int .i64 c1] 23))
      obtain ⟨y0, _⟩ := (Ext.refl _).box hDn.h
      have hle := heap_lt hDn.h
      have hqA : wr.heap.size ≠ w.heap.size := by have := heap_lt hD.a; omega
      have HD := Lib.hid hD
      have HDn := Lib.hid hDn
      have Hqn := Lib.hid hqn
      clear hD hDn hqn
      go_upto_region 8 with fail
      generalize wr.alloc (.cells #[.int .i64 c0, .int .i64 c1] 23) = W3 at *
      generalize wr.heap.size = q at *
      clear y0 hle
      by_cases hdd : w1 < c0
      · have hdB : decide (w1 < c0) = true := decide_eq_true hdd
        obtain ⟨hRz, hFz⟩ := day_die (c := ⟨⟨w0, w1⟩, ⟨k0, k1⟩, ⟨o0, o1⟩, mk⟩) HC.out HFC.out (Or.inl hdd)
        rw [HR.out] at hRz
        rw [HF.out] at hFz
        unfold zBeast at hRz
        subst hRz hFz
        clear hdd
        refine wp_region_ext (by kernel_rfl) (by kernel_rfl) (fun f hf hs => ?_)
        have q0 := fun q => ((hf q).box HDn.out.a).1
        have q1 := fun q => ((hf q).box Hqn.out).1
        clear hf hs
        repeat (go_big_quiet_step (fail))
        refine wpQuiet_nil ?_
        intro W4 hW4
        clear q0 q1
        have hD4 := HDn.out.next hW4
        have hr4 := hD4.r
        have hx4 := hD4.ext
        have Hr4 := Lib.hid hr4
        have Hx4 := Lib.hid hx4
        clear hr4 hx4
        clear hD4 HDn hW4 Hqn HD
        go_wp2_with (refine wpList_store_row rfl 83 (.tmp 4) (.tmp 55) rfl (w.heap.size + 1 + 1) #[.int .i64 0, .int .i64 0, .int .i64 0, .int .i64 0, .int .i64 0, .int .i64 0, .int .i64 0, .int .i64 0, .int .i64 0, .int .i64 0, .int .i64 0, .int .i64 0, .int .i64 0, .int .i64 0, .int .i64 0, .int .i64 0, .int .i64 0, .int .i64 0, .int .i64 0, .int .i64 0, .int .i64 0, .int .i64 0, .int .i64 0, .bool false] rfl rfl 83 _ Hr4.out (by kernel_rfl) (by kernel_rfl) (by kernel_rfl) ?_)
        refine bodyPost_ret (results_cell_tmp (P := Tryz.prog) (fn := Tryz.f42) rfl _ _ (w.heap.size + 1 + 1) 83 #[.int .i64 0, .int .i64 0, .int .i64 0, .int .i64 0, .int .i64 0, .int .i64 0, .int .i64 0, .int .i64 0, .int .i64 0, .int .i64 0, .int .i64 0, .int .i64 0, .int .i64 0, .int .i64 0, .int .i64 0, .int .i64 0, .int .i64 0, .int .i64 0, .int .i64 0, .int .i64 0, .int .i64 0, .int .i64 0, .int .i64 0, .bool false] (0, 0) _ rfl (setRow_heap _ _ _ _ 83 (0, 0) Hr4.out) Tryz.underlying83 rfl (by kernel_rfl)) rfl ?_
        exact ⟨rfl, below_setRow Hx4.out (by omega) _⟩
      have hdB : decide (w1 < c0) = false := decide_eq_false hdd
      have Hdd := Lib.hid hdd
      clear hdd
      refine wp_region_ext (by kernel_rfl) (by kernel_rfl) (fun f hf hs => ?_)
      have q0 := fun q => ((hf q).box HDn.out.a).1
      have q1 := fun q => ((hf q).box Hqn.out).1
      clear hf hs
      repeat (go_big_quiet_step (fail))
      refine wpQuiet_nil ?_
      intro W4 hW4
      clear q0 q1
      have hD4 := HDn.out.next hW4
      have hq4 := hW4.heap Hqn.out
      have HD4 := Lib.hid hD4
      have Hq4 := Lib.hid hq4
      clear hD4 hq4
      clear HDn hW4 Hqn HD hdB
      by_cases hoo : w0 < c1
      · have hoB : decide (w0 < c1) = true := decide_eq_true hoo
        have Hoo := Lib.hid hoo
        clear hoo
        go_upto_region 10 with fail
        refine wp_region_ext (by kernel_rfl) (by kernel_rfl) (fun f hf hs => ?_)
        have q0 := fun q => ((hf q).box HD4.out.a).1
        have q1 := fun q => ((hf q).box Hq4.out).1
        clear hf hs
        repeat (go_big_quiet_step (fail))
        refine wpQuiet_nil ?_
        intro W5 hW5
        clear q0 q1
        have hD5 := HD4.out.next hW5
        have hq5 := hW5.heap Hq4.out
        have HD5 := Lib.hid hD5
        have Hq5 := Lib.hid hq5
        clear hD5 hq5
        clear HD4 hW5 Hq4
        go_upto_region 12 with fail
        clear hoB
        obtain ⟨ba1, ba2, ba3, bg1, bg2, bg3, bv, bc, bm⟩ := Bnd0.out
        have hp2 := fun (W : World) (b : Nat) (h : W.heap[b]? = some (.cells #[.int .i64 V0, .int .i64 (w1 - c0), .int .i64 d0, .int .i64 d1] 23 (0, 0))) => plus2 h (by omega) (by omega) (by omega) (by omega)
        have hv := HV0.out
        have Hp2 := Lib.hid hp2
        clear hp2
        refine wp_region_flow (.take [0, 1, 2, 3, 4, 5, 6, 7, 8, 9, 10, 11, 12, 13, 14, 15, 16, 17, 18] (.flow [19, 20, 21] [83, 84, 13] [[], [0], []] (.one 22 .done))) [22] (Ext W5) _ (by kernel_rfl) (by kernel_rfl) rfl (EC.ext W5) ((Ext.refl _).drew) ?_
        simp only [flowOf, treeOf, oneOp, twoOp, opsOf, consOp, callOF, List.getElem?_toArray, List.getElem?_cons_succ, List.getElem?_cons_zero]
        intro ι _ f hf
        have q0 := fun q => ((hf q).box HD5.out.a).1
        have q1 := fun q => ((hf q).box Hq5.out).1
        have q2 := fun q => ((hf q).box HD5.out.b8).1
        clear hf
        repeat (go_big_quiet_step (fail))
        refine wpQuiet_nil ?_
        clear q0 q1 q2
        refine wpOF_flow [IsSl 23 2 #[.int .i64 V0, .int .i64 (w1 - c0), .int .i64 d0, .int .i64 d1], IsV (.agg #[.int .i64 (V0 + d0), .int .i64 (w1 - c0 + d1)]), IsBox W5.heap.size 23 #[.int .i64 0, .int .i64 0]] rfl ⟨isSl_ec 23 2 #[.int .i64 V0, .int .i64 (w1 - c0), .int .i64 d0, .int .i64 d1], isV_ec (.agg #[.int .i64 (V0 + d0), .int .i64 (w1 - c0 + d1)]), isBox_ec W5.heap.size 23 #[.int .i64 0, .int .i64 0], trivial⟩ (flowSteps_cons ?_ (flowSteps_cons ?_ (flowSteps_cons ?_ flowSteps_nil))) ?_
        · intro xs W hlen hS hn
          obtain ⟨x0, x1, x2, rfl⟩ := len3 hlen
          simp only [puts, Act.put, List.setIfInBounds_toArray, List.set_cons_succ, List.set_cons_zero]
          go_wp2_with fail
          exact FlowPost.mk (.slice (some ⟨W.heap.size, 0, none⟩) 2 2) rfl ((Ext.refl _).alloc _) IsSl.new
        · intro xs W hlen hS hn
          obtain ⟨x0, x1, x2, rfl⟩ := len3 hlen
          simp only [puts, Act.put, List.setIfInBounds_toArray, List.set_cons_succ, List.set_cons_zero]
          obtain ⟨b, rfl, hbs⟩ : IsSl 23 2 #[.int .i64 V0, .int .i64 (w1 - c0), .int .i64 d0, .int .i64 d1] x0 W := hn.1
          go_wp2_with (go_at_call 73; refine (Hp2.out W b hbs).mono ?_; rintro e W1 ⟨rfl, hx1⟩)
          exact FlowPost.mk (.agg #[.int .i64 (V0 + d0), .int .i64 (w1 - c0 + d1)]) rfl hx1 rfl
        · intro xs W hlen hS hn
          obtain ⟨x0, x1, x2, rfl⟩ := len3 hlen
          simp only [puts, Act.put, List.setIfInBounds_toArray, List.set_cons_succ, List.set_cons_zero]
          go_wp2_with fail
          exact FlowPost.mk (.pointer (some ⟨W.heap.size, 0, none⟩)) rfl ((Ext.refl _).alloc _) (IsBox.new hS.size)
        intro xs W hlen hS hn
        obtain ⟨x0, x1, x2, rfl⟩ := len3 hlen
        simp only [puts, Act.put, List.setIfInBounds_toArray, List.set_cons_succ, List.set_cons_zero]
        obtain ⟨-, rfl, ⟨g, rfl, hg0, hg⟩, -⟩ := hn
        obtain ⟨y1, y2⟩ := (Ext.refl W).box hg
        have hgl := heap_lt hg
        refine wpOT_one ?_
        go_wp2_with fail
        refine wpOT_done ?_
        have hx6 := set2_ext hS hg0 (.int .i64 (V0 + d0)) (.int .i64 (w1 - c0 + d1))
        have hg6 := set2_box hg (.int .i64 (V0 + d0)) (.int .i64 (w1 - c0 + d1))
        have hD6 := HD5.out.next hx6
        generalize (W.setCell ⟨g, 0, none⟩ (.int .i64 (V0 + d0))).setCell ⟨g, 1, none⟩ (.int .i64 (w1 - c0 + d1)) = W6 at *
        have HD6 := Lib.hid hD6
        have Hg6 := Lib.hid hg6
        clear hD6 hg6
        clear HD5 Hq5 hx6 hg hgl hg0 hS y1 y2 Hp2 hv hlen
        go_upto_region 13 with fail
        have hna := HN0.out
        have hnb := HN1.out
        refine wp_region_plan (.take [0, 1, 2, 3, 4, 5, 6, 7, 8, 9, 10, 11, 12, 13, 14] (.fin (.one 15 .done))) [15] (Ext W6) _ (by kernel_rfl) (by kernel_rfl) rfl (EC.ext W6) ((Ext.refl _).drew) ?_
        simp only [planOf, treeOf, oneOp, twoOp, opsOf, consOp, callOC, oneOC, twoOC, List.getElem?_toArray, List.getElem?_cons_succ, List.getElem?_cons_zero]
        intro ι _ f hf
        have q0 := fun q => ((hf q).box Hg6.out).1
        have q1 := fun q => ((hf q).box HD6.out.b7).1
        clear hf
        repeat (go_big_quiet_step (fail))
        refine wpQuiet_nil ?_
        clear q0 q1
        intro W7 hW7
        refine wpOT_one ?_
        have hD7 := HD6.out.next hW7
        obtain ⟨y3, y4⟩ := (Ext.refl W7).box hD7.a
        have hal := heap_lt hD7.a
        have hD8 := hD7.set 17 18 (.int .i64 N0) (.int .i64 N1)
        simp only [List.setIfInBounds_toArray, List.set_cons_succ, List.set_cons_zero] at hD8
        have HD8 := Lib.hid hD8
        have HD7 := Lib.hid hD7
        clear hD8 hD7
        clear HD6 hW7 Hg6
        go_wp2_with fail
        refine wpOT_done ?_
        clear y3 y4 hal hna hnb ba1 ba2 ba3 bg1 bg2 bg3 bv bc bm
        go_wp2_with fail
        go_roundw
        case rel => exact .inr (.inl ⟨rfl, by rw [if_pos Hoo.out], by have := Hdd.out; omega, HD8.out⟩)
        case measure => decide
      · have hoB : decide (w0 < c1) = false := decide_eq_false hoo
        have Hoo := Lib.hid hoo
        clear hoo
        go_upto_region 10 with fail
        refine wp_region_ext (by kernel_rfl) (by kernel_rfl) (fun f hf hs => ?_)
        have q0 := fun q => ((hf q).box HD4.out.a).1
        have q1 := fun q => ((hf q).box Hq4.out).1
        clear hf hs
        repeat (go_big_quiet_step (fail))
        refine wpQuiet_nil ?_
        intro W5 hW5
        clear q0 q1
        have hD5 := HD4.out.next hW5
        have hq5 := hW5.heap Hq4.out
        have HD5 := Lib.hid hD5
        have Hq5 := Lib.hid hq5
        clear hD5 hq5
        clear HD4 hW5 Hq4
        go_upto_region 12 with fail
        clear hoB
        obtain ⟨ba1, ba2, ba3, bg1, bg2, bg3, bv, bc, bm⟩ := Bnd0.out
        have hp2 := fun (W : World) (b : Nat) (h : W.heap[b]? = some (.cells #[.int .i64 V0, .int .i64 (w1 - c0), .int .i64 d0, .int .i64 d1] 23 (0, 0))) => plus2 h (by omega) (by omega) (by omega) (by omega)
        have hv := HV0.out
        have Hp2 := Lib.hid hp2
        clear hp2
        refine wp_region_flow (.take [0, 1, 2, 3, 4, 5, 6, 7, 8, 9, 10, 11, 12, 13, 14, 15, 16, 17, 18] (.flow [19, 20, 21] [83, 84, 13] [[], [0], []] (.one 22 .done))) [22] (Ext W5) _ (by kernel_rfl) (by kernel_rfl) rfl (EC.ext W5) ((Ext.refl _).drew) ?_
        simp only [flowOf, treeOf, oneOp, twoOp, opsOf, consOp, callOF, List.getElem?_toArray, List.getElem?_cons_succ, List.getElem?_cons_zero]
        intro ι _ f hf
        have q0 := fun q => ((hf q).box HD5.out.a).1
        have q1 := fun q => ((hf q).box Hq5.out).1
        have q2 := fun q => ((hf q).box HD5.out.b8).1
        clear hf
        repeat (go_big_quiet_step (fail))
        refine wpQuiet_nil ?_
        clear q0 q1 q2
        refine wpOF_flow [IsSl 23 2 #[.int .i64 V0, .int .i64 (w1 - c0), .int .i64 d0, .int .i64 d1], IsV (.agg #[.int .i64 (V0 + d0), .int .i64 (w1 - c0 + d1)]), IsBox W5.heap.size 23 #[.int .i64 0, .int .i64 0]] rfl ⟨isSl_ec 23 2 #[.int .i64 V0, .int .i64 (w1 - c0), .int .i64 d0, .int .i64 d1], isV_ec (.agg #[.int .i64 (V0 + d0), .int .i64 (w1 - c0 + d1)]), isBox_ec W5.heap.size 23 #[.int .i64 0, .int .i64 0], trivial⟩ (flowSteps_cons ?_ (flowSteps_cons ?_ (flowSteps_cons ?_ flowSteps_nil))) ?_
        · intro xs W hlen hS hn
          obtain ⟨x0, x1, x2, rfl⟩ := len3 hlen
          simp only [puts, Act.put, List.setIfInBounds_toArray, List.set_cons_succ, List.set_cons_zero]
          go_wp2_with fail
          exact FlowPost.mk (.slice (some ⟨W.heap.size, 0, none⟩) 2 2) rfl ((Ext.refl _).alloc _) IsSl.new
        · intro xs W hlen hS hn
          obtain ⟨x0, x1, x2, rfl⟩ := len3 hlen
          simp only [puts, Act.put, List.setIfInBounds_toArray, List.set_cons_succ, List.set_cons_zero]
          obtain ⟨b, rfl, hbs⟩ : IsSl 23 2 #[.int .i64 V0, .int .i64 (w1 - c0), .int .i64 d0, .int .i64 d1] x0 W := hn.1
          go_wp2_with (go_at_call 73; refine (Hp2.out W b hbs).mono ?_; rintro e W1 ⟨rfl, hx1⟩)
          exact FlowPost.mk (.agg #[.int .i64 (V0 + d0), .int .i64 (w1 - c0 + d1)]) rfl hx1 rfl
        · intro xs W hlen hS hn
          obtain ⟨x0, x1, x2, rfl⟩ := len3 hlen
          simp only [puts, Act.put, List.setIfInBounds_toArray, List.set_cons_succ, List.set_cons_zero]
          go_wp2_with fail
          exact FlowPost.mk (.pointer (some ⟨W.heap.size, 0, none⟩)) rfl ((Ext.refl _).alloc _) (IsBox.new hS.size)
        intro xs W hlen hS hn
        obtain ⟨x0, x1, x2, rfl⟩ := len3 hlen
        simp only [puts, Act.put, List.setIfInBounds_toArray, List.set_cons_succ, List.set_cons_zero]
        obtain ⟨-, rfl, ⟨g, rfl, hg0, hg⟩, -⟩ := hn
        obtain ⟨y1, y2⟩ := (Ext.refl W).box hg
        have hgl := heap_lt hg
        refine wpOT_one ?_
        go_wp2_with fail
        refine wpOT_done ?_
        have hx6 := set2_ext hS hg0 (.int .i64 (V0 + d0)) (.int .i64 (w1 - c0 + d1))
        have hg6 := set2_box hg (.int .i64 (V0 + d0)) (.int .i64 (w1 - c0 + d1))
        have hD6 := HD5.out.next hx6
        generalize (W.setCell ⟨g, 0, none⟩ (.int .i64 (V0 + d0))).setCell ⟨g, 1, none⟩ (.int .i64 (w1 - c0 + d1)) = W6 at *
        have HD6 := Lib.hid hD6
        have Hg6 := Lib.hid hg6
        clear hD6 hg6
        clear HD5 Hq5 hx6 hg hgl hg0 hS y1 y2 Hp2 hv hlen
        go_upto_region 13 with fail
        have hna := HN0.out
        have hnb := HN1.out
        refine wp_region_plan (.take [0, 1, 2, 3, 4, 5, 6, 7, 8, 9, 10, 11, 12, 13, 14] (.fin (.one 15 .done))) [15] (Ext W6) _ (by kernel_rfl) (by kernel_rfl) rfl (EC.ext W6) ((Ext.refl _).drew) ?_
        simp only [planOf, treeOf, oneOp, twoOp, opsOf, consOp, callOC, oneOC, twoOC, List.getElem?_toArray, List.getElem?_cons_succ, List.getElem?_cons_zero]
        intro ι _ f hf
        have q0 := fun q => ((hf q).box Hg6.out).1
        have q1 := fun q => ((hf q).box HD6.out.b7).1
        clear hf
        repeat (go_big_quiet_step (fail))
        refine wpQuiet_nil ?_
        clear q0 q1
        intro W7 hW7
        refine wpOT_one ?_
        have hD7 := HD6.out.next hW7
        obtain ⟨y3, y4⟩ := (Ext.refl W7).box hD7.a
        have hal := heap_lt hD7.a
        have hD8 := hD7.set 17 18 (.int .i64 N0) (.int .i64 N1)
        simp only [List.setIfInBounds_toArray, List.set_cons_succ, List.set_cons_zero] at hD8
        have HD8 := Lib.hid hD8
        have HD7 := Lib.hid hD7
        clear hD8 hD7
        clear HD6 hW7 Hg6
        go_wp2_with fail
        refine wpOT_done ?_
        clear y3 y4 hal hna hnb ba1 ba2 ba3 bg1 bg2 bg3 bv bc bm
        go_wp2_with fail
        go_roundw
        case rel => exact .inr (.inl ⟨rfl, by rw [if_neg (by have := Hoo.out; omega)], by have := Hdd.out; omega, HD8.out⟩)
        case measure => decide
    · have i0 : ∀ w, (Instr.index 129 (.agg #[.int .i64 c0, .int .i64 c1, .int .i64 f0, .int .i64 f1]) (.int .i64 1)).run Tryz.prog w = .ok (.agg #[.int .i64 f0, .int .i64 f1]) w := fun _ => by kernel_rfl
      have Hnd := Lib.hid hnd
      clear hnd
      obtain ⟨F0, hF0⟩ : ∃ x : Int, (if w0 < c1 then 1 else 0) = x := ⟨_, rfl⟩
      rw [hF0]
      have HF0 := Lib.hid hF0
      clear hF0
      have hqn := heap_alloc_new wr (.cells #[.int .i64 f0, .int .i64 f1] 23)
      have hDn := hD.next ((Ext.refl wr).alloc (.cells #[.int .i64 f0, .int .i64 f1] 23))
      obtain ⟨y0, _⟩ := (Ext.refl _).box hDn.h
      have hle := heap_lt hDn.h
      have hqA : wr.heap.size ≠ w.heap.size := by have := heap_lt hD.a; omega
      have HD := Lib.hid hD
      have HDn := Lib.hid hDn
      have Hqn := Lib.hid hqn
      clear hD hDn hqn
      go_upto_region 8 with fail
      generalize wr.alloc (.cells #[.int .i64 f0, .int .i64 f1] 23) = W3 at *
      generalize wr.heap.size = q at *
      clear y0 hle
      by_cases hdd : k1 < f0
      · have hdB : decide (k1 < f0) = true := decide_eq_true hdd
        obtain ⟨hRz, hFz⟩ := day_die (c := ⟨⟨w0, w1⟩, ⟨k0, k1⟩, ⟨o0, o1⟩, mk⟩) HC.out HFC.out (Or.inr hdd)
        rw [HR.out] at hRz
        rw [HF.out] at hFz
        unfold zBeast at hRz
        subst hRz hFz
        clear hdd
        refine wp_region_ext (by kernel_rfl) (by kernel_rfl) (fun f hf hs => ?_)
        have q0 := fun q => ((hf q).box HDn.out.a).1
        have q1 := fun q => ((hf q).box Hqn.out).1
        clear hf hs
        repeat (go_big_quiet_step (fail))
        refine wpQuiet_nil ?_
        intro W4 hW4
        clear q0 q1
        have hD4 := HDn.out.next hW4
        have hr4 := hD4.r
        have hx4 := hD4.ext
        have Hr4 := Lib.hid hr4
        have Hx4 := Lib.hid hx4
        clear hr4 hx4
        clear hD4 HDn hW4 Hqn HD
        go_wp2_with (refine wpList_store_row rfl 83 (.tmp 4) (.tmp 55) rfl (w.heap.size + 1 + 1) #[.int .i64 0, .int .i64 0, .int .i64 0, .int .i64 0, .int .i64 0, .int .i64 0, .int .i64 0, .int .i64 0, .int .i64 0, .int .i64 0, .int .i64 0, .int .i64 0, .int .i64 0, .int .i64 0, .int .i64 0, .int .i64 0, .int .i64 0, .int .i64 0, .int .i64 0, .int .i64 0, .int .i64 0, .int .i64 0, .int .i64 0, .bool false] rfl rfl 83 _ Hr4.out (by kernel_rfl) (by kernel_rfl) (by kernel_rfl) ?_)
        refine bodyPost_ret (results_cell_tmp (P := Tryz.prog) (fn := Tryz.f42) rfl _ _ (w.heap.size + 1 + 1) 83 #[.int .i64 0, .int .i64 0, .int .i64 0, .int .i64 0, .int .i64 0, .int .i64 0, .int .i64 0, .int .i64 0, .int .i64 0, .int .i64 0, .int .i64 0, .int .i64 0, .int .i64 0, .int .i64 0, .int .i64 0, .int .i64 0, .int .i64 0, .int .i64 0, .int .i64 0, .int .i64 0, .int .i64 0, .int .i64 0, .int .i64 0, .bool false] (0, 0) _ rfl (setRow_heap _ _ _ _ 83 (0, 0) Hr4.out) Tryz.underlying83 rfl (by kernel_rfl)) rfl ?_
        exact ⟨rfl, below_setRow Hx4.out (by omega) _⟩
      have hdB : decide (k1 < f0) = false := decide_eq_false hdd
      have Hdd := Lib.hid hdd
      clear hdd
      refine wp_region_ext (by kernel_rfl) (by kernel_rfl) (fun f hf hs => ?_)
      have q0 := fun q => ((hf q).box HDn.out.a).1
      have q1 := fun q => ((hf q).box Hqn.out).1
      clear hf hs
      repeat (go_big_quiet_step (fail))
      refine wpQuiet_nil ?_
      intro W4 hW4
      clear q0 q1
      have hD4 := HDn.out.next hW4
      have hq4 := hW4.heap Hqn.out
      have HD4 := Lib.hid hD4
      have Hq4 := Lib.hid hq4
      clear hD4 hq4
      clear HDn hW4 Hqn HD hdB
      by_cases hoo : k0 < f1
      · have hoB : decide (k0 < f1) = true := decide_eq_true hoo
        have Hoo := Lib.hid hoo
        clear hoo
        go_upto_region 10 with fail
        refine wp_region_ext (by kernel_rfl) (by kernel_rfl) (fun f hf hs => ?_)
        have q0 := fun q => ((hf q).box HD4.out.a).1
        have q1 := fun q => ((hf q).box Hq4.out).1
        clear hf hs
        repeat (go_big_quiet_step (fail))
        refine wpQuiet_nil ?_
        intro W5 hW5
        clear q0 q1
        have hD5 := HD4.out.next hW5
        have hq5 := hW5.heap Hq4.out
        have HD5 := Lib.hid hD5
        have Hq5 := Lib.hid hq5
        clear hD5 hq5
        clear HD4 hW5 Hq4
        go_upto_region 12 with fail
        clear hoB
        obtain ⟨ba1, ba2, ba3, bg1, bg2, bg3, bv, bc, bm⟩ := Bnd1.out
        have hp2 := fun (W : World) (b : Nat) (h : W.heap[b]? = some (.cells #[.int .i64 V2, .int .i64 (k1 - f0), .int .i64 g0, .int .i64 g1] 23 (0, 0))) => plus2 h (by omega) (by omega) (by omega) (by omega)
        have hv := HV2.out
        have Hp2 := Lib.hid hp2
        clear hp2
        refine wp_region_flow (.take [0, 1, 2, 3, 4, 5, 6, 7, 8, 9, 10, 11, 12, 13, 14, 15, 16, 17, 18] (.flow [19, 20, 21] [83, 84, 13] [[], [0], []] (.one 22 .done))) [22] (Ext W5) _ (by kernel_rfl) (by kernel_rfl) rfl (EC.ext W5) ((Ext.refl _).drew) ?_
        simp only [flowOf, treeOf, oneOp, twoOp, opsOf, consOp, callOF, List.getElem?_toArray, List.getElem?_cons_succ, List.getElem?_cons_zero]
        intro ι _ f hf
        have q0 := fun q => ((hf q).box HD5.out.a).1
        have q1 := fun q => ((hf q).box Hq5.out).1
        have q2 := fun q => ((hf q).box HD5.out.b8).1
        clear hf
        repeat (go_big_quiet_step (fail))
        refine wpQuiet_nil ?_
        clear q0 q1 q2
        refine wpOF_flow [IsSl 23 2 #[.int .i64 V2, .int .i64 (k1 - f0), .int .i64 g0, .int .i64 g1], IsV (.agg #[.int .i64 (V2 + g0), .int .i64 (k1 - f0 + g1)]), IsBox W5.heap.size 23 #[.int .i64 0, .int .i64 0]] rfl ⟨isSl_ec 23 2 #[.int .i64 V2, .int .i64 (k1 - f0), .int .i64 g0, .int .i64 g1], isV_ec (.agg #[.int .i64 (V2 + g0), .int .i64 (k1 - f0 + g1)]), isBox_ec W5.heap.size 23 #[.int .i64 0, .int .i64 0], trivial⟩ (flowSteps_cons ?_ (flowSteps_cons ?_ (flowSteps_cons ?_ flowSteps_nil))) ?_
        · intro xs W hlen hS hn
          obtain ⟨x0, x1, x2, rfl⟩ := len3 hlen
          simp only [puts, Act.put, List.setIfInBounds_toArray, List.set_cons_succ, List.set_cons_zero]
          go_wp2_with fail
          exact FlowPost.mk (.slice (some ⟨W.heap.size, 0, none⟩) 2 2) rfl ((Ext.refl _).alloc _) IsSl.new
        · intro xs W hlen hS hn
          obtain ⟨x0, x1, x2, rfl⟩ := len3 hlen
          simp only [puts, Act.put, List.setIfInBounds_toArray, List.set_cons_succ, List.set_cons_zero]
          obtain ⟨b, rfl, hbs⟩ : IsSl 23 2 #[.int .i64 V2, .int .i64 (k1 - f0), .int .i64 g0, .int .i64 g1] x0 W := hn.1
          go_wp2_with (go_at_call 73; refine (Hp2.out W b hbs).mono ?_; rintro e W1 ⟨rfl, hx1⟩)
          exact FlowPost.mk (.agg #[.int .i64 (V2 + g0), .int .i64 (k1 - f0 + g1)]) rfl hx1 rfl
        · intro xs W hlen hS hn
          obtain ⟨x0, x1, x2, rfl⟩ := len3 hlen
          simp only [puts, Act.put, List.setIfInBounds_toArray, List.set_cons_succ, List.set_cons_zero]
          go_wp2_with fail
          exact FlowPost.mk (.pointer (some ⟨W.heap.size, 0, none⟩)) rfl ((Ext.refl _).alloc _) (IsBox.new hS.size)
        intro xs W hlen hS hn
        obtain ⟨x0, x1, x2, rfl⟩ := len3 hlen
        simp only [puts, Act.put, List.setIfInBounds_toArray, List.set_cons_succ, List.set_cons_zero]
        obtain ⟨-, rfl, ⟨g, rfl, hg0, hg⟩, -⟩ := hn
        obtain ⟨y1, y2⟩ := (Ext.refl W).box hg
        have hgl := heap_lt hg
        refine wpOT_one ?_
        go_wp2_with fail
        refine wpOT_done ?_
        have hx6 := set2_ext hS hg0 (.int .i64 (V2 + g0)) (.int .i64 (k1 - f0 + g1))
        have hg6 := set2_box hg (.int .i64 (V2 + g0)) (.int .i64 (k1 - f0 + g1))
        have hD6 := HD5.out.next hx6
        generalize (W.setCell ⟨g, 0, none⟩ (.int .i64 (V2 + g0))).setCell ⟨g, 1, none⟩ (.int .i64 (k1 - f0 + g1)) = W6 at *
        have HD6 := Lib.hid hD6
        have Hg6 := Lib.hid hg6
        clear hD6 hg6
        clear HD5 Hq5 hx6 hg hgl hg0 hS y1 y2 Hp2 hv hlen
        go_upto_region 13 with fail
        have hna := HN2.out
        have hnb := HN3.out
        refine wp_region_plan (.take [0, 1, 2, 3, 4, 5, 6, 7, 8, 9, 10, 11, 12, 13, 14] (.fin (.one 15 .done))) [15] (Ext W6) _ (by kernel_rfl) (by kernel_rfl) rfl (EC.ext W6) ((Ext.refl _).drew) ?_
        simp only [planOf, treeOf, oneOp, twoOp, opsOf, consOp, callOC, oneOC, twoOC, List.getElem?_toArray, List.getElem?_cons_succ, List.getElem?_cons_zero]
        intro ι _ f hf
        have q0 := fun q => ((hf q).box Hg6.out).1
        have q1 := fun q => ((hf q).box HD6.out.b7).1
        clear hf
        repeat (go_big_quiet_step (fail))
        refine wpQuiet_nil ?_
        clear q0 q1
        intro W7 hW7
        refine wpOT_one ?_
        have hD7 := HD6.out.next hW7
        obtain ⟨y3, y4⟩ := (Ext.refl W7).box hD7.a
        have hal := heap_lt hD7.a
        have hD8 := hD7.set 19 20 (.int .i64 N2) (.int .i64 N3)
        simp only [List.setIfInBounds_toArray, List.set_cons_succ, List.set_cons_zero] at hD8
        have HD8 := Lib.hid hD8
        have HD7 := Lib.hid hD7
        clear hD8 hD7
        clear HD6 hW7 Hg6
        go_wp2_with fail
        refine wpOT_done ?_
        clear y3 y4 hal hna hnb ba1 ba2 ba3 bg1 bg2 bg3 bv bc bm
        go_wp2_with fail
        go_roundw
        case rel => exact .inr (.inr ⟨rfl, by rw [if_pos (Or.inr Hoo.out)], by have := Hnd.out; omega, by have := Hdd.out; omega, HD8.out⟩)
        case measure => decide
      · have hoB : decide (k0 < f1) = false := decide_eq_false hoo
        have Hoo := Lib.hid hoo
        clear hoo
        go_upto_region 10 with fail
        refine wp_region_ext (by kernel_rfl) (by kernel_rfl) (fun f hf hs => ?_)
        have q0 := fun q => ((hf q).box HD4.out.a).1
        have q1 := fun q => ((hf q).box Hq4.out).1
        clear hf hs
        repeat (go_big_quiet_step (fail))
        refine wpQuiet_nil ?_
        intro W5 hW5
        clear q0 q1
        have hD5 := HD4.out.next hW5
        have hq5 := hW5.heap Hq4.out
        have HD5 := Lib.hid hD5
        have Hq5 := Lib.hid hq5
        clear hD5 hq5
        clear HD4 hW5 Hq4
        go_upto_region 12 with fail
        clear hoB
        obtain ⟨ba1, ba2, ba3, bg1, bg2, bg3, bv, bc, bm⟩ := Bnd1.out
        have hp2 := fun (W : World) (b : Nat) (h : W.heap[b]? = some (.cells #[.int .i64 V2, .int .i64 (k1 - f0), .int .i64 g0, .int .i64 g1] 23 (0, 0))) => plus2 h (by omega) (by omega) (by omega) (by omega)
        have hv := HV2.out
        have Hp2 := Lib.hid hp2
        clear hp2
        refine wp_region_flow (.take [0, 1, 2, 3, 4, 5, 6, 7, 8, 9, 10, 11, 12, 13, 14, 15, 16, 17, 18] (.flow [19, 20, 21] [83, 84, 13] [[], [0], []] (.one 22 .done))) [22] (Ext W5) _ (by kernel_rfl) (by kernel_rfl) rfl (EC.ext W5) ((Ext.refl _).drew) ?_
        simp only [flowOf, treeOf, oneOp, twoOp, opsOf, consOp, callOF, List.getElem?_toArray, List.getElem?_cons_succ, List.getElem?_cons_zero]
        intro ι _ f hf
        have q0 := fun q => ((hf q).box HD5.out.a).1
        have q1 := fun q => ((hf q).box Hq5.out).1
        have q2 := fun q => ((hf q).box HD5.out.b8).1
        clear hf
        repeat (go_big_quiet_step (fail))
        refine wpQuiet_nil ?_
        clear q0 q1 q2
        refine wpOF_flow [IsSl 23 2 #[.int .i64 V2, .int .i64 (k1 - f0), .int .i64 g0, .int .i64 g1], IsV (.agg #[.int .i64 (V2 + g0), .int .i64 (k1 - f0 + g1)]), IsBox W5.heap.size 23 #[.int .i64 0, .int .i64 0]] rfl ⟨isSl_ec 23 2 #[.int .i64 V2, .int .i64 (k1 - f0), .int .i64 g0, .int .i64 g1], isV_ec (.agg #[.int .i64 (V2 + g0), .int .i64 (k1 - f0 + g1)]), isBox_ec W5.heap.size 23 #[.int .i64 0, .int .i64 0], trivial⟩ (flowSteps_cons ?_ (flowSteps_cons ?_ (flowSteps_cons ?_ flowSteps_nil))) ?_
        · intro xs W hlen hS hn
          obtain ⟨x0, x1, x2, rfl⟩ := len3 hlen
          simp only [puts, Act.put, List.setIfInBounds_toArray, List.set_cons_succ, List.set_cons_zero]
          go_wp2_with fail
          exact FlowPost.mk (.slice (some ⟨W.heap.size, 0, none⟩) 2 2) rfl ((Ext.refl _).alloc _) IsSl.new
        · intro xs W hlen hS hn
          obtain ⟨x0, x1, x2, rfl⟩ := len3 hlen
          simp only [puts, Act.put, List.setIfInBounds_toArray, List.set_cons_succ, List.set_cons_zero]
          obtain ⟨b, rfl, hbs⟩ : IsSl 23 2 #[.int .i64 V2, .int .i64 (k1 - f0), .int .i64 g0, .int .i64 g1] x0 W := hn.1
          go_wp2_with (go_at_call 73; refine (Hp2.out W b hbs).mono ?_; rintro e W1 ⟨rfl, hx1⟩)
          exact FlowPost.mk (.agg #[.int .i64 (V2 + g0), .int .i64 (k1 - f0 + g1)]) rfl hx1 rfl
        · intro xs W hlen hS hn
          obtain ⟨x0, x1, x2, rfl⟩ := len3 hlen
          simp only [puts, Act.put, List.setIfInBounds_toArray, List.set_cons_succ, List.set_cons_zero]
          go_wp2_with fail
          exact FlowPost.mk (.pointer (some ⟨W.heap.size, 0, none⟩)) rfl ((Ext.refl _).alloc _) (IsBox.new hS.size)
        intro xs W hlen hS hn
        obtain ⟨x0, x1, x2, rfl⟩ := len3 hlen
        simp only [puts, Act.put, List.setIfInBounds_toArray, List.set_cons_succ, List.set_cons_zero]
        obtain ⟨-, rfl, ⟨g, rfl, hg0, hg⟩, -⟩ := hn
        obtain ⟨y1, y2⟩ := (Ext.refl W).box hg
        have hgl := heap_lt hg
        refine wpOT_one ?_
        go_wp2_with fail
        refine wpOT_done ?_
        have hx6 := set2_ext hS hg0 (.int .i64 (V2 + g0)) (.int .i64 (k1 - f0 + g1))
        have hg6 := set2_box hg (.int .i64 (V2 + g0)) (.int .i64 (k1 - f0 + g1))
        have hD6 := HD5.out.next hx6
        generalize (W.setCell ⟨g, 0, none⟩ (.int .i64 (V2 + g0))).setCell ⟨g, 1, none⟩ (.int .i64 (k1 - f0 + g1)) = W6 at *
        have HD6 := Lib.hid hD6
        have Hg6 := Lib.hid hg6
        clear hD6 hg6
        clear HD5 Hq5 hx6 hg hgl hg0 hS y1 y2 Hp2 hv hlen
        go_upto_region 13 with fail
        have hna := HN2.out
        have hnb := HN3.out
        refine wp_region_plan (.take [0, 1, 2, 3, 4, 5, 6, 7, 8, 9, 10, 11, 12, 13, 14] (.fin (.one 15 .done))) [15] (Ext W6) _ (by kernel_rfl) (by kernel_rfl) rfl (EC.ext W6) ((Ext.refl _).drew) ?_
        simp only [planOf, treeOf, oneOp, twoOp, opsOf, consOp, callOC, oneOC, twoOC, List.getElem?_toArray, List.getElem?_cons_succ, List.getElem?_cons_zero]
        intro ι _ f hf
        have q0 := fun q => ((hf q).box Hg6.out).1
        have q1 := fun q => ((hf q).box HD6.out.b7).1
        clear hf
        repeat (go_big_quiet_step (fail))
        refine wpQuiet_nil ?_
        clear q0 q1
        intro W7 hW7
        refine wpOT_one ?_
        have hD7 := HD6.out.next hW7
        obtain ⟨y3, y4⟩ := (Ext.refl W7).box hD7.a
        have hal := heap_lt hD7.a
        have hD8 := hD7.set 19 20 (.int .i64 N2) (.int .i64 N3)
        simp only [List.setIfInBounds_toArray, List.set_cons_succ, List.set_cons_zero] at hD8
        have HD8 := Lib.hid hD8
        have HD7 := Lib.hid hD7
        clear hD8 hD7
        clear HD6 hW7 Hg6
        go_wp2_with fail
        refine wpOT_done ?_
        clear y3 y4 hal hna hnb ba1 ba2 ba3 bg1 bg2 bg3 bv bc bm
        go_wp2_with fail
        go_roundw
        case rel => exact .inr (.inr ⟨rfl, by rw [← HF0.out]; simp only [show ¬k0 < f1 by have := Hoo.out; omega, or_false], by have := Hnd.out; omega, by have := Hdd.out; omega, HD8.out⟩)
        case measure => decide
    · obtain ⟨F2, hF2⟩ : ∃ x : Int, (if w0 < c1 ∨ k0 < f1 then 1 else 0) = x := ⟨_, rfl⟩
      rw [hF2]
      obtain ⟨ba1, ba2, ba3, bu1, bu2, bu3, bh, bl, be⟩ := Bnd2.out
      obtain ⟨z0, _⟩ := (Ext.refl _).box hD.a
      obtain ⟨z1, _⟩ := (Ext.refl _).box hD.m
      have hle := heap_lt hD.h
      by_cases hz : hh = 0
      · have hzB : (hh == 0) = true := by simpa using hz
        obtain ⟨S0, hS0⟩ : ∃ x, (if hl < o0 then o0 - hl else 0) = x := ⟨_, rfl⟩
        obtain ⟨S1, hS1⟩ : ∃ x, (if hl < o1 then o1 - hl else 0) = x := ⟨_, rfl⟩
        have hso : soreOf ⟨fu, fe, ⟨r0, r1⟩, ⟨h0, h1⟩, ⟨t0, t1⟩, ⟨b0, b1⟩, ⟨u0, u1⟩, ⟨m0, m1⟩, hl, ⟨s0, s1⟩⟩ ⟨o0, o1⟩ ⟨hh, ll, ⟨e0, e1⟩, ⟨g0, g1⟩, ⟨d0, d1⟩⟩ = ⟨S0, S1⟩ := by
          unfold soreOf
          simp only [hz, if_true]
          rw [← hS0, ← hS1]
          simp only [max_if]
        obtain ⟨hRz, hFz⟩ := day_live (c := ⟨⟨w0, w1⟩, ⟨k0, k1⟩, ⟨o0, o1⟩, mk⟩) HC.out HFC.out hnd hnd2 hso
        simp only at hRz hFz
        rw [HR.out, HV0.out, HV2.out, HN0.out, HN1.out, HN2.out, HN3.out] at hRz
        rw [HF.out, hF2] at hFz
        subst hRz hFz
        have HD := Lib.hid hD
        have HS0 := Lib.hid hS0
        have HS1 := Lib.hid hS1
        clear hD hS0 hS1
        clear hso hz hnd hnd2 hF2
        go_upto_region 17 with fail
        clear z0 z1 hle hzB
        have hs0 := HS0.out
        have hs1 := HS1.out
        refine wp_region_plan (.take [0, 1, 2, 3, 4, 5, 6, 7, 8, 9, 10, 11, 12, 13, 14, 15, 16, 17, 18, 19, 20] (.fin (.one 21 .done))) [21] (Ext wr) _ (by kernel_rfl) (by kernel_rfl) rfl (EC.ext wr) ((Ext.refl _).drew) ?_
        simp only [planOf, treeOf, oneOp, twoOp, opsOf, consOp, callOC, oneOC, twoOC, List.getElem?_toArray, List.getElem?_cons_succ, List.getElem?_cons_zero]
        intro ι _ f hf
        have q0 := fun q => ((hf q).box HD.out.a).1
        clear hf
        repeat (go_big_quiet_step (fail))
        refine wpQuiet_nil ?_
        clear q0
        intro W7 hW7
        refine wpOT_one ?_
        have hD7 := HD.out.next hW7
        obtain ⟨y3, y4⟩ := (Ext.refl _).box hD7.a
        have hal := heap_lt hD7.a
        have hD8 := hD7.set 21 22 (.int .i64 S0) (.int .i64 S1)
        simp only [List.setIfInBounds_toArray, List.set_cons_succ, List.set_cons_zero] at hD8
        have HD8 := Lib.hid hD8
        have HD7 := Lib.hid hD7
        clear hD8 hD7
        go_wp2_with fail
        refine wpOT_done ?_
        clear y3 y4 hal hs0 hs1 ba1 ba2 ba3 bu1 bu2 bu3 bh bl be
        go_wp2_with (first | (refine wpList_load_row rfl 83 (.tmp 2) rfl w.heap.size rfl 83 _ (0, 0) _ HD8.out.a Tryz.underlying83 rfl (by kernel_rfl) ?_) | (refine wpList_store_row rfl 83 (.tmp 4) (.tmp 127) rfl (w.heap.size + 1 + 1) #[.int .i64 fu, .int .i64 fe, .int .i64 r0, .int .i64 r1, .int .i64 h0, .int .i64 h1, .int .i64 t0, .int .i64 t1, .int .i64 b0, .int .i64 b1, .int .i64 u0, .int .i64 u1, .int .i64 m0, .int .i64 m1, .int .i64 hl, .int .i64 s0, .int .i64 s1, .int .i64 N0, .int .i64 N1, .int .i64 N2, .int .i64 N3, .int .i64 S0, .int .i64 S1, .bool mk] rfl rfl 83 _ HD8.out.r (by kernel_rfl) (by kernel_rfl) (by kernel_rfl) ?_))
        refine bodyPost_ret (results_cell_tmp (P := Tryz.prog) (fn := Tryz.f42) rfl _ _ (w.heap.size + 1 + 1) 83 #[.int .i64 fu, .int .i64 fe, .int .i64 r0, .int .i64 r1, .int .i64 h0, .int .i64 h1, .int .i64 t0, .int .i64 t1, .int .i64 b0, .int .i64 b1, .int .i64 u0, .int .i64 u1, .int .i64 m0, .int .i64 m1, .int .i64 hl, .int .i64 s0, .int .i64 s1, .int .i64 N0, .int .i64 N1, .int .i64 N2, .int .i64 N3, .int .i64 S0, .int .i64 S1, .bool mk] (0, 0) _ rfl (setRow_heap _ _ _ _ 83 (0, 0) HD8.out.r) Tryz.underlying83 rfl (by kernel_rfl)) rfl ?_
        exact ⟨rfl, below_setRow HD8.out.ext (by omega) _⟩
      · have hzB : (hh == 0) = false := by simpa using hz
        have pm1 := mul_le2 bu1 bu2 bh.1 (Int.le_refl hh) bu3 bh.2
        have pm2 := mul_le2 pm1.1 pm1.2.1 bl.1 (Int.le_refl ll) pm1.2.2 bl.2
        have pm3 := mul_le2 bu1 (Int.le_refl u0) bh.1 (Int.le_refl hh) (show u0 ≤ 100000 by omega) bh.2
        have pm4 := mul_le2 (show 0 ≤ u1 by omega) (Int.le_refl u1) bh.1 (Int.le_refl hh) bu3 bh.2
        have pm5 := mul_le2 pm4.1 (Int.le_refl _) bl.1 (Int.le_refl ll) pm4.2.2 bl.2
        have u1a := upq_nonneg (a := u1 * hh * ll) (d := 1000000) (by omega) pm5.1
        have u1b := upq_mono (d := 1000000) (by omega) (show u1 * hh * ll ≤ 2400000000000 by omega)
        rw [show upq 2400000000000 1000000 = 2400000 from rfl] at u1b
        have hs2 := fun (W : World) (b : Nat) (h : W.heap[b]? = some (.cells #[.int .i64 hh, .int .i64 ll] 3 (0, 0))) => scaled2 (a := u0) (b := u1) (d := 1000000) h (by omega) (by omega) (by omega) (by omega) (by omega) (by omega) (by omega)
        have hso0 : soreOf ⟨fu, fe, ⟨r0, r1⟩, ⟨h0, h1⟩, ⟨t0, t1⟩, ⟨b0, b1⟩, ⟨u0, u1⟩, ⟨m0, m1⟩, hl, ⟨s0, s1⟩⟩ ⟨o0, o1⟩ ⟨hh, ll, ⟨e0, e1⟩, ⟨g0, g1⟩, ⟨d0, d1⟩⟩ = ⟨min 1000 (o0 + u0 * hh * ll / 1000000), min 1000 (o1 + upq (u1 * hh * ll) 1000000)⟩ := by
          unfold soreOf
          simp only [hz, if_false]
        obtain ⟨Q0, hQ0⟩ : ∃ x, u0 * hh * ll = x := ⟨_, rfl⟩
        obtain ⟨X1, hX1⟩ : ∃ x, upq (u1 * hh * ll) 1000000 = x := ⟨_, rfl⟩
        rw [hQ0] at hs2 hso0 pm2
        rw [hX1] at hs2 hso0 u1a u1b
        have x0b : 0 ≤ Q0 / 1000000 ∧ Q0 / 1000000 ≤ 2400000 := by omega
        obtain ⟨X0, hX0⟩ : ∃ x, Q0 / 1000000 = x := ⟨_, rfl⟩
        rw [hX0] at hs2 hso0 x0b
        have hp2 := fun (W : World) (b : Nat) (h : W.heap[b]? = some (.cells #[.int .i64 o0, .int .i64 o1, .int .i64 X0, .int .i64 X1] 23 (0, 0))) => plus2 h (by omega) (by omega) (by omega) (by omega)
        obtain ⟨S0, hS0⟩ : ∃ x, (if o0 + X0 < 1000 then o0 + X0 else 1000) = x := ⟨_, rfl⟩
        obtain ⟨S1, hS1⟩ : ∃ x, (if o1 + X1 < 1000 then o1 + X1 else 1000) = x := ⟨_, rfl⟩
        have hso : soreOf ⟨fu, fe, ⟨r0, r1⟩, ⟨h0, h1⟩, ⟨t0, t1⟩, ⟨b0, b1⟩, ⟨u0, u1⟩, ⟨m0, m1⟩, hl, ⟨s0, s1⟩⟩ ⟨o0, o1⟩ ⟨hh, ll, ⟨e0, e1⟩, ⟨g0, g1⟩, ⟨d0, d1⟩⟩ = ⟨S0, S1⟩ := by
          rw [hso0, ← hS0, ← hS1]
          simp only [min_if]
        obtain ⟨hRz, hFz⟩ := day_live (c := ⟨⟨w0, w1⟩, ⟨k0, k1⟩, ⟨o0, o1⟩, mk⟩) HC.out HFC.out hnd hnd2 hso
        simp only at hRz hFz
        rw [HR.out, HV0.out, HV2.out, HN0.out, HN1.out, HN2.out, HN3.out] at hRz
        rw [HF.out, hF2] at hFz
        subst hRz hFz
        have HD := Lib.hid hD
        have HS0 := Lib.hid hS0
        have HS1 := Lib.hid hS1
        have Hs2 := Lib.hid hs2
        have Hp2 := Lib.hid hp2
        clear hD hS0 hS1 hs2 hp2
        clear hso hso0 hz hnd hnd2 hF2 pm1 pm2 pm3 pm4 pm5 hQ0 hX1 hX0
        go_upto_region 19 with fail
        clear z0 z1 hle hzB
        refine wp_region_flow (.take [0, 1, 2, 3, 4, 5, 6, 7, 8, 9] (.flow [10, 11, 12, 13, 14] [139, 140, 141, 142, 15] [[], [0], [1], [2], []] (.one 15 .done))) [15] (Ext wr) _ (by kernel_rfl) (by kernel_rfl) rfl (EC.ext wr) ((Ext.refl _).drew) ?_
        simp only [flowOf, treeOf, oneOp, twoOp, opsOf, consOp, callOF, List.getElem?_toArray, List.getElem?_cons_succ, List.getElem?_cons_zero]
        intro ι _ f hf
        have q0 := fun q => ((hf q).box HD.out.a).1
        have q1 := fun q => ((hf q).box HD.out.m).1
        clear hf
        repeat (go_big_quiet_step (fail))
        refine wpQuiet_nil ?_
        clear q0 q1
        refine wpOF_flow [IsSl 3 2 #[.int .i64 hh, .int .i64 ll], IsV (.agg #[.int .i64 X0, .int .i64 X1]), IsSl 23 2 #[.int .i64 o0, .int .i64 o1, .int .i64 X0, .int .i64 X1], IsV (.agg #[.int .i64 (o0 + X0), .int .i64 (o1 + X1)]), IsBox wr.heap.size 23 #[.int .i64 0, .int .i64 0]] rfl ⟨isSl_ec 3 2 #[.int .i64 hh, .int .i64 ll], isV_ec (.agg #[.int .i64 X0, .int .i64 X1]), isSl_ec 23 2 #[.int .i64 o0, .int .i64 o1, .int .i64 X0, .int .i64 X1], isV_ec (.agg #[.int .i64 (o0 + X0), .int .i64 (o1 + X1)]), isBox_ec wr.heap.size 23 #[.int .i64 0, .int .i64 0], trivial⟩ (flowSteps_cons ?_ (flowSteps_cons ?_ (flowSteps_cons ?_ (flowSteps_cons ?_ (flowSteps_cons ?_ flowSteps_nil))))) ?_
        · intro xs W hlen hS hn
          obtain ⟨x0, x1, x2, x3, x4, rfl⟩ := len5 hlen
          simp only [puts, Act.put, List.setIfInBounds_toArray, List.set_cons_succ, List.set_cons_zero]
          go_wp2_with fail
          exact FlowPost.mk (.slice (some ⟨W.heap.size, 0, none⟩) 2 2) rfl ((Ext.refl _).alloc _) IsSl.new
        · intro xs W hlen hS hn
          obtain ⟨x0, x1, x2, x3, x4, rfl⟩ := len5 hlen
          simp only [puts, Act.put, List.setIfInBounds_toArray, List.set_cons_succ, List.set_cons_zero]
          obtain ⟨b, rfl, hbs⟩ : IsSl 3 2 #[.int .i64 hh, .int .i64 ll] x0 W := hn.1
          go_wp2_with (go_at_call 74; refine (Hs2.out W b hbs).mono ?_; rintro e W1 ⟨rfl, hx1⟩)
          exact FlowPost.mk (.agg #[.int .i64 X0, .int .i64 X1]) rfl hx1 rfl
        · intro xs W hlen hS hn
          obtain ⟨x0, x1, x2, x3, x4, rfl⟩ := len5 hlen
          simp only [puts, Act.put, List.setIfInBounds_toArray, List.set_cons_succ, List.set_cons_zero]
          obtain rfl : x1 = .agg #[.int .i64 X0, .int .i64 X1] := hn.1
          go_wp2_with fail
          exact FlowPost.mk (.slice (some ⟨W.heap.size, 0, none⟩) 2 2) rfl ((Ext.refl _).alloc _) IsSl.new
        · intro xs W hlen hS hn
          obtain ⟨x0, x1, x2, x3, x4, rfl⟩ := len5 hlen
          simp only [puts, Act.put, List.setIfInBounds_toArray, List.set_cons_succ, List.set_cons_zero]
          obtain ⟨b, rfl, hbs⟩ : IsSl 23 2 #[.int .i64 o0, .int .i64 o1, .int .i64 X0, .int .i64 X1] x2 W := hn.1
          go_wp2_with (go_at_call 73; refine (Hp2.out W b hbs).mono ?_; rintro e W1 ⟨rfl, hx1⟩)
          exact FlowPost.mk (.agg #[.int .i64 (o0 + X0), .int .i64 (o1 + X1)]) rfl hx1 rfl
        · intro xs W hlen hS hn
          obtain ⟨x0, x1, x2, x3, x4, rfl⟩ := len5 hlen
          simp only [puts, Act.put, List.setIfInBounds_toArray, List.set_cons_succ, List.set_cons_zero]
          go_wp2_with fail
          exact FlowPost.mk (.pointer (some ⟨W.heap.size, 0, none⟩)) rfl ((Ext.refl _).alloc _) (IsBox.new hS.size)
        intro xs W hlen hS hn
        obtain ⟨x0, x1, x2, x3, x4, rfl⟩ := len5 hlen
        simp only [puts, Act.put, List.setIfInBounds_toArray, List.set_cons_succ, List.set_cons_zero]
        obtain ⟨-, -, -, rfl, ⟨g, rfl, hg0, hg⟩, -⟩ := hn
        obtain ⟨y1, y2⟩ := (Ext.refl W).box hg
        have hgl := heap_lt hg
        refine wpOT_one ?_
        go_wp2_with fail
        refine wpOT_done ?_
        have hx6 := set2_ext hS hg0 (.int .i64 (o0 + X0)) (.int .i64 (o1 + X1))
        have hg6 := set2_box hg (.int .i64 (o0 + X0)) (.int .i64 (o1 + X1))
        have hD7 := HD.out.next hx6
        generalize (W.setCell ⟨g, 0, none⟩ (.int .i64 (o0 + X0))).setCell ⟨g, 1, none⟩ (.int .i64 (o1 + X1)) = W6 at *
        clear hx6 hg hgl hg0 hS y1 y2 Hs2 Hp2 hlen HD
        obtain ⟨y3, y4⟩ := (Ext.refl _).box hD7.a
        obtain ⟨y5, _⟩ := (Ext.refl _).box hg6
        have hal := heap_lt hD7.a
        have hal2 := heap_lt hg6
        have hs0 := HS0.out
        have hs1 := HS1.out
        have hD8 := hD7.set 21 22 (.int .i64 S0) (.int .i64 S1)
        simp only [List.setIfInBounds_toArray, List.set_cons_succ, List.set_cons_zero] at hD8
        have HD8 := Lib.hid hD8
        have HD7 := Lib.hid hD7
        clear hD8 hD7
        go_upto_region 21 with fail
        clear y3 y4 y5 hal hal2 hs0 hs1 ba1 ba2 ba3 bu1 bu2 bu3 bh bl be hg6 u1a u1b x0b
        go_wp2_with (first | (refine wpList_load_row rfl 83 (.tmp 2) rfl w.heap.size rfl 83 _ (0, 0) _ HD8.out.a Tryz.underlying83 rfl (by kernel_rfl) ?_) | (refine wpList_store_row rfl 83 (.tmp 4) (.tmp 152) rfl (w.heap.size + 1 + 1) #[.int .i64 fu, .int .i64 fe, .int .i64 r0, .int .i64 r1, .int .i64 h0, .int .i64 h1, .int .i64 t0, .int .i64 t1, .int .i64 b0, .int .i64 b1, .int .i64 u0, .int .i64 u1, .int .i64 m0, .int .i64 m1, .int .i64 hl, .int .i64 s0, .int .i64 s1, .int .i64 N0, .int .i64 N1, .int .i64 N2, .int .i64 N3, .int .i64 S0, .int .i64 S1, .bool mk] rfl rfl 83 _ HD8.out.r (by kernel_rfl) (by kernel_rfl) (by kernel_rfl) ?_))
        refine bodyPost_ret (results_cell_tmp (P := Tryz.prog) (fn := Tryz.f42) rfl _ _ (w.heap.size + 1 + 1) 83 #[.int .i64 fu, .int .i64 fe, .int .i64 r0, .int .i64 r1, .int .i64 h0, .int .i64 h1, .int .i64 t0, .int .i64 t1, .int .i64 b0, .int .i64 b1, .int .i64 u0, .int .i64 u1, .int .i64 m0, .int .i64 m1, .int .i64 hl, .int .i64 s0, .int .i64 s1, .int .i64 N0, .int .i64 N1, .int .i64 N2, .int .i64 N3, .int .i64 S0, .int .i64 S1, .bool mk] (0, 0) _ rfl (setRow_heap _ _ _ _ 83 (0, 0) HD8.out.r) Tryz.underlying83 rfl (by kernel_rfl)) rfl ?_
        exact ⟨rfl, below_setRow HD8.out.ext (by omega) _⟩
end Go.Proofs.YtcoelhpmkhimpaaGreatDoor
