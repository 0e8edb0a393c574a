/- Whole blocks loaded and stored, in a fenced walk. No function of the program is named here. -/
import Derived.Test.YtcoelhpmkhimpaaGreatVGb
import Derived.Laws.CopyOwn
import Derived.Test.YtcoelhpmkhimpaaGreatVDayC
namespace Go.Proofs.YtcoelhpmkhimpaaGreat
open Go.RowKit
set_option linter.unusedVariables false
section
variable {P : Program} {ops : Array Oper} {Q : Exit → Act → World → Prop} {n l : Nat}
theorem wpIn_wide_of_wp {o : Oper} (hd : noDefer o = true) {K : Act → World → Prop} {a : Act} {w : World} (h : o.wp P a w K Q) : o.wpIn Fence.wide n P a w K Q := by
  refine ⟨fun _ _ => trivial, ?_⟩
  rw [Oper.semAt_eq _ _ _ (noDefer_ne hd)]
  unfold Oper.wp at h
  generalize (execOp a.eval o).run P w = r at *
  cases r with
  | ok x w' =>
    cases x <;> simp only [Oper.upon, Oper.uponIn] at h ⊢ <;>
      first
        | exact h
        | exact ⟨(fun e => by cases e), (callsIn_wide (n := n - 1)).2 h⟩
        | exact ⟨(fun e => by cases e), fun c cs _ => let ⟨v, w', r, s⟩ := h c cs; ⟨v, w', r, stepsIn_wide.2 s⟩⟩
  | halt x w' => cases x <;> simp only [Oper.upon, Oper.uponIn] at h ⊢ <;> exact h
/-- some of a block's cells are read at once -/
theorem wp_load_part {o : Oper} {a : Act} {w : World} {K : Act → World → Prop} (ty : TypeId) (x : Operand) (ho : o.op = .load ty x)
    (g off : Nat) (hx : a.eval x = .pointer (some ⟨g, off, none⟩)) (t : TypeId) (cs : Array Value) (fr : Nat × Nat) (d : TypeDesc) (hg : w.heap[g]? = some (.cells cs t fr)) (part : List Value) (hpart : (cs.toList.drop off).take part.length = part)
    (hu : P.underlying ty = some d) (hd : (match d with | .struct _ | .array _ _ => true | _ => false) = true) (hi : (P.info? ty).map (·.size) = some part.length)
    (h : K (a.put o.dst (.agg part.toArray)) w) : o.wp P a w K Q := by
  have hl : (loadCells ⟨g, off, none⟩ part.length).run P w = .ok part.toArray w :=
    run_loadCells_list (P := P) w ⟨g, off, none⟩ part (fun j v hv => by
      have hadd : (⟨g, off, none⟩ : Addr).add j = ⟨g, off + j, none⟩ := addr_add' g off j
      rw [hadd, cell_of_row w g (off + j) cs t fr hg]
      rw [← hpart] at hv
      rw [List.getElem?_take] at hv
      split at hv
      · rw [List.getElem?_drop] at hv
        simpa using hv
      · cases hv)
  have hagg : (isAgg ty).run P w = .ok true w := by
    unfold isAgg
    rw [Sem.run_bind, run_underlying hu w]
    cases d <;> simp_all
  cases hq : P.info? ty with
  | none => simp [hq] at hi
  | some i =>
    have hs : i.size = part.length := by simpa [hq] using hi
    have hv : (loadVar ty ⟨g, off, none⟩).run P w = .ok (.agg part.toArray) w := by simp [loadVar, Sem.run_bind, hagg, sizeOf, typeInfo, hq, hs, hl]
    unfold Oper.wp execOp
    simp only [ho, hx, Instr.loadAt, Instr.sureAddr, Sem.run_bind, Sem.run_pure, Result.andThen_ok, hv]
    exact h
theorem noDefer_load {o : Oper} {ty : TypeId} {x : Operand} (ho : o.op = .load ty x) : noDefer o = true := by unfold noDefer; rw [ho]
theorem noDefer_store {o : Oper} {ty : TypeId} {x y : Operand} (ho : o.op = .store ty x y) : noDefer o = true := by unfold noDefer; rw [ho]
theorem wpListW_load_part {rest : List Oper} {o : Oper} {a : Act} {w : World} (hgd : o.guard = none) (ty : TypeId) (x : Operand) (ho : o.op = .load ty x)
    (g off : Nat) (hx : a.eval x = .pointer (some ⟨g, off, none⟩)) (t : TypeId) (cs : Array Value) (fr : Nat × Nat) (d : TypeDesc) (hg : w.heap[g]? = some (.cells cs t fr)) (part : List Value) (hpart : (cs.toList.drop off).take part.length = part)
    (hu : P.underlying ty = some d) (hd : (match d with | .struct _ | .array _ _ => true | _ => false) = true) (hi : (P.info? ty).map (·.size) = some part.length)
    (h : wpListIn Fence.wide n P ops Q rest (a.put o.dst (.agg part.toArray)) w) : wpListIn Fence.wide n P ops Q (o :: rest) a w :=
  wpListIn_plain hgd fun K hK => wpIn_wide_of_wp (noDefer_load ho) (wp_load_part ty x ho g off hx t cs fr d hg part hpart hu hd hi (hK _ _ h))
theorem wpListR_load_part {rest : List Oper} {o : Oper} {a : Act} {w : World} (hgd : o.guard = none) (ty : TypeId) (x : Operand) (ho : o.op = .load ty x)
    (g off : Nat) (hx : a.eval x = .pointer (some ⟨g, off, none⟩)) (t : TypeId) (cs : Array Value) (fr : Nat × Nat) (d : TypeDesc) (hg : w.heap[g]? = some (.cells cs t fr)) (part : List Value) (hpart : (cs.toList.drop off).take part.length = part)
    (hu : P.underlying ty = some d) (hd : (match d with | .struct _ | .array _ _ => true | _ => false) = true) (hi : (P.info? ty).map (·.size) = some part.length)
    (h : wpListIn (Fence.wide.inRound l) 0 P ops Q rest (a.put o.dst (.agg part.toArray)) w) : wpListIn (Fence.wide.inRound l) 0 P ops Q (o :: rest) a w :=
  wpListIn_plain hgd fun K hK => wpIn_of_wp (noDefer_load ho) (wp_load_part ty x ho g off hx t cs fr d hg part hpart hu hd hi (hK _ _ h))
theorem wpListW_store_row {rest : List Oper} {o : Oper} {a : Act} {w : World} (hgd : o.guard = none) (ty : TypeId) (x y : Operand) (ho : o.op = .store ty x y)
    (g : Nat) (cells : Array Value) (hx : a.eval x = .pointer (some ⟨g, 0, none⟩)) (hy : a.eval y = .agg cells)
    (t : TypeId) (old : Array Value) (hg : w.heap[g]? = some (.cells old t (0, 0))) (hi : (P.info? ty).map (·.size) = some cells.size)
    (hold : old.size = cells.size) (h1 : cells.all (·.oneCell') = true)
    (h : wpListIn Fence.wide n P ops Q rest (a.put o.dst undef) (w.setRow g cells)) : wpListIn Fence.wide n P ops Q (o :: rest) a w :=
  wpListIn_plain hgd fun K hK => wpIn_wide_of_wp (noDefer_store ho) (wp_store_row ty x y ho g cells hx hy t old hg hi hold h1 (hK _ _ h))
theorem wpListR_store_row {rest : List Oper} {o : Oper} {a : Act} {w : World} (hgd : o.guard = none) (ty : TypeId) (x y : Operand) (ho : o.op = .store ty x y)
    (g : Nat) (cells : Array Value) (hx : a.eval x = .pointer (some ⟨g, 0, none⟩)) (hy : a.eval y = .agg cells)
    (t : TypeId) (old : Array Value) (hg : w.heap[g]? = some (.cells old t (0, 0))) (hi : (P.info? ty).map (·.size) = some cells.size)
    (hold : old.size = cells.size) (h1 : cells.all (·.oneCell') = true)
    (h : wpListIn (Fence.wide.inRound l) 0 P ops Q rest (a.put o.dst undef) (w.setRow g cells)) : wpListIn (Fence.wide.inRound l) 0 P ops Q (o :: rest) a w :=
  wpListIn_plain hgd fun K hK => wpIn_of_wp (noDefer_store ho) (wp_store_row ty x y ho g cells hx hy t old hg hi hold h1 (hK _ _ h))
end
end Go.Proofs.YtcoelhpmkhimpaaGreat

/- The iterator over the days of an animal: its contract. -/
namespace Go.Proofs.YtcoelhpmkhimpaaGreat
open Go.RowKit
set_option linter.unusedVariables false
set_option linter.unusedSimpArgs false
attribute [local go_sem] Oper.semAt_some
/-- whatever cells are not in O's blocks lie as they lay -/
structure KpO (O : Nat → Prop) (W W' : World) : Prop where
  size : W.heap.size ≤ W'.heap.size
  block : ∀ b o, W.heap[b]? = some o → o.isCells = true → ¬O b → W'.heap[b]? = some o
theorem KpO.refl (O : Nat → Prop) (W : World) : KpO O W W := ⟨Nat.le_refl _, fun _ _ h _ _ => h⟩
theorem KpO.trans {O : Nat → Prop} {A B C : World} (h : KpO O A B) (k : KpO O B C) : KpO O A C := ⟨Nat.le_trans h.size k.size, fun b o hb hc hn => k.block b o (h.block b o hb hc hn) hc hn⟩
theorem Ext.kpO {A B : World} (h : Ext A B) (O : Nat → Prop) : KpO O A B := ⟨h.size, fun b o hb _ _ => h.heap hb⟩
theorem KpO.cells {O : Nat → Prop} {A B : World} (h : KpO O A B) {b : Nat} {cs : Array Value} {t : TypeId} {f : Nat × Nat} (hb : A.heap[b]? = some (.cells cs t f)) (hn : ¬O b) : B.heap[b]? = some (.cells cs t f) := h.block b _ hb rfl hn
theorem KpO.cell {O : Nat → Prop} {A B : World} (h : KpO O A B) {a : Addr} {v : Value} (hc : A.cell? a = some v) (hn : ¬O a.block) : B.cell? a = some v := by
  obtain ⟨o, ho, hoc⟩ := cells_of_cell hc
  exact (World.cell?_of_block ((h.block _ o ho hoc hn).trans ho.symm)).trans hc
theorem kpO_t {O : Nat → Prop} {A B C : World} (h : KpO O A B) (k : KpO O B C) : KpO O A C := h.trans k
theorem kpO_b {O : Nat → Prop} {n : Nat} (W : World) (l : Nat) (o o' : Obj) (_ : n ≤ l) (hl : W.heap[l]? = some o) (ho : o.isCells = false) (_ : o.isWalk = false) : KpO O W (W.putObj l o') := by
  refine ⟨by rw [World.putObj_size]; exact Nat.le_refl _, fun b p hb hc _ => ?_⟩
  refine (World.putObj_heap_other (fun e => ?_)).trans hb
  subst e
  rw [hl] at hb
  cases hb
  rw [ho] at hc
  cases hc
theorem SlAt.kpO {O : Nat → Prop} {A B : World} {sz : Nat} {a : Option Addr} {n : Nat} {f : Nat → List Value} (h : SlAt A sz a n f) (k : KpO O A B) (hn : ∀ x, a = some x → ¬O x.block) : SlAt B sz a n f := fun h0 => by
  obtain ⟨b, off, ha, hc⟩ := h h0
  exact ⟨b, off, ha, fun i hi j v hv => k.cell (hc i hi j v hv) (show ¬O b from hn _ ha)⟩
theorem but_setRow {O : Nat → Prop} (W : World) (b : Nat) (cs : Array Value) (hO : O b) : But O W (W.setRow b cs) :=
  ⟨rfl, rfl, rfl, by simp [World.setRow], fun k o hk hn => (setRow_other _ _ _ _ (fun e => hn (by rw [e]; exact hO))).trans hk⟩
def zBreed : Breed := ⟨0, 0, ⟨0, 0⟩, ⟨0, 0⟩, ⟨0, 0⟩, ⟨0, 0⟩, ⟨0, 0⟩, ⟨0, 0⟩, 0, ⟨0, 0⟩⟩
theorem zBeast_eq : zBeast = beastVal zBreed zcamel := rfl
/-- what the iterator hands to a loop's body -/
structure DayStep where
  b : Breed
  c : Camel
  f : Int
def DayStep.enc (x : DayStep) : Array Value := #[beastVal x.b x.c, .int .u8 x.f]
def stepOf (s : Breed) (c : Camel) (m : March) : DayStep := if diesB s c m then ⟨zBreed, zcamel, 2⟩ else ⟨s, nextOf s c m, if safeB s c m then 0 else 1⟩
def seqOf (s : Breed) : Camel → List March → List DayStep
  | _, [] => []
  | c, m :: l => if diesB s c m then [⟨zBreed, zcamel, 2⟩] else stepOf s c m :: seqOf s (nextOf s c m) l
theorem dayVal_step (s : Breed) (c : Camel) (m : March) : dayVal s c m = beastVal (stepOf s c m).b (stepOf s c m).c ∧ dayFate s c m = (stepOf s c m).f := by
  unfold dayVal dayFate stepOf
  cases diesB s c m
  · simp
  · exact ⟨zBeast_eq, rfl⟩
theorem seq_drop {s : Breed} {c : Camel} {l : List March} {k : Nat} {m : March} (h : l[k]? = some m) : seqOf s c (l.drop k) = if diesB s c m then [⟨zBreed, zcamel, 2⟩] else stepOf s c m :: seqOf s (nextOf s c m) (l.drop (k + 1)) := by
  have hk := (List.getElem?_eq_some_iff.1 h).1
  have e : l.drop k = m :: l.drop (k + 1) := by
    rw [List.drop_eq_getElem_cons hk]
    congr 1
    have := List.getElem?_eq_getElem hk
    rw [h] at this
    exact (Option.some.inj this).symm
  rw [e]
  rfl
def bCells (s : Breed) (c : Camel) : List Value := [.int .i64 s.full, .int .i64 s.fed, .int .i64 s.rest.lo, .int .i64 s.rest.hi, .int .i64 s.heat.lo, .int .i64 s.heat.hi, .int .i64 s.toil.lo, .int .i64 s.toil.hi, .int .i64 s.burn.lo, .int .i64 s.burn.hi, .int .i64 s.rub.lo, .int .i64 s.rub.hi, .int .i64 s.milk.lo, .int .i64 s.milk.hi, .int .i64 s.heal, .int .i64 s.strong.lo, .int .i64 s.strong.hi,
  .int .i64 c.water.lo, .int .i64 c.water.hi, .int .i64 c.fat.lo, .int .i64 c.fat.hi, .int .i64 c.sore.lo, .int .i64 c.sore.hi, .bool c.milks]
theorem beastVal_eq (s : Breed) (c : Camel) : beastVal s c = .agg (bCells s c).toArray := rfl
def zbCells : Array Value := #[.int .i64 0, .int .i64 0, .int .i64 0, .int .i64 0, .int .i64 0, .int .i64 0, .int .i64 0, .int .i64 0, .int .i64 0, .int .i64 0, .int .i64 0, .int .i64 0, .int .i64 0, .int .i64 0, .int .i64 0, .int .i64 0, .int .i64 0, .int .i64 0, .int .i64 0, .int .i64 0, .int .i64 0, .int .i64 0, .int .i64 0, .bool false]
theorem daysFn_any (s : Breed) (c : Camel) (la : Option Addr) (ln lc : Nat) (w : World) : Calls Tryz.prog 40 #[beastVal s c, .slice la ln lc] w fun e w' => e = .returned (.func (.func 65) #[] #[.pointer (some ⟨w.heap.size + 1, 0, none⟩), .pointer (some ⟨w.heap.size, 0, none⟩)]) ∧ w' = (w.alloc (.cells (bCells s c).toArray 96)).alloc (.cells #[.slice la ln lc] 92) := by
  unfold beastVal bCells
  go_enter Tryz.func40, Tryz.ntmps40
  go_wp2_with fail
  go_ret
  exact ⟨rfl, rfl⟩
set_option maxRecDepth 100000 in
set_option maxHeartbeats 8000000 in
theorem days1_any (n : Nat) (y pl pa : Nat) (la : Option Addr) (ln lc : Nat) (l : List March) (s : Breed) (c : Camel) (O : Nat → Prop) (W : World) (hL : W.heap[pl]? = some (.cells #[.slice la ln lc] 92 (0, 0))) (hA : W.heap[pa]? = some (.cells (bCells s c).toArray 96 (0, 0))) (hl : DaysAt W la ln l)
    (hb : BreedOk s) (hc : CamelOk s c) (hd : ∀ m ∈ l, DayOk m) (hln : ln ≤ 1000000) (hlc : ln ≤ lc) (hlm : lc ≤ maxLen)
    (hOl : ¬O pl) (hOa : ¬O pa) (hOs : ∀ x, la = some x → ¬O x.block ∧ x.block ≠ pa) (hne : pl ≠ pa) (hO : ∀ b, O b → b < W.heap.size) (J Jx : List DayStep → World → Prop) (hJ : ∀ s A B, J s A → But (fun b => b = pa) A B → J s B)
    (hY : ∀ pre x W1, J pre W1 → pre.length < (seqOf s c l).length → YieldAt Fence.wide (n - 1) Tryz.prog y (DayStep.enc x) W1 fun e W' =>
      (e = .returned (.bool true) ∧ J (pre ++ [x]) W' ∧ KpO O W1 W') ∨ (e = .returned (.bool false) ∧ Jx (pre ++ [x]) W'))
    (h0 : J [] W) :
    CallsIn Fence.wide n Tryz.prog 65 #[.func (.yield y) #[] #[], .pointer (some ⟨pl, 0, none⟩), .pointer (some ⟨pa, 0, none⟩)] W fun e W' => (∃ v, e = .returned v) ∧ ((∃ xs, xs = seqOf s c l ∧ J xs W') ∨ (∃ pre, pre <+: seqOf s c l ∧ Jx pre W')) := by
  have hll := hl.1
  unfold maxLen at hlm
  obtain ⟨z, _⟩ := (Ext.refl W).box hL
  have HL := Lib.hid hL
  have HA := Lib.hid hA
  have Hl := Lib.hid hl
  have Hb := Lib.hid hb
  have Hc := Lib.hid hc
  have Hd := Lib.hid hd
  have HOl := Lib.hid hOl
  have HOa := Lib.hid hOa
  have HOs := Lib.hid hOs
  have HO := Lib.hid hO
  have HJ := Lib.hid hJ
  have HY := Lib.hid hY
  have Hll := Lib.hid hll
  clear hL hA hl hb hc hd hOl hOa hOs hO hJ hY hll
  refine callsIn_of_wp Tryz.func65 rfl trivial ?_ rfl
  simp only [Tryz.ntmps65, List.size_toArray, List.length_cons, List.length_nil, Nat.reduceAdd, Nat.reduceSub, Array.replicate_succ, Array.replicate_zero, List.push_toArray, List.append_toArray, List.nil_append, List.cons_append]
  gi_wp2
  gi_loopw [10] (fun i wr => ∃ (k : Nat) (pre : List DayStep) (c' : Camel), k ≤ ln ∧ i = .int .i64 k ∧ J pre wr ∧ pre ++ seqOf s c' (l.drop k) = seqOf s c l ∧ CamelOk s c' ∧ wr.heap[pa]? = some (.cells (bCells s c').toArray 96 (0, 0)) ∧ wr.heap[pl]? = some (.cells #[.slice la ln lc] 92 (0, 0)) ∧ DaysAt wr la ln l ∧ W.heap.size ≤ wr.heap.size) (fun i _ => ln - (intOf i).toNat)
  case atStart => exact ⟨0, [], c, Nat.zero_le _, rfl, h0, rfl, Hc.out, HA.out, HL.out, Hl.out, Nat.le_refl _⟩
  case round =>
    obtain ⟨k, pre, c', hk, rfl, hj, hseq, hcc, ha, hlw, hlt', hsz⟩ := hrel
    clear h0
    by_cases hlt : k < ln
    · have hltB : decide ((k : Int) < (ln : Int)) = true := by simp; omega
      obtain ⟨lb, lo, m, rfl, hmk, hlb, c0, c1, c2, c3, c4, c5, c6, c7⟩ := hlt'.get k hlt
      have hdm := Hd.out m (List.mem_of_getElem? hmk)
      rw [seq_drop hmk] at hseq
      have hday := fun W => day_any s c' m W Hb.out hcc hdm
      rw [(dayVal_step s c' m).1, (dayVal_step s c' m).2, beastVal_eq, beastVal_eq] at hday
      obtain ⟨hh, ll, ⟨e0, e1⟩, ⟨g0, g1⟩, ⟨d0, d1⟩⟩ := m
      unfold March.val at hday
      simp only at c0 c1 c2 c3 c4 c5 c6 c7 hday
      have hx1 : Ext wr (wr.alloc (.cells #[.int .i64 hh, .int .i64 ll, .int .i64 e0, .int .i64 e1, .int .i64 g0, .int .i64 g1, .int .i64 d0, .int .i64 d1] 33)) := (Ext.refl _).alloc _
      have ha1 := hx1.heap ha
      have hpl := heap_lt ha
      cases hdi : diesB s c' ⟨hh, ll, ⟨e0, e1⟩, ⟨g0, g1⟩, ⟨d0, d1⟩⟩ with
      | true =>
        rw [hdi] at hseq
        simp only [if_true] at hseq
        have hst : stepOf s c' ⟨hh, ll, ⟨e0, e1⟩, ⟨g0, g1⟩, ⟨d0, d1⟩⟩ = ⟨zBreed, zcamel, 2⟩ := by unfold stepOf; rw [hdi]; rfl
        rw [hst] at hday
        have hY2 := fun W4 (hx : Ext wr W4) => HY.out pre ⟨zBreed, zcamel, 2⟩ W4 (HJ.out _ _ _ hj (hx.but _)) (by rw [← hseq]; simp)
        have hxs : pre ++ [⟨zBreed, zcamel, 2⟩] = seqOf s c l := hseq
        unfold DayStep.enc at hY2
        rw [beastVal_eq] at hY2
        simp only at hY2
        have Hday := Lib.hid hday
        have Hx1 := Lib.hid hx1
        have Ha1 := Lib.hid ha1
        have HY2 := Lib.hid hY2
        have Hseq := Lib.hid hseq
        have Hcc := Lib.hid hcc
        have Ha := Lib.hid ha
        have Hlw := Lib.hid hlw
        have Hlt' := Lib.hid hlt'
        have Hxs := Lib.hid hxs
        clear hday hx1 ha1 hY2 hseq hcc ha hlw hlt' hxs
        clear hdm hmk hst hj hdi
        gi_wp2_with (first | (refine wpListW_load_part rfl 96 (.tmp 2) rfl pa 0 rfl 96 _ (0, 0) _ Ha1.out (bCells s c') rfl Tryz.underlying96 rfl (by kernel_rfl) ?_) | (refine ⟨trivial, fun h => (by cases h), ?_⟩; gi_at_call 66; refine (callsIn_wide.2 (Hday.out _)).mono ?_; rintro e w2 ⟨rfl, hx2⟩) | (refine wpListW_store_row rfl 96 (.tmp 6) (.tmp 18) rfl w2.heap.size (bCells zBreed zcamel).toArray rfl rfl 96 zbCells (heap_alloc_new w2 _) (by kernel_rfl) (by kernel_rfl) (by kernel_rfl) ?_; have hx24 : Ext wr w2 := Hx1.out.trans hx2; have hx4 : Ext wr ((w2.alloc (.cells #[.int .i64 0, .int .i64 0, .int .i64 0, .int .i64 0, .int .i64 0, .int .i64 0, .int .i64 0, .int .i64 0, .int .i64 0, .int .i64 0, .int .i64 0, .int .i64 0, .int .i64 0, .int .i64 0, .int .i64 0, .int .i64 0, .int .i64 0, .int .i64 0, .int .i64 0, .int .i64 0, .int .i64 0, .int .i64 0, .int .i64 0, .bool false] 96)).setRow w2.heap.size (bCells zBreed zcamel).toArray) := below_setRow (hx24.alloc _) hx24.size _; have hb4 := setRow_heap _ w2.heap.size _ (bCells zBreed zcamel).toArray 96 (0, 0) (heap_alloc_new w2 (.cells #[.int .i64 0, .int .i64 0, .int .i64 0, .int .i64 0, .int .i64 0, .int .i64 0, .int .i64 0, .int .i64 0, .int .i64 0, .int .i64 0, .int .i64 0, .int .i64 0, .int .i64 0, .int .i64 0, .int .i64 0, .int .i64 0, .int .i64 0, .int .i64 0, .int .i64 0, .int .i64 0, .int .i64 0, .int .i64 0, .int .i64 0, .bool false] 96)); have hp6 : wr.heap.size ≤ w2.heap.size := hx24.size; generalize (w2.alloc (.cells #[.int .i64 0, .int .i64 0, .int .i64 0, .int .i64 0, .int .i64 0, .int .i64 0, .int .i64 0, .int .i64 0, .int .i64 0, .int .i64 0, .int .i64 0, .int .i64 0, .int .i64 0, .int .i64 0, .int .i64 0, .int .i64 0, .int .i64 0, .int .i64 0, .int .i64 0, .int .i64 0, .int .i64 0, .int .i64 0, .int .i64 0, .bool false] 96)).setRow w2.heap.size (bCells zBreed zcamel).toArray = W4 at *; generalize w2.heap.size = p6 at *; obtain ⟨fn', tmps, assign, body, hy, hR⟩ := HY2.out W4 hx4; have HR := Lib.hid hR; clear hR; have Hb4 := Lib.hid hb4; clear hb4; have Hx4 := Lib.hid hx4; clear hx4) | (refine wpListW_load_part rfl 96 (.tmp 6) rfl p6 0 rfl 96 _ (0, 0) _ Hb4.out (bCells zBreed zcamel) rfl Tryz.underlying96 rfl (by kernel_rfl) ?_))
        refine ⟨fun h => (by cases h), HR.out.mono ?_⟩
        rintro e W3 (⟨rfl, hj3, hk3⟩ | ⟨rfl, hjx3⟩)
        · gi_wp2
          refine bodyPost_ret (results_none rfl _ _ _) rfl ?_
          exact ⟨⟨_, rfl⟩, .inl ⟨_, Hxs.out, hj3⟩⟩
        · gi_wp2
          refine bodyPost_ret (results_none rfl _ _ _) rfl ?_
          exact ⟨⟨_, rfl⟩, .inr ⟨_, by rw [Hxs.out]; exact List.prefix_refl _, hjx3⟩⟩
      | false =>
        rw [hdi] at hseq
        simp only [Bool.false_eq_true, if_false] at hseq
        have hcn := next_is Hb.out hcc hdm hdi
        obtain ⟨F, hF, hF2⟩ : ∃ F : Int, (if safeB s c' ⟨hh, ll, ⟨e0, e1⟩, ⟨g0, g1⟩, ⟨d0, d1⟩⟩ then 0 else 1) = F ∧ (F == 2) = false := ⟨_, rfl, by split <;> rfl⟩
        have hst : stepOf s c' ⟨hh, ll, ⟨e0, e1⟩, ⟨g0, g1⟩, ⟨d0, d1⟩⟩ = ⟨s, nextOf s c' ⟨hh, ll, ⟨e0, e1⟩, ⟨g0, g1⟩, ⟨d0, d1⟩⟩, F⟩ := by unfold stepOf; rw [hdi, hF]; rfl
        rw [hst] at hday hseq
        generalize nextOf s c' ⟨hh, ll, ⟨e0, e1⟩, ⟨g0, g1⟩, ⟨d0, d1⟩⟩ = cn at *
        have hY2 := fun W4 (hx : Ext wr W4) => HY.out pre ⟨s, cn, F⟩ W4 (HJ.out _ _ _ hj (hx.but _)) (by rw [← hseq]; simp)
        have hxs : (pre ++ [⟨s, cn, F⟩]) ++ seqOf s cn (l.drop (k + 1)) = seqOf s c l := by rw [← hseq]; simp
        have Hcn := Lib.hid hcn
        clear hcn
        clear hF
        unfold DayStep.enc at hY2
        rw [beastVal_eq] at hY2
        simp only at hY2
        have Hday := Lib.hid hday
        have Hx1 := Lib.hid hx1
        have Ha1 := Lib.hid ha1
        have HY2 := Lib.hid hY2
        have Hseq := Lib.hid hseq
        have Hcc := Lib.hid hcc
        have Ha := Lib.hid ha
        have Hlw := Lib.hid hlw
        have Hlt' := Lib.hid hlt'
        have Hxs := Lib.hid hxs
        clear hday hx1 ha1 hY2 hseq hcc ha hlw hlt' hxs
        clear hdm hmk hst hj hdi
        gi_wp2_with (first | (refine wpListW_load_part rfl 96 (.tmp 2) rfl pa 0 rfl 96 _ (0, 0) _ Ha1.out (bCells s c') rfl Tryz.underlying96 rfl (by kernel_rfl) ?_) | (refine ⟨trivial, fun h => (by cases h), ?_⟩; gi_at_call 66; refine (callsIn_wide.2 (Hday.out _)).mono ?_; rintro e w2 ⟨rfl, hx2⟩) | (refine wpListW_store_row rfl 96 (.tmp 6) (.tmp 18) rfl w2.heap.size (bCells s cn).toArray rfl rfl 96 zbCells (heap_alloc_new w2 _) (by kernel_rfl) (by kernel_rfl) (by kernel_rfl) ?_; have hx24 : Ext wr w2 := Hx1.out.trans hx2; have hx4 : Ext wr ((w2.alloc (.cells #[.int .i64 0, .int .i64 0, .int .i64 0, .int .i64 0, .int .i64 0, .int .i64 0, .int .i64 0, .int .i64 0, .int .i64 0, .int .i64 0, .int .i64 0, .int .i64 0, .int .i64 0, .int .i64 0, .int .i64 0, .int .i64 0, .int .i64 0, .int .i64 0, .int .i64 0, .int .i64 0, .int .i64 0, .int .i64 0, .int .i64 0, .bool false] 96)).setRow w2.heap.size (bCells s cn).toArray) := below_setRow (hx24.alloc _) hx24.size _; have hb4 := setRow_heap _ w2.heap.size _ (bCells s cn).toArray 96 (0, 0) (heap_alloc_new w2 (.cells #[.int .i64 0, .int .i64 0, .int .i64 0, .int .i64 0, .int .i64 0, .int .i64 0, .int .i64 0, .int .i64 0, .int .i64 0, .int .i64 0, .int .i64 0, .int .i64 0, .int .i64 0, .int .i64 0, .int .i64 0, .int .i64 0, .int .i64 0, .int .i64 0, .int .i64 0, .int .i64 0, .int .i64 0, .int .i64 0, .int .i64 0, .bool false] 96)); have hp6 : wr.heap.size ≤ w2.heap.size := hx24.size; generalize (w2.alloc (.cells #[.int .i64 0, .int .i64 0, .int .i64 0, .int .i64 0, .int .i64 0, .int .i64 0, .int .i64 0, .int .i64 0, .int .i64 0, .int .i64 0, .int .i64 0, .int .i64 0, .int .i64 0, .int .i64 0, .int .i64 0, .int .i64 0, .int .i64 0, .int .i64 0, .int .i64 0, .int .i64 0, .int .i64 0, .int .i64 0, .int .i64 0, .bool false] 96)).setRow w2.heap.size (bCells s cn).toArray = W4 at *; generalize w2.heap.size = p6 at *; obtain ⟨fn', tmps, assign, body, hy, hR⟩ := HY2.out W4 hx4; have HR := Lib.hid hR; clear hR; have Hb4 := Lib.hid hb4; clear hb4; have Hx4 := Lib.hid hx4; clear hx4) | (refine wpListW_load_part rfl 96 (.tmp 6) rfl p6 0 rfl 96 _ (0, 0) _ Hb4.out (bCells s cn) rfl Tryz.underlying96 rfl (by kernel_rfl) ?_))
        refine ⟨fun h => (by cases h), HR.out.mono ?_⟩
        rintro e W3 (⟨rfl, hj3, hk3⟩ | ⟨rfl, hjx3⟩)
        · have hn6 : ¬O p6 := fun h => by have := HO.out _ h; omega
          have hb6 := hk3.cells Hb4.out hn6
          have ha3 := hk3.cells (Hx4.out.heap Ha.out) HOa.out
          have hl3 := hk3.cells (Hx4.out.heap Hlw.out) HOl.out
          have hm3 : DaysAt W3 (some ⟨lb, lo, none⟩) ln l := ⟨Hll.out, (Hlt'.out.ext Hx4.out).2.kpO hk3 (fun x hx => (HOs.out x hx).1)⟩
          have hbu : But (fun b => b = pa) W3 (W3.setRow pa (bCells s cn).toArray) := but_setRow _ _ _ rfl
          have hj5 := HJ.out _ _ _ hj3 hbu
          have ha5 := setRow_heap W3 pa _ (bCells s cn).toArray 96 (0, 0) ha3
          have hl5 := hbu.block _ _ hl3 hne
          have hm5 : DaysAt (W3.setRow pa (bCells s cn).toArray) (some ⟨lb, lo, none⟩) ln l := hm3.same (fun x hx => setRow_other _ _ _ _ (HOs.out x hx).2)
          have hs5 : W.heap.size ≤ (W3.setRow pa (bCells s cn).toArray).heap.size := Nat.le_trans hsz (Nat.le_trans Hx4.out.size (Nat.le_trans hk3.size hbu.size))
          have Hb6 := Lib.hid hb6
          have Ha3 := Lib.hid ha3
          have Hj5 := Lib.hid hj5
          have Ha5 := Lib.hid ha5
          have Hl5 := Lib.hid hl5
          have Hm5 := Lib.hid hm5
          have Hs5 := Lib.hid hs5
          clear hb6 ha3 hj5 ha5 hl5 hm5 hs5
          clear hj3 hk3 hbu hl3 hm3
          gi_wp2_with (first | (refine wpListW_load_part rfl 96 (.tmp 6) rfl p6 0 rfl 96 _ (0, 0) _ Hb6.out (bCells s cn) rfl Tryz.underlying96 rfl (by kernel_rfl) ?_) | (refine wpListW_store_row rfl 96 (.tmp 2) (.tmp 29) rfl pa (bCells s cn).toArray rfl rfl 96 _ Ha3.out (by kernel_rfl) (by kernel_rfl) (by kernel_rfl) ?_))
          go_roundw
          case rel => exact ⟨k + 1, _, cn, by omega, by go_num, Hj5.out, Hxs.out, Hcn.out, Ha5.out, Hl5.out, Hm5.out, Hs5.out⟩
          case measure => simp [intOf]; omega
        · gi_wp2
          refine bodyPost_ret (results_none rfl _ _ _) rfl ?_
          exact ⟨⟨_, rfl⟩, .inr ⟨_, by rw [← Hxs.out]; exact List.prefix_append _ _, hjx3⟩⟩
    · have hltB : decide ((k : Int) < (ln : Int)) = false := by simp; omega
      obtain rfl : k = ln := by omega
      have hall : pre = seqOf s c l := by
        rw [List.drop_of_length_le (by have := Hll.out; omega)] at hseq
        simpa [seqOf] using hseq
      have Hall := Lib.hid hall
      have Hj := Lib.hid hj
      clear hall hj
      clear hseq hcc ha hlw hlt'
      gi_wp2
      go_end0
      exact ⟨⟨_, rfl⟩, .inl ⟨_, Hall.out, Hj.out⟩⟩
/-- **the iterator yields the animal after each day, until it dies** -/
theorem days_stops (n : Nat) (pl pa : Nat) (la : Option Addr) (ln lc : Nat) (l : List March) (s : Breed) (c : Camel) (O : Nat → Prop) (w : World) (hL : w.heap[pl]? = some (.cells #[.slice la ln lc] 92 (0, 0))) (hA : w.heap[pa]? = some (.cells (bCells s c).toArray 96 (0, 0))) (hl : DaysAt w la ln l)
    (hb : BreedOk s) (hc : CamelOk s c) (hd : ∀ m ∈ l, DayOk m) (hln : ln ≤ 1000000) (hlc : ln ≤ lc) (hlm : lc ≤ maxLen)
    (hOl : ¬O pl) (hOa : ¬O pa) (hOs : ∀ x, la = some x → ¬O x.block ∧ x.block ≠ pa) (hne : pl ≠ pa) (hO : ∀ b, O b → b < w.heap.size) :
    SeqStopsB Fence.wide n Tryz.prog 65 #[.pointer (some ⟨pl, 0, none⟩), .pointer (some ⟨pa, 0, none⟩)] DayStep.enc (KpO O) (fun xs => xs = seqOf s c l) (fun pre => pre <+: seqOf s c l) (seqOf s c l).length (fun b => b = pa) w := fun y J Jx W hW hJ _ hY h0 =>
  days1_any n y pl pa la ln lc l s c O W (hW.heap hL) (hW.heap hA) (hl.ext hW) hb hc hd hln hlc hlm hOl hOa hOs hne (fun b hb => Nat.lt_of_lt_of_le (hO b hb) hW.size) J Jx hJ hY h0
end Go.Proofs.YtcoelhpmkhimpaaGreat

/- How many days an animal lasts, out of what the iterator yields; plain. And what a function with a range over a function leaves with. -/
namespace Go.Proofs.YtcoelhpmkhimpaaGreat
open Go.RowKit
set_option linter.unusedVariables false
/-- so many days for sure, of steps on which it did not die -/
def sureOf : List DayStep → Nat
  | [] => 0
  | x :: l => if x.f = 0 then sureOf l + 1 else 0
def allSure (l : List DayStep) : Bool := l.all fun x => x.f == 0
theorem sure_snoc (l : List DayStep) (x : DayStep) : sureOf (l ++ [x]) = if (allSure l && x.f == 0) = true then sureOf l + 1 else sureOf l := by
  induction l with
  | nil => simp [sureOf, allSure]
  | cons y l ih =>
    have e : allSure (y :: l) = (y.f == 0 && allSure l) := rfl
    rw [e]
    simp only [List.cons_append, sureOf]
    by_cases hy : y.f = 0
    · rw [if_pos hy, ih, if_pos hy]
      have : (y.f == 0) = true := by simpa using hy
      rw [this, Bool.true_and]
      split <;> rfl
    · rw [if_neg hy, if_neg hy]
      have : (y.f == 0) = false := by simpa using hy
      rw [this, Bool.false_and, Bool.false_and, if_neg (by simp)]
theorem allSure_snoc (l : List DayStep) (x : DayStep) : allSure (l ++ [x]) = (allSure l && x.f == 0) := by simp [allSure]
theorem sure_le (l : List DayStep) : sureOf l ≤ l.length := by
  induction l with
  | nil => exact Nat.le_refl _
  | cons x l ih =>
    simp only [sureOf, List.length_cons]
    split <;> omega
theorem stepOf_f (s : Breed) (c : Camel) (m : March) (h : diesB s c m = false) : (stepOf s c m).f = if safeB s c m then 0 else 1 := by
  unfold stepOf
  rw [h]
  rfl
theorem seq_lasts {s : Breed} {m : March} : ∀ (k : Nat) (c : Camel) (xs : List DayStep), xs = seqOf s c (List.replicate k m) → (∀ x ∈ xs, x.f ≠ 2) → lastsOf s m c k = (sureOf xs, xs.length)
  | 0, c, xs, h, _ => by subst h; rfl
  | k + 1, c, xs, h, h2 => by
    rw [List.replicate_succ] at h
    unfold seqOf at h
    unfold lastsOf
    cases hd : diesB s c m with
    | true =>
      rw [hd, if_pos rfl] at h
      subst h
      exact absurd rfl (h2 _ (List.mem_singleton_self _))
    | false =>
      rw [hd, if_neg (by simp)] at h
      subst h
      have ih := seq_lasts k (nextOf s c m) _ rfl (fun x hx => h2 x (List.mem_cons_of_mem _ hx))
      rw [if_neg (by simp), ih]
      simp only [sureOf, List.length_cons, stepOf_f s c m hd]
      cases safeB s c m <;> simp
theorem seq_lasts_stop {s : Breed} {m : March} : ∀ (k : Nat) (c : Camel) (xs : List DayStep) (x : DayStep), xs ++ [x] <+: seqOf s c (List.replicate k m) → x.f = 2 → (∀ x ∈ xs, x.f ≠ 2) → lastsOf s m c k = (sureOf xs, xs.length)
  | 0, c, xs, x, h, _, _ => by
    have := h.length_le
    simp [seqOf] at this
  | k + 1, c, xs, x, h, hx, h2 => by
    rw [List.replicate_succ] at h
    unfold seqOf at h
    unfold lastsOf
    cases hd : diesB s c m with
    | true =>
      rw [hd, if_pos rfl] at h
      have hl := h.length_le
      have : xs = [] := by
        cases xs with
        | nil => rfl
        | cons y xs => simp at hl
      subst this
      rfl
    | false =>
      rw [hd, if_neg (by simp)] at h
      rw [if_neg (by simp)]
      cases xs with
      | nil =>
        obtain ⟨t, ht⟩ := h
        simp only [List.nil_append, List.cons_append, List.cons.injEq] at ht
        have := stepOf_f s c m hd
        rw [← ht.1, hx] at this
        split at this <;> cases this
      | cons y ys =>
        obtain ⟨t, ht⟩ := h
        simp only [List.cons_append, List.cons.injEq] at ht
        have ih := seq_lasts_stop k (nextOf s c m) ys x ⟨t, ht.2⟩ hx (fun z hz => h2 z (List.mem_cons_of_mem _ hz))
        rw [ih, ht.1]
        simp only [sureOf, List.length_cons, stepOf_f s c m hd]
        cases safeB s c m <;> simp
theorem seq_len (s : Breed) : ∀ (l : List March) (c : Camel), (seqOf s c l).length ≤ l.length
  | [], _ => Nat.le_refl _
  | m :: l, c => by
    unfold seqOf
    split
    · simp
    · simp only [List.length_cons]
      have := seq_len s l (nextOf s c m)
      omega
theorem marks_ret0 {F : Fence} {n : Nat} {P : Program} {fn : Func} {R : Ending → World → Prop} {tmps : Array Value} {w : World} {v : Value} (h : (results fn tmps).run P w = .ok v w) (hR : R (.returned v) w) : bodyPostM F n P fn R .ret { tmps := tmps, defers := [] } w := ⟨v, h, hR⟩
/-- one mark, whose block is a new one -/
theorem marks_ret1 {F : Fence} {n : Nat} {P : Program} {fn : Func} {R : Ending → World → Prop} {tmps : Array Value} {w : World} {v : Value} {D : Nat} (hD : w.heap[D]? = some (.deferred (some []))) (h : (results fn tmps).run P (w.putObj D (.deferred none)) = .ok v (w.putObj D (.deferred none))) (hR : R (.returned v) (w.putObj D (.deferred none))) :
    bodyPostM F n P fn R .ret { tmps := tmps, defers := [{ target := .collected D, args := #[] }] } w := ⟨by simp, .inl ⟨_, _, rfl, run_takeDeferred hD, v, h, hR⟩⟩
theorem ext_taken {w W : World} {D : Nat} (h : Ext w W) (hD : w.heap.size ≤ D) : Ext w (W.putObj D (.deferred none)) := by
  refine ⟨h.os, h.tape, h.output, by rw [World.putObj_size]; exact h.size, fun k hk => ?_⟩
  exact (World.putObj_heap_other (by omega)).trans (h.block k hk)
theorem taken_heap {W : World} {D b : Nat} {cs : Array Value} {t : TypeId} {f : Nat × Nat} (h : W.heap[b]? = some (.cells cs t f)) (hK : W.heap[D]? = some (.deferred (some []))) : (W.putObj D (.deferred none)).heap[b]? = some (.cells cs t f) := by
  refine (World.putObj_heap_other (fun e => ?_)).trans h
  subst e
  rw [hK] at h
  cases h
end Go.Proofs.YtcoelhpmkhimpaaGreat

/- The days of an animal out of what the iterator yields; plain. -/
namespace Go.Proofs.YtcoelhpmkhimpaaGreat
open Go.RowKit
set_option linter.unusedVariables false
def fateOf : List DayStep → Int
  | [] => 0
  | x :: l => max x.f (fateOf l)
theorem fateOf_nonneg : ∀ (l : List DayStep), 0 ≤ fateOf l
  | [] => Int.le_refl _
  | x :: l => by
    have := fateOf_nonneg l
    unfold fateOf
    omega
theorem fateOf_snoc : ∀ (l : List DayStep) (x : DayStep), 0 ≤ x.f → fateOf (l ++ [x]) = max (fateOf l) x.f
  | [], x, h => by simp only [List.nil_append, fateOf]; omega
  | y :: l, x, h => by
    have := fateOf_snoc l x h
    simp only [List.cons_append, fateOf, this]
    omega
theorem fateOf_le : ∀ (l : List DayStep), (∀ x ∈ l, x.f = 0 ∨ x.f = 1) → fateOf l ≤ 1
  | [], _ => by unfold fateOf; omega
  | x :: l, h => by
    have h1 := fateOf_le l (fun y hy => h y (List.mem_cons_of_mem _ hy))
    have h2 := h x (List.mem_cons_self ..)
    unfold fateOf
    omega
theorem days_seq {s : Breed} : ∀ {l : List March} {c : Camel} {r : List Camel × Int}, daysOf s c l = some r → (seqOf s c l).map (·.c) = r.1 ∧ fateOf (seqOf s c l) = r.2 ∧ ∀ x ∈ seqOf s c l, x.f = 0 ∨ x.f = 1
  | [], c, r, h => by
    cases h
    exact ⟨rfl, rfl, fun x hx => by cases hx⟩
  | m :: l, c, r, h => by
    unfold daysOf at h
    unfold seqOf
    cases hd : diesB s c m with
    | true => rw [hd, if_pos rfl] at h; cases h
    | false =>
      rw [hd, if_neg (by simp)] at h
      rw [if_neg (by simp)]
      cases hr : daysOf s (nextOf s c m) l with
      | none => rw [hr] at h; cases h
      | some r' =>
        rw [hr] at h
        cases h
        obtain ⟨h1, h2, h3⟩ := days_seq hr
        have hf := stepOf_f s c m hd
        have hc : (stepOf s c m).c = nextOf s c m := by unfold stepOf; rw [hd]; rfl
        refine ⟨by simp [h1, hc], by simp only [fateOf, h2, hf], fun x hx => ?_⟩
        rcases List.mem_cons.1 hx with rfl | hx
        · rw [hf]
          split
          · exact .inl rfl
          · exact .inr rfl
        · exact h3 x hx
theorem days_len {s : Breed} : ∀ {l : List March} {c : Camel} {r : List Camel × Int}, daysOf s c l = some r → r.1.length = l.length
  | [], c, r, h => by cases h; rfl
  | m :: l, c, r, h => by
    unfold daysOf at h
    split at h
    · cases h
    · cases hr : daysOf s (nextOf s c m) l with
      | none => rw [hr] at h; cases h
      | some r' =>
        rw [hr] at h
        cases h
        simp [days_len hr]
def fateL (l : List DayStep) : Int := l.foldl (fun a x => max a x.f) 0
theorem fateL_snoc (l : List DayStep) (x : DayStep) : fateL (l ++ [x]) = max (fateL l) x.f := by simp [fateL]
theorem foldl_max (l : List DayStep) : ∀ a, 0 ≤ a → l.foldl (fun a x => max a x.f) a = max a (fateOf l) := by
  induction l with
  | nil => intro a h; simp only [List.foldl_nil, fateOf]; omega
  | cons x l ih =>
    intro a h
    rw [List.foldl_cons, ih _ (by omega)]
    have := fateOf_nonneg l
    show max (max a x.f) (fateOf l) = max a (max x.f (fateOf l))
    omega
theorem fateL_eq (l : List DayStep) : fateL l = fateOf l := by
  unfold fateL
  rw [foldl_max l 0 (by omega)]
  have := fateOf_nonneg l
  omega
def camelRows (l : List Camel) : List (List Value) := l.map Camel.cells
theorem camelRows_row (l : List Camel) : ∀ r ∈ camelRows l, r.length = 7 ∧ ∀ u ∈ r, u.oneCell' = true := by
  intro r hr
  obtain ⟨s, _, rfl⟩ := List.mem_map.1 hr
  refine ⟨rfl, fun u hu => ?_⟩
  simp only [Camel.cells, List.mem_cons, List.not_mem_nil, or_false] at hu
  rcases hu with rfl | rfl | rfl | rfl | rfl | rfl | rfl <;> rfl
theorem camelRows_append (l m : List Camel) : camelRows (l ++ m) = camelRows l ++ camelRows m := by simp [camelRows]
theorem camels_of_owns {w : World} {B : Nat} {e : TypeId} {v : Value} {l : List Camel} (h : Owns w B e 7 v (camelRows l)) : ∃ a c, v = .slice a l.length c ∧ From B a ∧ l.length ≤ c ∧ c ≤ maxLen ∧ CamelsAt w a l.length l := by
  obtain ⟨a, c, hv, h0, h1, h2, h3⟩ := h.slAt
  have e : (camelRows l).length = l.length := by simp [camelRows]
  rw [e] at hv h1 h3
  refine ⟨a, c, hv, h0, h1, h2, rfl, h3.congr fun i hi => ?_⟩
  simp [camelRows, List.getD, List.getElem?_map, List.getElem?_eq_getElem hi]
theorem info27 : (Tryz.prog.info? 31).map (fun i => (i.zero, i.size, i.bytes)) = some (some (.agg #[.int .i64 0, .int .i64 0, .int .i64 0, .int .i64 0, .int .i64 0, .int .i64 0, .bool false]), 7, 56) := by kernel_rfl
theorem elem49 : Elem Tryz.prog 113 31 7 := by
  obtain ⟨i, h1, h2, h3, h4⟩ := info_parts info27
  exact ⟨Tryz.underlying113, ⟨i, _, _, h1, h2, h3, h4, rfl, by decide⟩, by decide⟩
def dayRows (l : List March) : List (List Value) := l.map March.cells
theorem dayRows_row (l : List March) : ∀ r ∈ dayRows l, r.length = 8 ∧ ∀ u ∈ r, u.oneCell' = true := by
  intro r hr
  obtain ⟨s, _, rfl⟩ := List.mem_map.1 hr
  refine ⟨rfl, fun u hu => ?_⟩
  simp only [March.cells, List.mem_cons, List.not_mem_nil, or_false] at hu
  rcases hu with rfl | rfl | rfl | rfl | rfl | rfl | rfl | rfl <;> rfl
theorem dayRows_append (l m : List March) : dayRows (l ++ m) = dayRows l ++ dayRows m := by simp [dayRows]
theorem days_of_owns {w : World} {B : Nat} {e : TypeId} {v : Value} {l : List March} (h : Owns w B e 8 v (dayRows l)) : ∃ a c, v = .slice a l.length c ∧ From B a ∧ l.length ≤ c ∧ c ≤ maxLen ∧ DaysAt w a l.length l := by
  obtain ⟨a, c, hv, h0, h1, h2, h3⟩ := h.slAt
  have e : (dayRows l).length = l.length := by simp [dayRows]
  rw [e] at hv h1 h3
  refine ⟨a, c, hv, h0, h1, h2, rfl, h3.congr fun i hi => ?_⟩
  simp [dayRows, List.getD, List.getElem?_map, List.getElem?_eq_getElem hi]
end Go.Proofs.YtcoelhpmkhimpaaGreat

/- A range over an iterator whose variable is put into a box of its own, round by round. No function of the program is named here. -/
namespace Go.Proofs.YtcoelhpmkhimpaaGreat
open Go.RowKit
set_option linter.unusedVariables false
variable {F : Fence} {n : Nat} {P : Program}
/-- the contract of an iterator whose consumer keeps to V -/
def SeqStopsK {α : Type} (F : Fence) (n : Nat) (P : Program) (g : Nat) (lb : Array Value) (encs : α → Array Value) (V : World → Prop) (Kp : World → World → Prop) (S Sp : List α → Prop) (N : Nat) (O : Nat → Prop) (w : World) : Prop :=
  ∀ (l : Nat) (J Jx : List α → World → Prop) (W : World), Ext w W → (∀ s A, J s A → V A) → (∀ s A B, J s A → But O A B → J s B) → (∀ s A B, Jx s A → But O A B → Jx s B) →
    (∀ pre x W1, J pre W1 → pre.length < N → YieldAt F (n - 1) P l (encs x) W1 fun e W' =>
      (e = .returned (.bool true) ∧ J (pre ++ [x]) W' ∧ Kp W1 W') ∨ (e = .returned (.bool false) ∧ Jx (pre ++ [x]) W')) →
    J [] W →
    CallsIn F n P g (#[.func (.yield l) #[] #[]] ++ lb) W fun e W' => (∃ v, e = .returned v) ∧ ((∃ xs, S xs ∧ J xs W') ∨ (∃ pre, Sp pre ∧ Jx pre W'))
theorem wpIn_rangeFunc_box {α : Type} {g : Operand} {ps : Array Tmp} {assign body : Code} {Q : Exit → Act → World → Prop} {a : Act} {w : World}
    (hro : F.round = none) (h1 : 1 ≤ n) {gf : Nat} {lb : Array Value} (hg : a.eval g = .func (.func gf) #[] lb) (hFg : F.fn gf) (eg : ∀ args w, (callFunc gf args).run P w = .ok (.enter gf args) w)
    {encs : α → Array Value} {V : World → Prop} {Kp : World → World → Prop} {S Sp : List α → Prop} {N : Nat} {O : Nat → Prop} {w0 : World} (hseq : SeqStopsK F (n - 1) P gf lb encs V Kp S Sp N O w0)
    (hKt : ∀ {A B C : World}, Kp A B → Kp B C → Kp A C) (hKb : ∀ (W : World) (l : Nat) (o o' : Obj), w.heap.size ≤ l → W.heap[l]? = some o → o.isCells = false → o.isWalk = false → Kp W (W.putObj l o')) (hb0 : Ext w0 w) (hO : ∀ b, O b → b < w.heap.size) (hps : ∀ x, (encs x).size = ps.size)
    (I : List α → World → Prop) (Ix : Code → List α → World → Prop) (hI : ∀ s A B, I s A → ButF O w.heap.size A B → I s B) (hIx : ∀ c s A B, Ix c s A → ButF O w.heap.size A B → Ix c s B) (h0 : I [] w) (hIV : ∀ s A, I s A → V A) (hKx : ∀ {A B : World}, w.heap.size ≤ A.heap.size → Ext A B → Kp A B) (A : α → Act → World → Prop) (hA : ∀ x a B C, A x a B → ButF (fun _ => False) w.heap.size B C → A x a C)
    (hassign : ∀ (l : Nat) (x : α) (W : World) (K : Act → World → Prop), w.heap.size ≤ W.heap.size → (∀ a' W', Ext W W' → A x a' W' → K a' W') →
      assign.wpIn (F.inRound l) (n - 1 - 1) P (Exit.then K (fun _ _ _ => False)) { tmps := (ps.zip (encs x)).foldl (fun t (p, v) => t.setIfInBounds p v) a.tmps, defers := [] } W)
    (hbody : ∀ (l : Nat) (pre : List α) (x : α) (a' : Act) (W : World), I pre W → A x a' W → pre.length < N → body.wpIn (F.inRound l) (n - 1 - 1) P (ownPostK Kp I Ix (pre ++ [x]) W) a' W)
    (hdone : ∀ (D : Nat) (xs : List α) (W : World), w.heap.size ≤ D → S xs → I xs W → W.heap[D]? = some (.deferred (some [])) → Q .normal { a with defers := { target := .collected D, args := #[] } :: a.defers } W)
    (hstop : ∀ (D : Nat) (c : Code) (pre : List α) (W : World), w.heap.size ≤ D → Sp pre → Ix c pre W → W.heap[D]? = some (.deferred (some [])) → c.wpIn F n P Q { a with defers := { target := .collected D, args := #[] } :: a.defers } W) :
    (Code.rangeFunc g ps assign body).wpIn F n P Q a w := by
  refine wpIn_rangeFunc ?_
  intro fn hfn
  rw [hro]
  obtain ⟨rec, hrec⟩ : ∃ rec : LoopState → Option Code → Loop, rec = fun st pe => { state := st, pending := pe, fn, tmps := a.tmps, params := ps, assign, body, defers := w.heap.size } := ⟨_, rfl⟩
  obtain ⟨W1, hW1⟩ : ∃ W1, (w.alloc (.deferred (some []))).alloc (.loop (rec .ready none)) = W1 := ⟨_, rfl⟩
  have hL1 : W1.heap[w.heap.size + 1]? = some (.loop (rec .ready none)) := by
    rw [← hW1]; have := World.alloc_heap_new (w.alloc (.deferred (some []))) (.loop (rec .ready none)); rwa [World.size_alloc] at this
  have hK1 : W1.heap[w.heap.size]? = some (.deferred (some [])) := by
    rw [← hW1]; exact (Below.heap_alloc _ _ _ (by simp)).trans (World.alloc_heap_new w _)
  have hx1 : Ext w W1 := by rw [← hW1]; exact ((Ext.refl w).alloc _).alloc _
  have hI1 : I [] W1 := hI _ _ _ h0 ((hx1.but O).f _)
  have hb1 : Ext w0 W1 := hb0.trans hx1
  have hO0 : ¬O w.heap.size := fun h => by have := hO _ h; omega
  have hO1 : ¬O (w.heap.size + 1) := fun h => by have := hO _ h; omega
  refine ⟨w.heap.size + 1, [{ target := .collected w.heap.size, args := #[] }], W1, { target := .fn (.func gf) lb, args := #[.func (.yield (w.heap.size + 1)) #[] #[]] }, W1, gf,
    #[.func (.yield (w.heap.size + 1)) #[] #[]] ++ lb, W1, ?_, ?_, ?_, ?_, fun _ => h1, ?_⟩
  · rw [← hW1, hrec]; exact run_enterLoop_outer _ _ _ _ _
  · simp only [resolve, hg]
    simp [go_sem]
  · intro f' hf'; simp [Target.leads] at hf'; subst hf'; exact hFg
  · simp [invoke, go_sem, eg]
  · refine (hseq (w.heap.size + 1)
      (fun pre W => I pre W ∧ W.heap[w.heap.size + 1]? = some (.loop (rec .ready none)) ∧ W.heap[w.heap.size]? = some (.deferred (some [])))
      (fun pre W => ∃ c, Ix c pre W ∧ W.heap[w.heap.size + 1]? = some (.loop (rec .done (some c))) ∧ W.heap[w.heap.size]? = some (.deferred (some [])))
      W1 hb1 (fun s A hs => hIV s A hs.1)
      (fun s A B hs hg' => ⟨hI s A B hs.1 (hg'.f _), hg'.block _ _ hs.2.1 hO1, hg'.block _ _ hs.2.2 hO0⟩)
      (fun s A B hs hg' => by
        obtain ⟨c, hc, hl, hk⟩ := hs
        exact ⟨c, hIx c s A B hc (hg'.f _), hg'.block _ _ hl hO1, hg'.block _ _ hk hO0⟩)
      ?_ ⟨hI1, hL1, hK1⟩).mono ?_
    · rintro pre x W ⟨hi, hl, hk⟩ hlen
      have hlt : w.heap.size + 1 < W.heap.size := (Array.getElem?_eq_some_iff.1 hl).1
      have hy := run_yield (P := P) (args := encs x) hl (by rw [hrec]; exact hps x)
      rw [hrec] at hy
      refine ⟨fn, _, assign, body, hy, roundIn_of_wpIn hfn (hassign _ x W _ (by omega) (fun a' W' hx' ha' => ?_))⟩
      have hwx : Kp W W' := hKx (by omega) hx'
      replace hi := hI _ _ _ hi ((hx'.but O).f _)
      replace hl := hx'.heap hl
      replace hk := hx'.heap hk
      replace hlt : w.heap.size + 1 < W'.heap.size := (Array.getElem?_eq_some_iff.1 hl).1
      refine ⟨_, run_beginRound hl (by rw [hrec]), ?_⟩
      have hl2 : (W'.putObj (w.heap.size + 1) (.loop { rec .ready none with state := .busy })).heap[w.heap.size + 1]? = some (.loop { rec .ready none with state := .busy }) := World.putObj_heap_same hlt
      have hk2 : (W'.putObj (w.heap.size + 1) (.loop { rec .ready none with state := .busy })).heap[w.heap.size]? = some (.deferred (some [])) := (World.putObj_heap_other (by omega)).trans hk
      have hw2 : Kp W (W'.putObj (w.heap.size + 1) (.loop { rec .ready none with state := .busy })) := hKt hwx (hKb _ _ _ _ (by omega) hl rfl rfl)
      refine wpIn_mono (hbody _ pre x _ _ (hI _ _ _ hi (ButF.put _ hl rfl (by omega))) (hA _ _ _ _ ha' (ButF.put _ hl rfl (by omega))) hlen) ?_
      have fin : ∀ (jump : Option Code) (W3 : World), KeepsOthers (W'.putObj (w.heap.size + 1) (.loop { rec .ready none with state := .busy })) W3 →
          (Instr.endRound (w.heap.size + 1) jump).run P W3 = .ok (.bool jump.isNone) (W3.putObj (w.heap.size + 1) (.loop (rec (if jump.isNone then .ready else .done) jump))) ∧
          W3.heap[w.heap.size + 1]? = some (.loop { rec .ready none with state := .busy }) ∧
          (W3.putObj (w.heap.size + 1) (.loop (rec (if jump.isNone then .ready else .done) jump))).heap[w.heap.size + 1]? = some (.loop (rec (if jump.isNone then .ready else .done) jump)) ∧
          (W3.putObj (w.heap.size + 1) (.loop (rec (if jump.isNone then .ready else .done) jump))).heap[w.heap.size]? = some (.deferred (some [])) := fun jump W3 hk3 => by
        have hl3 := hk3.same _ _ hl2 rfl
        have := run_endRound (P := P) jump hl3
        rw [hrec] at this ⊢
        exact ⟨this, by rw [hrec] at hl3; exact hl3, World.putObj_heap_same (Array.getElem?_eq_some_iff.1 hl3).1, (World.putObj_heap_other (by omega)).trans (hk3.same _ _ hk2 rfl)⟩
      rintro e a3 W3 hp
      cases e with
      | normal =>
        obtain ⟨hk3, hkp3, hi3⟩ := hp
        obtain ⟨hr, hl3, hl4, hk4⟩ := fin none W3 hk3
        exact ⟨_, _, hr, .inl ⟨rfl, ⟨hI _ _ _ hi3 (ButF.put _ hl3 rfl (by omega)), hl4, hk4⟩, hKt (hKt hw2 hkp3) (hKb _ _ _ _ (by omega) hl3 rfl rfl)⟩⟩
      | ret =>
        obtain ⟨hk3, hi3⟩ := hp
        obtain ⟨hr, hl3, hl4, hk4⟩ := fin (some .ret) W3 hk3
        exact ⟨_, _, hr, .inr ⟨rfl, .ret, hIx _ _ _ _ hi3 (ButF.put _ hl3 rfl (by omega)), hl4, hk4⟩⟩
      | exit id =>
        obtain ⟨hk3, hi3⟩ := hp
        obtain ⟨hr, hl3, hl4, hk4⟩ := fin (some (.exit id)) W3 hk3
        exact ⟨_, _, hr, .inr ⟨rfl, .exit id, hIx _ _ _ _ hi3 (ButF.put _ hl3 rfl (by omega)), hl4, hk4⟩⟩
      | goto t =>
        obtain ⟨hk3, hi3⟩ := hp
        obtain ⟨hr, hl3, hl4, hk4⟩ := fin (some (.goto t)) W3 hk3
        exact ⟨_, _, hr, .inr ⟨rfl, .goto t, hIx _ _ _ _ hi3 (ButF.put _ hl3 rfl (by omega)), hl4, hk4⟩⟩
      | panic ch => exact hp.elim
      | outgrown => exact hp.elim
    · rintro e W2 ⟨⟨v, rfl⟩, (⟨xs, hS, hi, hl, hk⟩ | ⟨pre, hSp, c, hi, hl, hk⟩)⟩
      · exact ⟨none, _, by have := run_endLoop (P := P) hl (by rw [hrec]; simp); rw [hrec] at this; exact this, hdone _ xs _ (Nat.le_refl _) hS (hI _ _ _ hi (ButF.put _ hl rfl (by omega))) ((World.putObj_heap_other (by omega)).trans hk)⟩
      · exact ⟨some c, _, by have := run_endLoop (P := P) hl (by rw [hrec]; simp); rw [hrec] at this; exact this, hstop _ c pre _ (Nat.le_refl _) hSp (hIx _ _ _ _ hi (ButF.put _ hl rfl (by omega))) ((World.putObj_heap_other (by omega)).trans hk)⟩
end Go.Proofs.YtcoelhpmkhimpaaGreat

/- The iterator over the days of an animal, for a consumer that turns blocks of its own. -/
namespace Go.Proofs.YtcoelhpmkhimpaaGreat
open Go.RowKit
set_option linter.unusedVariables false
set_option linter.unusedSimpArgs false
attribute [local go_sem] Oper.semAt_some
set_option maxRecDepth 100000 in
set_option maxHeartbeats 8000000 in
theorem days1K_any (n : Nat) (y pl pa : Nat) (la : Option Addr) (ln lc : Nat) (l : List March) (s : Breed) (c : Camel) (O : Nat → Prop) (W : World) (hL : W.heap[pl]? = some (.cells #[.slice la ln lc] 92 (0, 0))) (hA : W.heap[pa]? = some (.cells (bCells s c).toArray 96 (0, 0))) (hl : DaysAt W la ln l)
    (hb : BreedOk s) (hc : CamelOk s c) (hd : ∀ m ∈ l, DayOk m) (hln : ln ≤ 1000000) (hlc : ln ≤ lc) (hlm : lc ≤ maxLen)
    (B0 : Nat) (hBl : pl < B0) (hBa : pa < B0) (hBw : B0 ≤ W.heap.size) (hOl : ¬O pl) (hOa : ¬O pa) (hOs : ∀ x, la = some x → ¬O x.block ∧ x.block ≠ pa ∧ x.block < B0) (hne : pl ≠ pa) (hO : ∀ b, O b → b < B0) (V : World → Prop) (Kp : World → World → Prop) (hK : ∀ wr A B, V wr → Ext wr A → Kp A B → KpO (fun b => O b ∨ (B0 ≤ b ∧ b < wr.heap.size)) A B) (J Jx : List DayStep → World → Prop) (hV : ∀ s A, J s A → V A) (hJ : ∀ s A B, J s A → But (fun b => b = pa) A B → J s B)
    (hY : ∀ pre x W1, J pre W1 → pre.length < (seqOf s c l).length → YieldAt Fence.wide (n - 1) Tryz.prog y (DayStep.enc x) W1 fun e W' =>
      (e = .returned (.bool true) ∧ J (pre ++ [x]) W' ∧ Kp W1 W') ∨ (e = .returned (.bool false) ∧ Jx (pre ++ [x]) W'))
    (h0 : J [] W) :
    CallsIn Fence.wide n Tryz.prog 65 #[.func (.yield y) #[] #[], .pointer (some ⟨pl, 0, none⟩), .pointer (some ⟨pa, 0, none⟩)] W fun e W' => (∃ v, e = .returned v) ∧ ((∃ xs, xs = seqOf s c l ∧ J xs W') ∨ (∃ pre, pre <+: seqOf s c l ∧ Jx pre W')) := by
  have hll := hl.1
  unfold maxLen at hlm
  obtain ⟨z, _⟩ := (Ext.refl W).box hL
  have HL := Lib.hid hL
  have HA := Lib.hid hA
  have Hl := Lib.hid hl
  have Hb := Lib.hid hb
  have Hc := Lib.hid hc
  have Hd := Lib.hid hd
  have HOl := Lib.hid hOl
  have HOa := Lib.hid hOa
  have HOs := Lib.hid hOs
  have HO := Lib.hid hO
  have HV := Lib.hid hV
  have HK := Lib.hid hK
  have HJ := Lib.hid hJ
  have HY := Lib.hid hY
  have Hll := Lib.hid hll
  clear hL hA hl hb hc hd hOl hOa hOs hO hV hK hJ hY hll
  refine callsIn_of_wp Tryz.func65 rfl trivial ?_ rfl
  simp only [Tryz.ntmps65, List.size_toArray, List.length_cons, List.length_nil, Nat.reduceAdd, Nat.reduceSub, Array.replicate_succ, Array.replicate_zero, List.push_toArray, List.append_toArray, List.nil_append, List.cons_append]
  gi_wp2
  gi_loopw [10] (fun i wr => ∃ (k : Nat) (pre : List DayStep) (c' : Camel), k ≤ ln ∧ i = .int .i64 k ∧ J pre wr ∧ pre ++ seqOf s c' (l.drop k) = seqOf s c l ∧ CamelOk s c' ∧ wr.heap[pa]? = some (.cells (bCells s c').toArray 96 (0, 0)) ∧ wr.heap[pl]? = some (.cells #[.slice la ln lc] 92 (0, 0)) ∧ DaysAt wr la ln l ∧ W.heap.size ≤ wr.heap.size) (fun i _ => ln - (intOf i).toNat)
  case atStart => exact ⟨0, [], c, Nat.zero_le _, rfl, h0, rfl, Hc.out, HA.out, HL.out, Hl.out, Nat.le_refl _⟩
  case round =>
    obtain ⟨k, pre, c', hk, rfl, hj, hseq, hcc, ha, hlw, hlt', hsz⟩ := hrel
    clear h0
    by_cases hlt : k < ln
    · have hltB : decide ((k : Int) < (ln : Int)) = true := by simp; omega
      have hVw := HV.out _ _ hj
      obtain ⟨lb, lo, m, rfl, hmk, hlb, c0, c1, c2, c3, c4, c5, c6, c7⟩ := hlt'.get k hlt
      have hdm := Hd.out m (List.mem_of_getElem? hmk)
      rw [seq_drop hmk] at hseq
      have hday := fun W => day_any s c' m W Hb.out hcc hdm
      rw [(dayVal_step s c' m).1, (dayVal_step s c' m).2, beastVal_eq, beastVal_eq] at hday
      obtain ⟨hh, ll, ⟨e0, e1⟩, ⟨g0, g1⟩, ⟨d0, d1⟩⟩ := m
      unfold March.val at hday
      simp only at c0 c1 c2 c3 c4 c5 c6 c7 hday
      have hx1 : Ext wr (wr.alloc (.cells #[.int .i64 hh, .int .i64 ll, .int .i64 e0, .int .i64 e1, .int .i64 g0, .int .i64 g1, .int .i64 d0, .int .i64 d1] 33)) := (Ext.refl _).alloc _
      have ha1 := hx1.heap ha
      have hpl := heap_lt ha
      cases hdi : diesB s c' ⟨hh, ll, ⟨e0, e1⟩, ⟨g0, g1⟩, ⟨d0, d1⟩⟩ with
      | true =>
        rw [hdi] at hseq
        simp only [if_true] at hseq
        have hst : stepOf s c' ⟨hh, ll, ⟨e0, e1⟩, ⟨g0, g1⟩, ⟨d0, d1⟩⟩ = ⟨zBreed, zcamel, 2⟩ := by unfold stepOf; rw [hdi]; rfl
        rw [hst] at hday
        have hY2 := fun W4 (hx : Ext wr W4) => HY.out pre ⟨zBreed, zcamel, 2⟩ W4 (HJ.out _ _ _ hj (hx.but _)) (by rw [← hseq]; simp)
        have hxs : pre ++ [⟨zBreed, zcamel, 2⟩] = seqOf s c l := hseq
        unfold DayStep.enc at hY2
        rw [beastVal_eq] at hY2
        simp only at hY2
        have Hday := Lib.hid hday
        have Hx1 := Lib.hid hx1
        have Ha1 := Lib.hid ha1
        have HY2 := Lib.hid hY2
        have Hseq := Lib.hid hseq
        have Hcc := Lib.hid hcc
        have Ha := Lib.hid ha
        have Hlw := Lib.hid hlw
        have Hlt' := Lib.hid hlt'
        have Hxs := Lib.hid hxs
        have HVw := Lib.hid hVw
        clear hday hx1 ha1 hY2 hseq hcc ha hlw hlt' hxs hVw
        clear hdm hmk hst hj hdi
        gi_wp2_with (first | (refine wpListW_load_part rfl 96 (.tmp 2) rfl pa 0 rfl 96 _ (0, 0) _ Ha1.out (bCells s c') rfl Tryz.underlying96 rfl (by kernel_rfl) ?_) | (refine ⟨trivial, fun h => (by cases h), ?_⟩; gi_at_call 66; refine (callsIn_wide.2 (Hday.out _)).mono ?_; rintro e w2 ⟨rfl, hx2⟩) | (refine wpListW_store_row rfl 96 (.tmp 6) (.tmp 18) rfl w2.heap.size (bCells zBreed zcamel).toArray rfl rfl 96 zbCells (heap_alloc_new w2 _) (by kernel_rfl) (by kernel_rfl) (by kernel_rfl) ?_; have hx24 : Ext wr w2 := Hx1.out.trans hx2; have hx4 : Ext wr ((w2.alloc (.cells #[.int .i64 0, .int .i64 0, .int .i64 0, .int .i64 0, .int .i64 0, .int .i64 0, .int .i64 0, .int .i64 0, .int .i64 0, .int .i64 0, .int .i64 0, .int .i64 0, .int .i64 0, .int .i64 0, .int .i64 0, .int .i64 0, .int .i64 0, .int .i64 0, .int .i64 0, .int .i64 0, .int .i64 0, .int .i64 0, .int .i64 0, .bool false] 96)).setRow w2.heap.size (bCells zBreed zcamel).toArray) := below_setRow (hx24.alloc _) hx24.size _; have hb4 := setRow_heap _ w2.heap.size _ (bCells zBreed zcamel).toArray 96 (0, 0) (heap_alloc_new w2 (.cells #[.int .i64 0, .int .i64 0, .int .i64 0, .int .i64 0, .int .i64 0, .int .i64 0, .int .i64 0, .int .i64 0, .int .i64 0, .int .i64 0, .int .i64 0, .int .i64 0, .int .i64 0, .int .i64 0, .int .i64 0, .int .i64 0, .int .i64 0, .int .i64 0, .int .i64 0, .int .i64 0, .int .i64 0, .int .i64 0, .int .i64 0, .bool false] 96)); have hp6 : wr.heap.size ≤ w2.heap.size := hx24.size; generalize (w2.alloc (.cells #[.int .i64 0, .int .i64 0, .int .i64 0, .int .i64 0, .int .i64 0, .int .i64 0, .int .i64 0, .int .i64 0, .int .i64 0, .int .i64 0, .int .i64 0, .int .i64 0, .int .i64 0, .int .i64 0, .int .i64 0, .int .i64 0, .int .i64 0, .int .i64 0, .int .i64 0, .int .i64 0, .int .i64 0, .int .i64 0, .int .i64 0, .bool false] 96)).setRow w2.heap.size (bCells zBreed zcamel).toArray = W4 at *; generalize w2.heap.size = p6 at *; obtain ⟨fn', tmps, assign, body, hy, hR⟩ := HY2.out W4 hx4; have HR := Lib.hid hR; clear hR; have Hb4 := Lib.hid hb4; clear hb4; have Hx4 := Lib.hid hx4; clear hx4) | (refine wpListW_load_part rfl 96 (.tmp 6) rfl p6 0 rfl 96 _ (0, 0) _ Hb4.out (bCells zBreed zcamel) rfl Tryz.underlying96 rfl (by kernel_rfl) ?_))
        refine ⟨fun h => (by cases h), HR.out.mono ?_⟩
        rintro e W3 (⟨rfl, hj3, hk3⟩ | ⟨rfl, hjx3⟩)
        · gi_wp2
          refine bodyPost_ret (results_none rfl _ _ _) rfl ?_
          exact ⟨⟨_, rfl⟩, .inl ⟨_, Hxs.out, hj3⟩⟩
        · gi_wp2
          refine bodyPost_ret (results_none rfl _ _ _) rfl ?_
          exact ⟨⟨_, rfl⟩, .inr ⟨_, by rw [Hxs.out]; exact List.prefix_refl _, hjx3⟩⟩
      | false =>
        rw [hdi] at hseq
        simp only [Bool.false_eq_true, if_false] at hseq
        have hcn := next_is Hb.out hcc hdm hdi
        obtain ⟨F, hF, hF2⟩ : ∃ F : Int, (if safeB s c' ⟨hh, ll, ⟨e0, e1⟩, ⟨g0, g1⟩, ⟨d0, d1⟩⟩ then 0 else 1) = F ∧ (F == 2) = false := ⟨_, rfl, by split <;> rfl⟩
        have hst : stepOf s c' ⟨hh, ll, ⟨e0, e1⟩, ⟨g0, g1⟩, ⟨d0, d1⟩⟩ = ⟨s, nextOf s c' ⟨hh, ll, ⟨e0, e1⟩, ⟨g0, g1⟩, ⟨d0, d1⟩⟩, F⟩ := by unfold stepOf; rw [hdi, hF]; rfl
        rw [hst] at hday hseq
        generalize nextOf s c' ⟨hh, ll, ⟨e0, e1⟩, ⟨g0, g1⟩, ⟨d0, d1⟩⟩ = cn at *
        have hY2 := fun W4 (hx : Ext wr W4) => HY.out pre ⟨s, cn, F⟩ W4 (HJ.out _ _ _ hj (hx.but _)) (by rw [← hseq]; simp)
        have hxs : (pre ++ [⟨s, cn, F⟩]) ++ seqOf s cn (l.drop (k + 1)) = seqOf s c l := by rw [← hseq]; simp
        have Hcn := Lib.hid hcn
        clear hcn
        clear hF
        unfold DayStep.enc at hY2
        rw [beastVal_eq] at hY2
        simp only at hY2
        have Hday := Lib.hid hday
        have Hx1 := Lib.hid hx1
        have Ha1 := Lib.hid ha1
        have HY2 := Lib.hid hY2
        have Hseq := Lib.hid hseq
        have Hcc := Lib.hid hcc
        have Ha := Lib.hid ha
        have Hlw := Lib.hid hlw
        have Hlt' := Lib.hid hlt'
        have Hxs := Lib.hid hxs
        have HVw := Lib.hid hVw
        clear hday hx1 ha1 hY2 hseq hcc ha hlw hlt' hxs hVw
        clear hdm hmk hst hj hdi
        gi_wp2_with (first | (refine wpListW_load_part rfl 96 (.tmp 2) rfl pa 0 rfl 96 _ (0, 0) _ Ha1.out (bCells s c') rfl Tryz.underlying96 rfl (by kernel_rfl) ?_) | (refine ⟨trivial, fun h => (by cases h), ?_⟩; gi_at_call 66; refine (callsIn_wide.2 (Hday.out _)).mono ?_; rintro e w2 ⟨rfl, hx2⟩) | (refine wpListW_store_row rfl 96 (.tmp 6) (.tmp 18) rfl w2.heap.size (bCells s cn).toArray rfl rfl 96 zbCells (heap_alloc_new w2 _) (by kernel_rfl) (by kernel_rfl) (by kernel_rfl) ?_; have hx24 : Ext wr w2 := Hx1.out.trans hx2; have hx4 : Ext wr ((w2.alloc (.cells #[.int .i64 0, .int .i64 0, .int .i64 0, .int .i64 0, .int .i64 0, .int .i64 0, .int .i64 0, .int .i64 0, .int .i64 0, .int .i64 0, .int .i64 0, .int .i64 0, .int .i64 0, .int .i64 0, .int .i64 0, .int .i64 0, .int .i64 0, .int .i64 0, .int .i64 0, .int .i64 0, .int .i64 0, .int .i64 0, .int .i64 0, .bool false] 96)).setRow w2.heap.size (bCells s cn).toArray) := below_setRow (hx24.alloc _) hx24.size _; have hb4 := setRow_heap _ w2.heap.size _ (bCells s cn).toArray 96 (0, 0) (heap_alloc_new w2 (.cells #[.int .i64 0, .int .i64 0, .int .i64 0, .int .i64 0, .int .i64 0, .int .i64 0, .int .i64 0, .int .i64 0, .int .i64 0, .int .i64 0, .int .i64 0, .int .i64 0, .int .i64 0, .int .i64 0, .int .i64 0, .int .i64 0, .int .i64 0, .int .i64 0, .int .i64 0, .int .i64 0, .int .i64 0, .int .i64 0, .int .i64 0, .bool false] 96)); have hp6 : wr.heap.size ≤ w2.heap.size := hx24.size; generalize (w2.alloc (.cells #[.int .i64 0, .int .i64 0, .int .i64 0, .int .i64 0, .int .i64 0, .int .i64 0, .int .i64 0, .int .i64 0, .int .i64 0, .int .i64 0, .int .i64 0, .int .i64 0, .int .i64 0, .int .i64 0, .int .i64 0, .int .i64 0, .int .i64 0, .int .i64 0, .int .i64 0, .int .i64 0, .int .i64 0, .int .i64 0, .int .i64 0, .bool false] 96)).setRow w2.heap.size (bCells s cn).toArray = W4 at *; generalize w2.heap.size = p6 at *; obtain ⟨fn', tmps, assign, body, hy, hR⟩ := HY2.out W4 hx4; have HR := Lib.hid hR; clear hR; have Hb4 := Lib.hid hb4; clear hb4; have Hx4 := Lib.hid hx4; clear hx4) | (refine wpListW_load_part rfl 96 (.tmp 6) rfl p6 0 rfl 96 _ (0, 0) _ Hb4.out (bCells s cn) rfl Tryz.underlying96 rfl (by kernel_rfl) ?_))
        refine ⟨fun h => (by cases h), HR.out.mono ?_⟩
        rintro e W3 (⟨rfl, hj3, hk3⟩ | ⟨rfl, hjx3⟩)
        · replace hk3 := HK.out _ _ _ HVw.out Hx4.out hk3
          have hn6 : ¬(O p6 ∨ (B0 ≤ p6 ∧ p6 < wr.heap.size)) := fun h => by
            rcases h with h | h
            · have := HO.out _ h
              have := Hx4.out.size
              omega
            · omega
          have hna : ¬(O pa ∨ (B0 ≤ pa ∧ pa < wr.heap.size)) := fun h => h.elim HOa.out (fun h => by omega)
          have hnl : ¬(O pl ∨ (B0 ≤ pl ∧ pl < wr.heap.size)) := fun h => h.elim HOl.out (fun h => by omega)
          have hb6 := hk3.cells Hb4.out hn6
          have ha3 := hk3.cells (Hx4.out.heap Ha.out) hna
          have hl3 := hk3.cells (Hx4.out.heap Hlw.out) hnl
          have hm3 : DaysAt W3 (some ⟨lb, lo, none⟩) ln l := ⟨Hll.out, (Hlt'.out.ext Hx4.out).2.kpO hk3 (fun x hx h => h.elim (HOs.out x hx).1 (fun h => by have := (HOs.out x hx).2.2; omega))⟩
          have hbu : But (fun b => b = pa) W3 (W3.setRow pa (bCells s cn).toArray) := but_setRow _ _ _ rfl
          have hj5 := HJ.out _ _ _ hj3 hbu
          have ha5 := setRow_heap W3 pa _ (bCells s cn).toArray 96 (0, 0) ha3
          have hl5 := hbu.block _ _ hl3 hne
          have hm5 : DaysAt (W3.setRow pa (bCells s cn).toArray) (some ⟨lb, lo, none⟩) ln l := hm3.same (fun x hx => setRow_other _ _ _ _ (HOs.out x hx).2.1)
          have hs5 : W.heap.size ≤ (W3.setRow pa (bCells s cn).toArray).heap.size := Nat.le_trans hsz (Nat.le_trans Hx4.out.size (Nat.le_trans hk3.size hbu.size))
          have Hb6 := Lib.hid hb6
          have Ha3 := Lib.hid ha3
          have Hj5 := Lib.hid hj5
          have Ha5 := Lib.hid ha5
          have Hl5 := Lib.hid hl5
          have Hm5 := Lib.hid hm5
          have Hs5 := Lib.hid hs5
          clear hb6 ha3 hj5 ha5 hl5 hm5 hs5
          clear hj3 hk3 hbu hl3 hm3 hn6 hna hnl
          gi_wp2_with (first | (refine wpListW_load_part rfl 96 (.tmp 6) rfl p6 0 rfl 96 _ (0, 0) _ Hb6.out (bCells s cn) rfl Tryz.underlying96 rfl (by kernel_rfl) ?_) | (refine wpListW_store_row rfl 96 (.tmp 2) (.tmp 29) rfl pa (bCells s cn).toArray rfl rfl 96 _ Ha3.out (by kernel_rfl) (by kernel_rfl) (by kernel_rfl) ?_))
          go_roundw
          case rel => exact ⟨k + 1, _, cn, by omega, by go_num, Hj5.out, Hxs.out, Hcn.out, Ha5.out, Hl5.out, Hm5.out, Hs5.out⟩
          case measure => simp [intOf]; omega
        · gi_wp2
          refine bodyPost_ret (results_none rfl _ _ _) rfl ?_
          exact ⟨⟨_, rfl⟩, .inr ⟨_, by rw [← Hxs.out]; exact List.prefix_append _ _, hjx3⟩⟩
    · have hltB : decide ((k : Int) < (ln : Int)) = false := by simp; omega
      obtain rfl : k = ln := by omega
      have hall : pre = seqOf s c l := by
        rw [List.drop_of_length_le (by have := Hll.out; omega)] at hseq
        simpa [seqOf] using hseq
      have Hall := Lib.hid hall
      have Hj := Lib.hid hj
      clear hall hj
      clear hseq hcc ha hlw hlt'
      gi_wp2
      go_end0
      exact ⟨⟨_, rfl⟩, .inl ⟨_, Hall.out, Hj.out⟩⟩
theorem days_stopsK (n : Nat) (pl pa : Nat) (la : Option Addr) (ln lc : Nat) (l : List March) (s : Breed) (c : Camel) (O : Nat → Prop) (w : World) (hL : w.heap[pl]? = some (.cells #[.slice la ln lc] 92 (0, 0))) (hA : w.heap[pa]? = some (.cells (bCells s c).toArray 96 (0, 0))) (hl : DaysAt w la ln l)
    (hb : BreedOk s) (hc : CamelOk s c) (hd : ∀ m ∈ l, DayOk m) (hln : ln ≤ 1000000) (hlc : ln ≤ lc) (hlm : lc ≤ maxLen)
    (hOl : ¬O pl) (hOa : ¬O pa) (hOs : ∀ x, la = some x → ¬O x.block ∧ x.block ≠ pa ∧ x.block < w.heap.size) (hne : pl ≠ pa) (hO : ∀ b, O b → b < w.heap.size) (V : World → Prop) (Kp : World → World → Prop) (hK : ∀ wr A B, V wr → Ext wr A → Kp A B → KpO (fun b => O b ∨ (w.heap.size ≤ b ∧ b < wr.heap.size)) A B) :
    SeqStopsK Fence.wide n Tryz.prog 65 #[.pointer (some ⟨pl, 0, none⟩), .pointer (some ⟨pa, 0, none⟩)] DayStep.enc V Kp (fun xs => xs = seqOf s c l) (fun pre => pre <+: seqOf s c l) (seqOf s c l).length (fun b => b = pa) w := fun y J Jx W hW hV hJ _ hY h0 =>
  days1K_any n y pl pa la ln lc l s c O W (hW.heap hL) (hW.heap hA) (hl.ext hW) hb hc hd hln hlc hlm w.heap.size (heap_lt hL) (heap_lt hA) hW.size hOl hOa hOs hne hO V Kp hK J Jx hV hJ hY h0
end Go.Proofs.YtcoelhpmkhimpaaGreat
