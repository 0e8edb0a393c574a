/- The iterator over the days of an animal: its contract. -/
import Derived.Test.YtcoelhpmkhimpaaDayC
import Derived.Test.YtcoelhpmkhimpaaRowsIn
namespace Go.Proofs.Ytcoelhpmkhimpaa
open Go.RowKit
set_option linter.unusedVariables false
set_option linter.unusedSimpArgs false
attribute [local go_sem] Oper.semAt_some
/-- whatever cells are not in O's blocks lie as they lay -/
structure KpO (O : Nat → Prop) (W W' : World) : Prop where
  size : W.heap.size ≤ W'.heap.size
  block : ∀ b o, W.heap[b]? = some o → o.isCells = true → ¬O b → W'.heap[b]? = some o
theorem KpO.refl (O : Nat → Prop) (W : World) : KpO O W W := ⟨Nat.le_refl _, fun _ _ h _ _ => h⟩
theorem KpO.trans {O : Nat → Prop} {A B C : World} (h : KpO O A B) (k : KpO O B C) : KpO O A C := ⟨Nat.le_trans h.size k.size, fun b o hb hc hn => k.block b o (h.block b o hb hc hn) hc hn⟩
theorem Ext.kpO {A B : World} (h : Ext A B) (O : Nat → Prop) : KpO O A B := ⟨h.size, fun b o hb _ _ => h.heap hb⟩
theorem KpO.cells {O : Nat → Prop} {A B : World} (h : KpO O A B) {b : Nat} {cs : Array Value} {t : TypeId} {f : Nat × Nat} (hb : A.heap[b]? = some (.cells cs t f)) (hn : ¬O b) : B.heap[b]? = some (.cells cs t f) := h.block b _ hb rfl hn
theorem KpO.cell {O : Nat → Prop} {A B : World} (h : KpO O A B) {a : Addr} {v : Value} (hc : A.cell? a = some v) (hn : ¬O a.block) : B.cell? a = some v := by
  obtain ⟨o, ho, hoc⟩ := cells_of_cell hc
  exact (World.cell?_of_block ((h.block _ o ho hoc hn).trans ho.symm)).trans hc
theorem kpO_t {O : Nat → Prop} {A B C : World} (h : KpO O A B) (k : KpO O B C) : KpO O A C := h.trans k
theorem kpO_b {O : Nat → Prop} {n : Nat} (W : World) (l : Nat) (o o' : Obj) (_ : n ≤ l) (hl : W.heap[l]? = some o) (ho : o.isCells = false) (_ : o.isWalk = false) : KpO O W (W.putObj l o') := by
  refine ⟨by rw [World.putObj_size]; exact Nat.le_refl _, fun b p hb hc _ => ?_⟩
  refine (World.putObj_heap_other (fun e => ?_)).trans hb
  subst e
  rw [hl] at hb
  cases hb
  rw [ho] at hc
  cases hc
theorem SlAt.kpO {O : Nat → Prop} {A B : World} {sz : Nat} {a : Option Addr} {n : Nat} {f : Nat → List Value} (h : SlAt A sz a n f) (k : KpO O A B) (hn : ∀ x, a = some x → ¬O x.block) : SlAt B sz a n f := fun h0 => by
  obtain ⟨b, off, ha, hc⟩ := h h0
  exact ⟨b, off, ha, fun i hi j v hv => k.cell (hc i hi j v hv) (show ¬O b from hn _ ha)⟩
theorem but_setRow {O : Nat → Prop} (W : World) (b : Nat) (cs : Array Value) (hO : O b) : But O W (W.setRow b cs) :=
  ⟨rfl, rfl, rfl, by simp [World.setRow], fun k o hk hn => (setRow_other _ _ _ _ (fun e => hn (by rw [e]; exact hO))).trans hk⟩
def zBreed : Breed := ⟨0, 0, ⟨0, 0⟩, ⟨0, 0⟩, ⟨0, 0⟩, ⟨0, 0⟩, ⟨0, 0⟩, ⟨0, 0⟩, 0, ⟨0, 0⟩⟩
theorem zBeast_eq : zBeast = beastVal zBreed zcamel := rfl
/-- what the iterator hands to a loop's body -/
structure DayStep where
  b : Breed
  c : Camel
  f : Int
def DayStep.enc (x : DayStep) : Array Value := #[beastVal x.b x.c, .int .u8 x.f]
def stepOf (s : Breed) (c : Camel) (m : March) : DayStep := if diesB s c m then ⟨zBreed, zcamel, 2⟩ else ⟨s, nextOf s c m, if safeB s c m then 0 else 1⟩
def seqOf (s : Breed) : Camel → List March → List DayStep
  | _, [] => []
  | c, m :: l => if diesB s c m then [⟨zBreed, zcamel, 2⟩] else stepOf s c m :: seqOf s (nextOf s c m) l
theorem dayVal_step (s : Breed) (c : Camel) (m : March) : dayVal s c m = beastVal (stepOf s c m).b (stepOf s c m).c ∧ dayFate s c m = (stepOf s c m).f := by
  unfold dayVal dayFate stepOf
  cases diesB s c m
  · simp
  · exact ⟨zBeast_eq, rfl⟩
theorem seq_drop {s : Breed} {c : Camel} {l : List March} {k : Nat} {m : March} (h : l[k]? = some m) : seqOf s c (l.drop k) = if diesB s c m then [⟨zBreed, zcamel, 2⟩] else stepOf s c m :: seqOf s (nextOf s c m) (l.drop (k + 1)) := by
  have hk := (List.getElem?_eq_some_iff.1 h).1
  have e : l.drop k = m :: l.drop (k + 1) := by
    rw [List.drop_eq_getElem_cons hk]
    congr 1
    have := List.getElem?_eq_getElem hk
    rw [h] at this
    exact (Option.some.inj this).symm
  rw [e]
  rfl
def bCells (s : Breed) (c : Camel) : List Value := [.int .i64 s.full, .int .i64 s.fed, .int .i64 s.rest.lo, .int .i64 s.rest.hi, .int .i64 s.heat.lo, .int .i64 s.heat.hi, .int .i64 s.toil.lo, .int .i64 s.toil.hi, .int .i64 s.burn.lo, .int .i64 s.burn.hi, .int .i64 s.rub.lo, .int .i64 s.rub.hi, .int .i64 s.milk.lo, .int .i64 s.milk.hi, .int .i64 s.heal, .int .i64 s.strong.lo, .int .i64 s.strong.hi,
  .int .i64 c.water.lo, .int .i64 c.water.hi, .int .i64 c.fat.lo, .int .i64 c.fat.hi, .int .i64 c.sore.lo, .int .i64 c.sore.hi, .bool c.milks]
theorem beastVal_eq (s : Breed) (c : Camel) : beastVal s c = .agg (bCells s c).toArray := rfl
def zbCells : Array Value := #[.int .i64 0, .int .i64 0, .int .i64 0, .int .i64 0, .int .i64 0, .int .i64 0, .int .i64 0, .int .i64 0, .int .i64 0, .int .i64 0, .int .i64 0, .int .i64 0, .int .i64 0, .int .i64 0, .int .i64 0, .int .i64 0, .int .i64 0, .int .i64 0, .int .i64 0, .int .i64 0, .int .i64 0, .int .i64 0, .int .i64 0, .bool false]
theorem daysFn_any (s : Breed) (c : Camel) (la : Option Addr) (ln lc : Nat) (w : World) : Calls Try.prog 52 #[beastVal s c, .slice la ln lc] w fun e w' => e = .returned (.func (.func 97) #[] #[.pointer (some ⟨w.heap.size + 1, 0, none⟩), .pointer (some ⟨w.heap.size, 0, none⟩)]) ∧ w' = (w.alloc (.cells (bCells s c).toArray 122)).alloc (.cells #[.slice la ln lc] 48) := by
  unfold beastVal bCells
  go_enter Try.func52, Try.ntmps52
  go_wp2_with fail
  go_ret
  exact ⟨rfl, rfl⟩
set_option maxRecDepth 100000 in
set_option maxHeartbeats 8000000 in
theorem days1_any (n : Nat) (y pl pa : Nat) (la : Option Addr) (ln lc : Nat) (l : List March) (s : Breed) (c : Camel) (O : Nat → Prop) (W : World) (hL : W.heap[pl]? = some (.cells #[.slice la ln lc] 48 (0, 0))) (hA : W.heap[pa]? = some (.cells (bCells s c).toArray 122 (0, 0))) (hl : DaysAt W la ln l)
    (hb : BreedOk s) (hc : CamelOk s c) (hd : ∀ m ∈ l, DayOk m) (hln : ln ≤ 1000000) (hlc : ln ≤ lc) (hlm : lc ≤ maxLen)
    (hOl : ¬O pl) (hOa : ¬O pa) (hOs : ∀ x, la = some x → ¬O x.block ∧ x.block ≠ pa) (hne : pl ≠ pa) (hO : ∀ b, O b → b < W.heap.size) (J Jx : List DayStep → World → Prop) (hJ : ∀ s A B, J s A → But (fun b => b = pa) A B → J s B)
    (hY : ∀ pre x W1, J pre W1 → pre.length < (seqOf s c l).length → YieldAt Fence.wide (n - 1) Try.prog y (DayStep.enc x) W1 fun e W' =>
      (e = .returned (.bool true) ∧ J (pre ++ [x]) W' ∧ KpO O W1 W') ∨ (e = .returned (.bool false) ∧ Jx (pre ++ [x]) W'))
    (h0 : J [] W) :
    CallsIn Fence.wide n Try.prog 97 #[.func (.yield y) #[] #[], .pointer (some ⟨pl, 0, none⟩), .pointer (some ⟨pa, 0, none⟩)] W fun e W' => (∃ v, e = .returned v) ∧ ((∃ xs, xs = seqOf s c l ∧ J xs W') ∨ (∃ pre, pre <+: seqOf s c l ∧ Jx pre W')) := by
  have hll := hl.1
  unfold maxLen at hlm
  obtain ⟨z, _⟩ := (Ext.refl W).box hL
  have HL := Lib.hid hL
  have HA := Lib.hid hA
  have Hl := Lib.hid hl
  have Hb := Lib.hid hb
  have Hc := Lib.hid hc
  have Hd := Lib.hid hd
  have HOl := Lib.hid hOl
  have HOa := Lib.hid hOa
  have HOs := Lib.hid hOs
  have HO := Lib.hid hO
  have HJ := Lib.hid hJ
  have HY := Lib.hid hY
  have Hll := Lib.hid hll
  clear hL hA hl hb hc hd hOl hOa hOs hO hJ hY hll
  refine callsIn_of_wp Try.func97 rfl trivial ?_ rfl
  simp only [Try.ntmps97, List.size_toArray, List.length_cons, List.length_nil, Nat.reduceAdd, Nat.reduceSub, Array.replicate_succ, Array.replicate_zero, List.push_toArray, List.append_toArray, List.nil_append, List.cons_append]
  gi_wp2
  gi_loopw [10] (fun i wr => ∃ (k : Nat) (pre : List DayStep) (c' : Camel), k ≤ ln ∧ i = .int .i64 k ∧ J pre wr ∧ pre ++ seqOf s c' (l.drop k) = seqOf s c l ∧ CamelOk s c' ∧ wr.heap[pa]? = some (.cells (bCells s c').toArray 122 (0, 0)) ∧ wr.heap[pl]? = some (.cells #[.slice la ln lc] 48 (0, 0)) ∧ DaysAt wr la ln l ∧ W.heap.size ≤ wr.heap.size) (fun i _ => ln - (intOf i).toNat)
  case atStart => exact ⟨0, [], c, Nat.zero_le _, rfl, h0, rfl, Hc.out, HA.out, HL.out, Hl.out, Nat.le_refl _⟩
  case round =>
    obtain ⟨k, pre, c', hk, rfl, hj, hseq, hcc, ha, hlw, hlt', hsz⟩ := hrel
    clear h0
    by_cases hlt : k < ln
    · have hltB : decide ((k : Int) < (ln : Int)) = true := by simp; omega
      obtain ⟨lb, lo, m, rfl, hmk, hlb, c0, c1, c2, c3, c4, c5, c6, c7⟩ := hlt'.get k hlt
      have hdm := Hd.out m (List.mem_of_getElem? hmk)
      rw [seq_drop hmk] at hseq
      have hday := fun W => day_any s c' m W Hb.out hcc hdm
      rw [(dayVal_step s c' m).1, (dayVal_step s c' m).2, beastVal_eq, beastVal_eq] at hday
      obtain ⟨hh, ll, ⟨e0, e1⟩, ⟨g0, g1⟩, ⟨d0, d1⟩⟩ := m
      unfold March.val at hday
      simp only at c0 c1 c2 c3 c4 c5 c6 c7 hday
      have hx1 : Ext wr (wr.alloc (.cells #[.int .i64 hh, .int .i64 ll, .int .i64 e0, .int .i64 e1, .int .i64 g0, .int .i64 g1, .int .i64 d0, .int .i64 d1] 29)) := (Ext.refl _).alloc _
      have ha1 := hx1.heap ha
      have hpl := heap_lt ha
      cases hdi : diesB s c' ⟨hh, ll, ⟨e0, e1⟩, ⟨g0, g1⟩, ⟨d0, d1⟩⟩ with
      | true =>
        rw [hdi] at hseq
        simp only [if_true] at hseq
        have hst : stepOf s c' ⟨hh, ll, ⟨e0, e1⟩, ⟨g0, g1⟩, ⟨d0, d1⟩⟩ = ⟨zBreed, zcamel, 2⟩ := by unfold stepOf; rw [hdi]; rfl
        rw [hst] at hday
        have hY2 := fun W4 (hx : Ext wr W4) => HY.out pre ⟨zBreed, zcamel, 2⟩ W4 (HJ.out _ _ _ hj (hx.but _)) (by rw [← hseq]; simp)
        have hxs : pre ++ [⟨zBreed, zcamel, 2⟩] = seqOf s c l := hseq
        unfold DayStep.enc at hY2
        rw [beastVal_eq] at hY2
        simp only at hY2
        have Hday := Lib.hid hday
        have Hx1 := Lib.hid hx1
        have Ha1 := Lib.hid ha1
        have HY2 := Lib.hid hY2
        have Hseq := Lib.hid hseq
        have Hcc := Lib.hid hcc
        have Ha := Lib.hid ha
        have Hlw := Lib.hid hlw
        have Hlt' := Lib.hid hlt'
        have Hxs := Lib.hid hxs
        clear hday hx1 ha1 hY2 hseq hcc ha hlw hlt' hxs
        clear hdm hmk hst hj hdi
        gi_wp2_with (first | (refine wpListW_load_part rfl 122 (.tmp 2) rfl pa 0 rfl 122 _ (0, 0) _ Ha1.out (bCells s c') rfl Try.underlying122 rfl (by kernel_rfl) ?_) | (refine ⟨trivial, fun h => (by cases h), ?_⟩; gi_at_call 91; refine (callsIn_wide.2 (Hday.out _)).mono ?_; rintro e w2 ⟨rfl, hx2⟩) | (refine wpListW_store_row rfl 122 (.tmp 6) (.tmp 18) rfl w2.heap.size (bCells zBreed zcamel).toArray rfl rfl 122 zbCells (heap_alloc_new w2 _) (by kernel_rfl) (by kernel_rfl) (by kernel_rfl) ?_; have hx24 : Ext wr w2 := Hx1.out.trans hx2; have hx4 : Ext wr ((w2.alloc (.cells #[.int .i64 0, .int .i64 0, .int .i64 0, .int .i64 0, .int .i64 0, .int .i64 0, .int .i64 0, .int .i64 0, .int .i64 0, .int .i64 0, .int .i64 0, .int .i64 0, .int .i64 0, .int .i64 0, .int .i64 0, .int .i64 0, .int .i64 0, .int .i64 0, .int .i64 0, .int .i64 0, .int .i64 0, .int .i64 0, .int .i64 0, .bool false] 122)).setRow w2.heap.size (bCells zBreed zcamel).toArray) := below_setRow (hx24.alloc _) hx24.size _; have hb4 := setRow_heap _ w2.heap.size _ (bCells zBreed zcamel).toArray 122 (0, 0) (heap_alloc_new w2 (.cells #[.int .i64 0, .int .i64 0, .int .i64 0, .int .i64 0, .int .i64 0, .int .i64 0, .int .i64 0, .int .i64 0, .int .i64 0, .int .i64 0, .int .i64 0, .int .i64 0, .int .i64 0, .int .i64 0, .int .i64 0, .int .i64 0, .int .i64 0, .int .i64 0, .int .i64 0, .int .i64 0, .int .i64 0, .int .i64 0, .int .i64 0, .bool false] 122)); have hp6 : wr.heap.size ≤ w2.heap.size := hx24.size; generalize (w2.alloc (.cells #[.int .i64 0, .int .i64 0, .int .i64 0, .int .i64 0, .int .i64 0, .int .i64 0, .int .i64 0, .int .i64 0, .int .i64 0, .int .i64 0, .int .i64 0, .int .i64 0, .int .i64 0, .int .i64 0, .int .i64 0, .int .i64 0, .int .i64 0, .int .i64 0, .int .i64 0, .int .i64 0, .int .i64 0, .int .i64 0, .int .i64 0, .bool false] 122)).setRow w2.heap.size (bCells zBreed zcamel).toArray = W4 at *; generalize w2.heap.size = p6 at *; obtain ⟨fn', tmps, assign, body, hy, hR⟩ := HY2.out W4 hx4; have HR := Lib.hid hR; clear hR; have Hb4 := Lib.hid hb4; clear hb4; have Hx4 := Lib.hid hx4; clear hx4) | (refine wpListW_load_part rfl 122 (.tmp 6) rfl p6 0 rfl 122 _ (0, 0) _ Hb4.out (bCells zBreed zcamel) rfl Try.underlying122 rfl (by kernel_rfl) ?_))
        refine ⟨fun h => (by cases h), HR.out.mono ?_⟩
        rintro e W3 (⟨rfl, hj3, hk3⟩ | ⟨rfl, hjx3⟩)
        · gi_wp2
          refine bodyPost_ret (results_none rfl _ _ _) rfl ?_
          exact ⟨⟨_, rfl⟩, .inl ⟨_, Hxs.out, hj3⟩⟩
        · gi_wp2
          refine bodyPost_ret (results_none rfl _ _ _) rfl ?_
          exact ⟨⟨_, rfl⟩, .inr ⟨_, by rw [Hxs.out]; exact List.prefix_refl _, hjx3⟩⟩
      | false =>
        rw [hdi] at hseq
        simp only [Bool.false_eq_true, if_false] at hseq
        have hcn := next_is Hb.out hcc hdm hdi
        obtain ⟨F, hF, hF2⟩ : ∃ F : Int, (if safeB s c' ⟨hh, ll, ⟨e0, e1⟩, ⟨g0, g1⟩, ⟨d0, d1⟩⟩ then 0 else 1) = F ∧ (F == 2) = false := ⟨_, rfl, by split <;> rfl⟩
        have hst : stepOf s c' ⟨hh, ll, ⟨e0, e1⟩, ⟨g0, g1⟩, ⟨d0, d1⟩⟩ = ⟨s, nextOf s c' ⟨hh, ll, ⟨e0, e1⟩, ⟨g0, g1⟩, ⟨d0, d1⟩⟩, F⟩ := by unfold stepOf; rw [hdi, hF]; rfl
        rw [hst] at hday hseq
        generalize nextOf s c' ⟨hh, ll, ⟨e0, e1⟩, ⟨g0, g1⟩, ⟨d0, d1⟩⟩ = cn at *
        have hY2 := fun W4 (hx : Ext wr W4) => HY.out pre ⟨s, cn, F⟩ W4 (HJ.out _ _ _ hj (hx.but _)) (by rw [← hseq]; simp)
        have hxs : (pre ++ [⟨s, cn, F⟩]) ++ seqOf s cn (l.drop (k + 1)) = seqOf s c l := by rw [← hseq]; simp
        have Hcn := Lib.hid hcn
        clear hcn
        clear hF
        unfold DayStep.enc at hY2
        rw [beastVal_eq] at hY2
        simp only at hY2
        have Hday := Lib.hid hday
        have Hx1 := Lib.hid hx1
        have Ha1 := Lib.hid ha1
        have HY2 := Lib.hid hY2
        have Hseq := Lib.hid hseq
        have Hcc := Lib.hid hcc
        have Ha := Lib.hid ha
        have Hlw := Lib.hid hlw
        have Hlt' := Lib.hid hlt'
        have Hxs := Lib.hid hxs
        clear hday hx1 ha1 hY2 hseq hcc ha hlw hlt' hxs
        clear hdm hmk hst hj hdi
        gi_wp2_with (first | (refine wpListW_load_part rfl 122 (.tmp 2) rfl pa 0 rfl 122 _ (0, 0) _ Ha1.out (bCells s c') rfl Try.underlying122 rfl (by kernel_rfl) ?_) | (refine ⟨trivial, fun h => (by cases h), ?_⟩; gi_at_call 91; refine (callsIn_wide.2 (Hday.out _)).mono ?_; rintro e w2 ⟨rfl, hx2⟩) | (refine wpListW_store_row rfl 122 (.tmp 6) (.tmp 18) rfl w2.heap.size (bCells s cn).toArray rfl rfl 122 zbCells (heap_alloc_new w2 _) (by kernel_rfl) (by kernel_rfl) (by kernel_rfl) ?_; have hx24 : Ext wr w2 := Hx1.out.trans hx2; have hx4 : Ext wr ((w2.alloc (.cells #[.int .i64 0, .int .i64 0, .int .i64 0, .int .i64 0, .int .i64 0, .int .i64 0, .int .i64 0, .int .i64 0, .int .i64 0, .int .i64 0, .int .i64 0, .int .i64 0, .int .i64 0, .int .i64 0, .int .i64 0, .int .i64 0, .int .i64 0, .int .i64 0, .int .i64 0, .int .i64 0, .int .i64 0, .int .i64 0, .int .i64 0, .bool false] 122)).setRow w2.heap.size (bCells s cn).toArray) := below_setRow (hx24.alloc _) hx24.size _; have hb4 := setRow_heap _ w2.heap.size _ (bCells s cn).toArray 122 (0, 0) (heap_alloc_new w2 (.cells #[.int .i64 0, .int .i64 0, .int .i64 0, .int .i64 0, .int .i64 0, .int .i64 0, .int .i64 0, .int .i64 0, .int .i64 0, .int .i64 0, .int .i64 0, .int .i64 0, .int .i64 0, .int .i64 0, .int .i64 0, .int .i64 0, .int .i64 0, .int .i64 0, .int .i64 0, .int .i64 0, .int .i64 0, .int .i64 0, .int .i64 0, .bool false] 122)); have hp6 : wr.heap.size ≤ w2.heap.size := hx24.size; generalize (w2.alloc (.cells #[.int .i64 0, .int .i64 0, .int .i64 0, .int .i64 0, .int .i64 0, .int .i64 0, .int .i64 0, .int .i64 0, .int .i64 0, .int .i64 0, .int .i64 0, .int .i64 0, .int .i64 0, .int .i64 0, .int .i64 0, .int .i64 0, .int .i64 0, .int .i64 0, .int .i64 0, .int .i64 0, .int .i64 0, .int .i64 0, .int .i64 0, .bool false] 122)).setRow w2.heap.size (bCells s cn).toArray = W4 at *; generalize w2.heap.size = p6 at *; obtain ⟨fn', tmps, assign, body, hy, hR⟩ := HY2.out W4 hx4; have HR := Lib.hid hR; clear hR; have Hb4 := Lib.hid hb4; clear hb4; have Hx4 := Lib.hid hx4; clear hx4) | (refine wpListW_load_part rfl 122 (.tmp 6) rfl p6 0 rfl 122 _ (0, 0) _ Hb4.out (bCells s cn) rfl Try.underlying122 rfl (by kernel_rfl) ?_))
        refine ⟨fun h => (by cases h), HR.out.mono ?_⟩
        rintro e W3 (⟨rfl, hj3, hk3⟩ | ⟨rfl, hjx3⟩)
        · have hn6 : ¬O p6 := fun h => by have := HO.out _ h; omega
          have hb6 := hk3.cells Hb4.out hn6
          have ha3 := hk3.cells (Hx4.out.heap Ha.out) HOa.out
          have hl3 := hk3.cells (Hx4.out.heap Hlw.out) HOl.out
          have hm3 : DaysAt W3 (some ⟨lb, lo, none⟩) ln l := ⟨Hll.out, (Hlt'.out.ext Hx4.out).2.kpO hk3 (fun x hx => (HOs.out x hx).1)⟩
          have hbu : But (fun b => b = pa) W3 (W3.setRow pa (bCells s cn).toArray) := but_setRow _ _ _ rfl
          have hj5 := HJ.out _ _ _ hj3 hbu
          have ha5 := setRow_heap W3 pa _ (bCells s cn).toArray 122 (0, 0) ha3
          have hl5 := hbu.block _ _ hl3 hne
          have hm5 : DaysAt (W3.setRow pa (bCells s cn).toArray) (some ⟨lb, lo, none⟩) ln l := hm3.same (fun x hx => setRow_other _ _ _ _ (HOs.out x hx).2)
          have hs5 : W.heap.size ≤ (W3.setRow pa (bCells s cn).toArray).heap.size := Nat.le_trans hsz (Nat.le_trans Hx4.out.size (Nat.le_trans hk3.size hbu.size))
          have Hb6 := Lib.hid hb6
          have Ha3 := Lib.hid ha3
          have Hj5 := Lib.hid hj5
          have Ha5 := Lib.hid ha5
          have Hl5 := Lib.hid hl5
          have Hm5 := Lib.hid hm5
          have Hs5 := Lib.hid hs5
          clear hb6 ha3 hj5 ha5 hl5 hm5 hs5
          clear hj3 hk3 hbu hl3 hm3
          gi_wp2_with (first | (refine wpListW_load_part rfl 122 (.tmp 6) rfl p6 0 rfl 122 _ (0, 0) _ Hb6.out (bCells s cn) rfl Try.underlying122 rfl (by kernel_rfl) ?_) | (refine wpListW_store_row rfl 122 (.tmp 2) (.tmp 29) rfl pa (bCells s cn).toArray rfl rfl 122 _ Ha3.out (by kernel_rfl) (by kernel_rfl) (by kernel_rfl) ?_))
          go_roundw
          case rel => exact ⟨k + 1, _, cn, by omega, by go_num, Hj5.out, Hxs.out, Hcn.out, Ha5.out, Hl5.out, Hm5.out, Hs5.out⟩
          case measure => simp [intOf]; omega
        · gi_wp2
          refine bodyPost_ret (results_none rfl _ _ _) rfl ?_
          exact ⟨⟨_, rfl⟩, .inr ⟨_, by rw [← Hxs.out]; exact List.prefix_append _ _, hjx3⟩⟩
    · have hltB : decide ((k : Int) < (ln : Int)) = false := by simp; omega
      obtain rfl : k = ln := by omega
      have hall : pre = seqOf s c l := by
        rw [List.drop_of_length_le (by have := Hll.out; omega)] at hseq
        simpa [seqOf] using hseq
      have Hall := Lib.hid hall
      have Hj := Lib.hid hj
      clear hall hj
      clear hseq hcc ha hlw hlt'
      gi_wp2
      go_end0
      exact ⟨⟨_, rfl⟩, .inl ⟨_, Hall.out, Hj.out⟩⟩
/-- **the iterator yields the animal after each day, until it dies** -/
theorem days_stops (n : Nat) (pl pa : Nat) (la : Option Addr) (ln lc : Nat) (l : List March) (s : Breed) (c : Camel) (O : Nat → Prop) (w : World) (hL : w.heap[pl]? = some (.cells #[.slice la ln lc] 48 (0, 0))) (hA : w.heap[pa]? = some (.cells (bCells s c).toArray 122 (0, 0))) (hl : DaysAt w la ln l)
    (hb : BreedOk s) (hc : CamelOk s c) (hd : ∀ m ∈ l, DayOk m) (hln : ln ≤ 1000000) (hlc : ln ≤ lc) (hlm : lc ≤ maxLen)
    (hOl : ¬O pl) (hOa : ¬O pa) (hOs : ∀ x, la = some x → ¬O x.block ∧ x.block ≠ pa) (hne : pl ≠ pa) (hO : ∀ b, O b → b < w.heap.size) :
    SeqStopsB Fence.wide n Try.prog 97 #[.pointer (some ⟨pl, 0, none⟩), .pointer (some ⟨pa, 0, none⟩)] DayStep.enc (KpO O) (fun xs => xs = seqOf s c l) (fun pre => pre <+: seqOf s c l) (seqOf s c l).length (fun b => b = pa) w := fun y J Jx W hW hJ _ hY h0 =>
  days1_any n y pl pa la ln lc l s c O W (hW.heap hL) (hW.heap hA) (hl.ext hW) hb hc hd hln hlc hlm hOl hOa hOs hne (fun b hb => Nat.lt_of_lt_of_le (hO b hb) hW.size) J Jx hJ hY h0
end Go.Proofs.Ytcoelhpmkhimpaa
