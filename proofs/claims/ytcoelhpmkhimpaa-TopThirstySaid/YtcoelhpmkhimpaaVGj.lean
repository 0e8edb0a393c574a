/- The iterator over the legs of a well: its contract. -/
import Derived.Test.YtcoelhpmkhimpaaVGi
import Derived.Test.YtcoelhpmkhimpaaVGe
namespace Go.Proofs.Ytcoelhpmkhimpaa
open Go.RowKit
set_option linter.unusedVariables false
set_option linter.unusedSimpArgs false
attribute [local go_sem] Oper.semAt_some
/-- the legs' cells; what the slices of gates hold is left open -/
def LegCells (w : World) (a : Option Addr) (n : Nat) (l : List Leg) : Prop :=
  l.length = n ∧ (0 < n → ∃ b off, a = some ⟨b, off, none⟩ ∧ ∀ k f, l[k]? = some f → ∃ ka kn kc, Cells w b (off + k * 5) [.int .i64 f.frm, .int .i64 f.to, .int .i64 f.long.lo, .int .i64 f.long.hi, .slice ka kn kc])
theorem LegsAt.cells {w : World} {a : Option Addr} {n : Nat} {l : List Leg} (h : LegsAt w a n l) : LegCells w a n l :=
  ⟨h.1, fun hn => let ⟨b, off, ha, hc⟩ := h.2 hn; ⟨b, off, ha, fun k f hf => let ⟨ka, kn, kc, h1, _⟩ := hc k f hf; ⟨ka, kn, kc, h1⟩⟩⟩
theorem LegCells.ext {w w' : World} {a : Option Addr} {n : Nat} {l : List Leg} (h : LegCells w a n l) (e : Ext w w') : LegCells w' a n l :=
  ⟨h.1, fun hn => let ⟨b, off, ha, hc⟩ := h.2 hn; ⟨b, off, ha, fun k f hf => let ⟨ka, kn, kc, h1⟩ := hc k f hf; ⟨ka, kn, kc, h1.ext e⟩⟩⟩
theorem LegCells.kpO {O : Nat → Prop} {A B : World} {a : Option Addr} {n : Nat} {l : List Leg} (h : LegCells A a n l) (k : KpO O A B) (hn : ∀ x, a = some x → ¬O x.block) : LegCells B a n l :=
  ⟨h.1, fun h0 => let ⟨b, off, ha, hc⟩ := h.2 h0; ⟨b, off, ha, fun i f hf => let ⟨ka, kn, kc, h1⟩ := hc i f hf; ⟨ka, kn, kc, fun j v hv => k.cell (h1 j v hv) (show ¬O b from hn _ ha)⟩⟩⟩
theorem LegCells.get {w : World} {a : Option Addr} {n : Nat} {l : List Leg} (h : LegCells w a n l) (k : Nat) (hk : k < n) :
    ∃ b off x ka kn kc, a = some ⟨b, off, none⟩ ∧ l[k]? = some x ∧ b < w.heap.size ∧ w.cell? ⟨b, off + k * 5, none⟩ = some (.int .i64 x.frm) ∧ w.cell? ⟨b, off + k * 5 + 1, none⟩ = some (.int .i64 x.to) ∧ w.cell? ⟨b, off + k * 5 + 2, none⟩ = some (.int .i64 x.long.lo) ∧ w.cell? ⟨b, off + k * 5 + 3, none⟩ = some (.int .i64 x.long.hi)
      ∧ w.cell? ⟨b, off + k * 5 + 4, none⟩ = some (.slice ka kn kc) := by
  obtain ⟨hl, h⟩ := h
  obtain ⟨b, off, ha, hc⟩ := h (by omega)
  obtain ⟨x, hx⟩ : ∃ x, l[k]? = some x := ⟨l[k], by simp⟩
  obtain ⟨ka, kn, kc, h1⟩ := hc k x hx
  have h0 := h1 0 _ rfl
  simp only [Nat.add_zero] at h0
  exact ⟨b, off, x, ka, kn, kc, ha, hx, block_lt_of_cell h0, h0, h1 1 _ rfl, h1 2 _ rfl, h1 3 _ rfl, h1 4 _ rfl⟩
structure Lead where
  i : Nat
  o : Int
def Lead.enc (x : Lead) : Array Value := #[.int .i64 x.i, .int .i64 x.o]
def leadsFrom (w : Int) : Nat → List Leg → List Lead
  | _, [] => []
  | i, x :: l => if w = x.frm then ⟨i, x.to⟩ :: leadsFrom w (i + 1) l else if w = x.to then ⟨i, x.frm⟩ :: leadsFrom w (i + 1) l else leadsFrom w (i + 1) l
theorem leads_drop {w : Int} {l : List Leg} {k : Nat} {x : Leg} (h : l[k]? = some x) : leadsFrom w k (l.drop k) = if w = x.frm then ⟨k, x.to⟩ :: leadsFrom w (k + 1) (l.drop (k + 1)) else if w = x.to then ⟨k, x.frm⟩ :: leadsFrom w (k + 1) (l.drop (k + 1)) else leadsFrom w (k + 1) (l.drop (k + 1)) := by
  have hk := (List.getElem?_eq_some_iff.1 h).1
  have e : l.drop k = x :: l.drop (k + 1) := by
    rw [List.drop_eq_getElem_cons hk]
    congr 1
    have := List.getElem?_eq_getElem hk
    rw [h] at this
    exact (Option.some.inj this).symm
  rw [e]
  rfl
theorem leadsFn_any (wa : Option Addr) (wn wc : Nat) (la : Option Addr) (ln lc : Nat) (p0 p1 wl : Int) (w : World) : Calls Try.prog 95 #[.agg #[.slice wa wn wc, .slice la ln lc, .int .i64 p0, .int .i64 p1], .int .i64 wl] w fun e w' => e = .returned (.func (.func 135) #[] #[.pointer (some ⟨w.heap.size, 0, none⟩), .pointer (some ⟨w.heap.size + 1, 0, none⟩)]) ∧ w' = (w.alloc (.cells #[.slice wa wn wc, .slice la ln lc, .int .i64 p0, .int .i64 p1] 108)).alloc (.cells #[.int .i64 wl] 3) := by
  go_enter Try.func95, Try.ntmps95
  go_wp2_with fail
  go_ret
  exact ⟨rfl, rfl⟩
set_option maxRecDepth 100000 in
set_option maxHeartbeats 8000000 in
theorem leads1_any (n : Nat) (y pc pw : Nat) (wa : Option Addr) (wn wc : Nat) (la : Option Addr) (ln lc : Nat) (p0 p1 : Int) (legs : List Leg) (wl : Int) (O : Nat → Prop) (W : World) (hC : W.heap[pc]? = some (.cells #[.slice wa wn wc, .slice la ln lc, .int .i64 p0, .int .i64 p1] 108 (0, 0))) (hW : W.heap[pw]? = some (.cells #[.int .i64 wl] 3 (0, 0)))
    (hl : LegCells W la ln legs) (hln : ln ≤ 1000000000) (hlc : ln ≤ lc) (hlm : lc ≤ maxLen) (hOc : ¬O pc) (hOw : ¬O pw) (hOs : ∀ x, la = some x → ¬O x.block) (J Jx : List Lead → World → Prop) (hJ : ∀ s A B, J s A → But (fun _ => False) A B → J s B)
    (hY : ∀ pre x W1, J pre W1 → pre.length < (leadsFrom wl 0 legs).length → YieldAt Fence.wide (n - 1) Try.prog y (Lead.enc x) W1 fun e W' =>
      (e = .returned (.bool true) ∧ J (pre ++ [x]) W' ∧ KpO O W1 W') ∨ (e = .returned (.bool false) ∧ Jx (pre ++ [x]) W'))
    (h0 : J [] W) :
    CallsIn Fence.wide n Try.prog 135 #[.func (.yield y) #[] #[], .pointer (some ⟨pc, 0, none⟩), .pointer (some ⟨pw, 0, none⟩)] W fun e W' => (∃ v, e = .returned v) ∧ ((∃ xs, xs = leadsFrom wl 0 legs ∧ J xs W') ∨ (∃ pre, pre <+: leadsFrom wl 0 legs ∧ Jx pre W')) := by
  have hll := hl.1
  unfold maxLen at hlm
  obtain ⟨z, _⟩ := (Ext.refl W).box hC
  have HC := Lib.hid hC
  have HW := Lib.hid hW
  have Hl := Lib.hid hl
  have HOc := Lib.hid hOc
  have HOw := Lib.hid hOw
  have HOs := Lib.hid hOs
  have HJ := Lib.hid hJ
  have HY := Lib.hid hY
  have Hll := Lib.hid hll
  clear hC hW hl hOc hOw hOs hJ hY hll
  refine callsIn_of_wp Try.func135 rfl trivial ?_ rfl
  simp only [Try.ntmps135, List.size_toArray, List.length_cons, List.length_nil, Nat.reduceAdd, Nat.reduceSub, Array.replicate_succ, Array.replicate_zero, List.push_toArray, List.append_toArray, List.nil_append, List.cons_append]
  gi_wp2
  gi_loopw [10] (fun i wr => ∃ (k : Nat) (pre : List Lead), k ≤ ln ∧ i = .int .i64 k ∧ J pre wr ∧ pre ++ leadsFrom wl k (legs.drop k) = leadsFrom wl 0 legs ∧ KpO O W wr) (fun i _ => ln - (intOf i).toNat)
  case atStart => exact ⟨0, [], Nat.zero_le _, rfl, h0, rfl, KpO.refl _ _⟩
  case round =>
    obtain ⟨k, pre, hk, rfl, hj, hseq, hkp⟩ := hrel
    clear h0 z
    by_cases hlt : k < ln
    · have hltB : decide ((k : Int) < (ln : Int)) = true := by simp; omega
      have hlk := Hl.out.kpO hkp HOs.out
      obtain ⟨lb, lo, x, ka, kn, kc, rfl, hmk, hlb, c0, c1, c2, c3, c4⟩ := hlk.get k hlt
      rw [leads_drop hmk] at hseq
      have hcw := hkp.cells HC.out HOc.out
      have hwl := hkp.cells HW.out HOw.out
      obtain ⟨f1, _⟩ := (Ext.refl wr).box hwl
      have hpw := heap_lt hwl
      obtain ⟨fr, tw, ⟨g0, g1⟩, gs⟩ := x
      simp only at c0 c1 c2 c3 c4 hseq
      by_cases h1 : wl = fr
      · have h1B : (wl == fr) = true := by simpa using h1
        rw [if_pos h1] at hseq
        clear h1
        have hY2 := fun W4 (hx : Ext wr W4) => HY.out pre ⟨k, tw⟩ W4 (HJ.out _ _ _ hj (hx.but _)) (by rw [← hseq]; simp)
        unfold Lead.enc at hY2
        simp only at hY2
        have hxs : (pre ++ [⟨k, tw⟩]) ++ leadsFrom wl (k + 1) (legs.drop (k + 1)) = leadsFrom wl 0 legs := by rw [← hseq]; simp
        have hx1 : Ext wr (wr.alloc (.cells #[.int .i64 fr, .int .i64 tw, .int .i64 g0, .int .i64 g1, .slice ka kn kc] 106)) := (Ext.refl _).alloc _
        have hkp1 := hkp.trans (hx1.kpO O)
        obtain ⟨fn', tmps, assign, body, hy, hR⟩ := hY2 _ hx1
        have HR := Lib.hid hR
        clear hR hY2
        have Hkp1 := Lib.hid hkp1
        have Hseq := Lib.hid hseq
        have Hxs := Lib.hid hxs
        clear hkp1 hseq hxs
        clear hx1 hcw hwl hlk hj hmk
        gi_wp2
        refine ⟨fun h => (by cases h), HR.out.mono ?_⟩
        clear HR hy
        rintro e W3 (⟨rfl, hj3, hk3⟩ | ⟨rfl, hjx3⟩)
        · have hkp3 := Hkp1.out.trans hk3
          have HJ3 := Lib.hid hj3
          clear hj3
          have Hk3 := Lib.hid hk3
          have Hkp3 := Lib.hid hkp3
          clear hk3 hkp3
          clear Hseq c0 c1 c2 c3 c4 f1
          gi_wp2
          go_roundw
          case rel => exact ⟨k + 1, _, by omega, by go_num, HJ3.out, Hxs.out, Hkp3.out⟩
          case measure => simp [intOf]; omega
        · clear Hseq c0 c1 c2 c3 c4 f1
          gi_wp2
          refine bodyPost_ret (results_none rfl _ _ _) rfl ?_
          exact ⟨⟨_, rfl⟩, .inr ⟨_, by rw [← Hxs.out]; exact List.prefix_append _ _, hjx3⟩⟩
      · have h1B : (wl == fr) = false := by simpa using h1
        rw [if_neg h1] at hseq
        clear h1
        by_cases h2 : wl = tw
        · have h2B : (wl == tw) = true := by simpa using h2
          rw [if_pos h2] at hseq
          clear h2
          have hY2 := fun W4 (hx : Ext wr W4) => HY.out pre ⟨k, fr⟩ W4 (HJ.out _ _ _ hj (hx.but _)) (by rw [← hseq]; simp)
          unfold Lead.enc at hY2
          simp only at hY2
          have hxs : (pre ++ [⟨k, fr⟩]) ++ leadsFrom wl (k + 1) (legs.drop (k + 1)) = leadsFrom wl 0 legs := by rw [← hseq]; simp
          have hx1 : Ext wr (wr.alloc (.cells #[.int .i64 fr, .int .i64 tw, .int .i64 g0, .int .i64 g1, .slice ka kn kc] 106)) := (Ext.refl _).alloc _
          have hkp1 := hkp.trans (hx1.kpO O)
          obtain ⟨fn', tmps, assign, body, hy, hR⟩ := hY2 _ hx1
          have HR := Lib.hid hR
          clear hR hY2
          have Hkp1 := Lib.hid hkp1
          have Hseq := Lib.hid hseq
          have Hxs := Lib.hid hxs
          clear hkp1 hseq hxs
          clear hx1 hcw hwl hlk hj hmk
          gi_wp2
          refine ⟨fun h => (by cases h), HR.out.mono ?_⟩
          clear HR hy
          rintro e W3 (⟨rfl, hj3, hk3⟩ | ⟨rfl, hjx3⟩)
          · have hkp3 := Hkp1.out.trans hk3
            have HJ3 := Lib.hid hj3
            clear hj3
            have Hk3 := Lib.hid hk3
            have Hkp3 := Lib.hid hkp3
            clear hk3 hkp3
            clear Hseq c0 c1 c2 c3 c4 f1
            gi_wp2
            go_roundw
            case rel => exact ⟨k + 1, _, by omega, by go_num, HJ3.out, Hxs.out, Hkp3.out⟩
            case measure => simp [intOf]; omega
          · clear Hseq c0 c1 c2 c3 c4 f1
            gi_wp2
            refine bodyPost_ret (results_none rfl _ _ _) rfl ?_
            exact ⟨⟨_, rfl⟩, .inr ⟨_, by rw [← Hxs.out]; exact List.prefix_append _ _, hjx3⟩⟩
        · have h2B : (wl == tw) = false := by simpa using h2
          rw [if_neg h2] at hseq
          clear h2
          have hkp1 := hkp.trans (((Ext.refl wr).alloc (.cells #[.int .i64 fr, .int .i64 tw, .int .i64 g0, .int .i64 g1, .slice ka kn kc] 106)).kpO O)
          have hj1 := HJ.out _ _ _ hj (((Ext.refl wr).alloc (.cells #[.int .i64 fr, .int .i64 tw, .int .i64 g0, .int .i64 g1, .slice ka kn kc] 106)).but _)
          have Hkp1 := Lib.hid hkp1
          have Hj1 := Lib.hid hj1
          have Hseq := Lib.hid hseq
          clear hkp1 hj1 hseq
          clear hcw hwl hlk hj hmk hkp
          gi_wp2
          go_roundw
          case rel => exact ⟨k + 1, _, by omega, by go_num, Hj1.out, Hseq.out, Hkp1.out⟩
          case measure => simp [intOf]; omega
    · have hltB : decide ((k : Int) < (ln : Int)) = false := by simp; omega
      obtain rfl : k = ln := by omega
      have hall : pre = leadsFrom wl 0 legs := by
        rw [List.drop_of_length_le (by have := Hll.out; omega)] at hseq
        simpa [leadsFrom] using hseq
      have Hall := Lib.hid hall
      have Hj := Lib.hid hj
      clear hall hj
      clear hseq hkp
      gi_wp2
      go_end0
      exact ⟨⟨_, rfl⟩, .inl ⟨_, Hall.out, Hj.out⟩⟩
theorem leads_stops (n : Nat) (pc pw : Nat) (wa : Option Addr) (wn wc : Nat) (la : Option Addr) (ln lc : Nat) (p0 p1 : Int) (legs : List Leg) (wl : Int) (O : Nat → Prop) (w : World) (hC : w.heap[pc]? = some (.cells #[.slice wa wn wc, .slice la ln lc, .int .i64 p0, .int .i64 p1] 108 (0, 0))) (hW : w.heap[pw]? = some (.cells #[.int .i64 wl] 3 (0, 0)))
    (hl : LegCells w la ln legs) (hln : ln ≤ 1000000000) (hlc : ln ≤ lc) (hlm : lc ≤ maxLen) (hOc : ¬O pc) (hOw : ¬O pw) (hOs : ∀ x, la = some x → ¬O x.block) :
    SeqStopsB Fence.wide n Try.prog 135 #[.pointer (some ⟨pc, 0, none⟩), .pointer (some ⟨pw, 0, none⟩)] Lead.enc (KpO O) (fun xs => xs = leadsFrom wl 0 legs) (fun pre => pre <+: leadsFrom wl 0 legs) (leadsFrom wl 0 legs).length (fun _ => False) w := fun y J Jx W hE hJ _ hY h0 =>
  leads1_any n y pc pw wa wn wc la ln lc p0 p1 legs wl O W (hE.heap hC) (hE.heap hW) (hl.ext hE) hln hlc hlm hOc hOw hOs J Jx hJ hY h0
end Go.Proofs.Ytcoelhpmkhimpaa

/- Contract of layer 3: the other end of a leg. -/
namespace Go.Proofs.Ytcoelhpmkhimpaa
open Go.RowKit
set_option linter.unusedVariables false
set_option linter.unusedSimpArgs false
attribute [local go_sem] Oper.semAt_some
theorem leads_mem {w : Int} {x : Lead} : ∀ {l : List Leg} {i : Nat}, x ∈ leadsFrom w i l → ∃ f k, x.i = i + k ∧ l[k]? = some f ∧ (if w = f.frm then x.o = f.to else w = f.to ∧ x.o = f.frm)
  | [], i, h => by cases h
  | f :: l, i, h => by
    have tl : x ∈ leadsFrom w (i + 1) l → ∃ g k, x.i = i + k ∧ (f :: l)[k]? = some g ∧ (if w = g.frm then x.o = g.to else w = g.to ∧ x.o = g.frm) := fun h => by
      obtain ⟨g, k, h1, h2, h3⟩ := leads_mem h
      exact ⟨g, k + 1, by omega, by simpa using h2, h3⟩
    unfold leadsFrom at h
    by_cases h1 : w = f.frm
    · rw [if_pos h1] at h
      rcases List.mem_cons.1 h with rfl | h
      · exact ⟨f, 0, rfl, rfl, by rw [if_pos h1]⟩
      · exact tl h
    · rw [if_neg h1] at h
      by_cases h2 : w = f.to
      · rw [if_pos h2] at h
        rcases List.mem_cons.1 h with rfl | h
        · exact ⟨f, 0, rfl, rfl, by rw [if_neg h1]; exact ⟨h2, rfl⟩⟩
        · exact tl h
      · rw [if_neg h2] at h
        exact tl h
theorem leads_has {w : Int} {f : Leg} : ∀ {l : List Leg} {i k : Nat}, l[k]? = some f → (w = f.frm ∨ w = f.to) → ∃ x ∈ leadsFrom w i l, x.i = i + k
  | [], i, k, h, _ => by simp at h
  | g :: l, i, 0, h, hw => by
    simp only [List.getElem?_cons_zero, Option.some.injEq] at h
    subst h
    unfold leadsFrom
    by_cases h1 : w = g.frm
    · rw [if_pos h1]
      exact ⟨_, List.mem_cons_self .., rfl⟩
    · rw [if_neg h1, if_pos (hw.resolve_left h1)]
      exact ⟨_, List.mem_cons_self .., rfl⟩
  | g :: l, i, k + 1, h, hw => by
    obtain ⟨x, hx, hi⟩ := leads_has (i := i + 1) (show l[k]? = some f by simpa using h) hw
    refine ⟨x, ?_, by omega⟩
    unfold leadsFrom
    split
    · exact List.mem_cons_of_mem _ hx
    · split
      · exact List.mem_cons_of_mem _ hx
      · exact hx
theorem end_found {l : Land} {w g : Int} {x : Lead} (h : x ∈ leadsFrom w 0 l.legs) (hg : (x.i : Int) = g) : endOf l g w = x.o := by
  obtain ⟨f, k, h1, h2, h3⟩ := leads_mem h
  have hk := (List.getElem?_eq_some_iff.1 h2).1
  have e : l.legs.getD g.toNat zleg = f := by
    rw [List.getD_eq_getElem?_getD, show g.toNat = k by omega, h2]
    rfl
  unfold endOf
  rw [if_pos (by omega), e]
  by_cases q : w = f.frm
  · rw [if_pos q] at h3 ⊢
    exact h3.symm
  · rw [if_neg q] at h3 ⊢
    rw [if_pos h3.1]
    exact h3.2.symm
theorem end_none {l : Land} {w g : Int} (h : ∀ x ∈ leadsFrom w 0 l.legs, (x.i : Int) ≠ g) : endOf l g w = -1 := by
  unfold endOf
  by_cases hg : 0 ≤ g ∧ g < l.legs.length
  · rw [if_pos hg]
    have e : l.legs[g.toNat]? = some (l.legs.getD g.toNat zleg) := by
      rw [List.getD_eq_getElem?_getD, List.getElem?_eq_getElem (show g.toNat < l.legs.length by omega)]
      rfl
    have no : ¬(w = (l.legs.getD g.toNat zleg).frm ∨ w = (l.legs.getD g.toNat zleg).to) := fun hw => by
      obtain ⟨x, hx, hi⟩ := leads_has (i := 0) e hw
      exact h x hx (by omega)
    rw [if_neg (fun q => no (.inl q)), if_neg (fun q => no (.inr q))]
  · rw [if_neg hg]
structure EndI (w : World) (g : Int) (pre : List Lead) (V : World) : Prop where
  ext : Ext w V
  lg : V.heap[w.heap.size + 1]? = some (.cells #[.int .i64 g] 3 (0, 0))
  r : V.heap[w.heap.size + 1 + 1]? = some (.cells #[.int .i64 0] 3 (0, 0))
  ne : ∀ x ∈ pre, (x.i : Int) ≠ g
def EndX (w : World) (g : Int) (c : Code) (pre : List Lead) (V : World) : Prop := ∃ p x, pre = p ++ [x] ∧ (x.i : Int) = g ∧ c = .ret ∧ Ext w V ∧ V.heap[w.heap.size + 1 + 1]? = some (.cells #[.int .i64 x.o] 3 (0, 0))
theorem EndI.f {w : World} {g : Int} {lo : Nat} {pre : List Lead} {A B : World} (h : EndI w g pre A) (h2 : w.heap.size ≤ lo) (k : ButF (fun _ => False) lo A B) : EndI w g pre B :=
  ⟨ButF.ext h.ext k (fun b hb => hb.elim) h2, k.cells h.lg id, k.cells h.r id, h.ne⟩
theorem EndX.f {w : World} {g : Int} {lo : Nat} {c : Code} {pre : List Lead} {A B : World} (h : EndX w g c pre A) (h2 : w.heap.size ≤ lo) (k : ButF (fun _ => False) lo A B) : EndX w g c pre B := by
  obtain ⟨p, x, e1, e2, e3, h, r⟩ := h
  exact ⟨p, x, e1, e2, e3, ButF.ext h k (fun b hb => hb.elim) h2, k.cells r id⟩
theorem kpO_set' {O : Nat → Prop} (W : World) {b i : Nat} (v : Value) (hO : O b) : KpO O W (W.setCell ⟨b, i, none⟩ v) :=
  ⟨by simp [World.setCell], fun k o hk _ hn => (Below.heap_setCell _ _ _ _ (fun e => hn (by simp only at e; rw [e]; exact hO))).trans hk⟩
set_option maxRecDepth 100000 in
set_option maxHeartbeats 8000000 in
theorem end_any (wa : Option Addr) (wn wc : Nat) (la : Option Addr) (ln lc : Nat) (l : Land) (p0 p1 g wl : Int) (w : World) (hl : LegCells w la ln l.legs) (hln : ln ≤ 1000000000) (hlc : ln ≤ lc) (hlm : lc ≤ maxLen) (hls : ∀ x, la = some x → x.block < w.heap.size) :
    Calls Try.prog 46 #[.agg #[.slice wa wn wc, .slice la ln lc, .int .i64 p0, .int .i64 p1], .int .i64 g, .int .i64 wl] w fun e w' => e = .returned (.int .i64 (endOf l g wl)) ∧ Ext w w' := by
  have hfd := fun x h h2 => @end_found l wl g x h h2
  have hno := @end_none l wl g
  obtain ⟨E, hE⟩ : ∃ E, endOf l g wl = E := ⟨_, rfl⟩
  rw [hE] at hfd hno ⊢
  clear hE
  obtain ⟨W0, hW0⟩ : ∃ W0, ((w.alloc (.cells #[.slice wa wn wc, .slice la ln lc, .int .i64 p0, .int .i64 p1] 108)).alloc (.cells #[.int .i64 g] 3)).alloc (.cells #[.int .i64 0] 3) = W0 := ⟨_, rfl⟩
  have hx0 : Ext w W0 := by rw [← hW0]; exact (((Ext.refl w).alloc _).alloc _).alloc _
  have hb0 : W0.heap[w.heap.size]? = some (.cells #[.slice wa wn wc, .slice la ln lc, .int .i64 p0, .int .i64 p1] 108 (0, 0)) := by rw [← hW0]; exact alloc_heap (alloc_heap (heap_alloc_new w _) _) _
  have hb1 : W0.heap[w.heap.size + 1]? = some (.cells #[.int .i64 g] 3 (0, 0)) := by rw [← hW0]; exact alloc_heap (alloc_at _ _ _ (by simp)) _
  have hb2 : W0.heap[w.heap.size + 1 + 1]? = some (.cells #[.int .i64 0] 3 (0, 0)) := by rw [← hW0]; exact alloc_at _ _ _ (by simp)
  obtain ⟨z0, _⟩ := (Ext.refl W0).box hb0
  have Hx0 := Lib.hid hx0
  have Hb0 := Lib.hid hb0
  have Hb1 := Lib.hid hb1
  have Hb2 := Lib.hid hb2
  have Hfd := Lib.hid hfd
  have Hno := Lib.hid hno
  have Hls := Lib.hid hls
  have Hl := Lib.hid hl
  clear hx0 hb0 hb1 hb2 hfd hno hls hl
  refine (callsIn_wide (n := 3)).1 ?_
  refine callsIn_of_wp_marks Try.func46 rfl trivial ?_ rfl
  simp only [Try.ntmps46, List.size_toArray, List.length_cons, List.length_nil, Nat.reduceAdd, Nat.reduceSub, Array.replicate_succ, Array.replicate_zero, List.push_toArray, List.append_toArray, List.nil_append, List.cons_append]
  refine wpIn_wide.2 ?_
  go_wp2_with (go_at_call 95; refine (leadsFn_any wa wn wc la ln lc p0 p1 wl _).mono ?_; rintro e W4 ⟨rfl, rfl⟩)
  have hx4 : Ext W0 ((W0.alloc (.cells #[.slice wa wn wc, .slice la ln lc, .int .i64 p0, .int .i64 p1] 108)).alloc (.cells #[.int .i64 wl] 3)) := ((Ext.refl W0).alloc _).alloc _
  have hpc : ((W0.alloc (.cells #[.slice wa wn wc, .slice la ln lc, .int .i64 p0, .int .i64 p1] 108)).alloc (.cells #[.int .i64 wl] 3)).heap[W0.heap.size]? = some (.cells #[.slice wa wn wc, .slice la ln lc, .int .i64 p0, .int .i64 p1] 108 (0, 0)) := alloc_heap (heap_alloc_new W0 _) _
  have hpw : ((W0.alloc (.cells #[.slice wa wn wc, .slice la ln lc, .int .i64 p0, .int .i64 p1] 108)).alloc (.cells #[.int .i64 wl] 3)).heap[W0.heap.size + 1]? = some (.cells #[.int .i64 wl] 3 (0, 0)) := alloc_at _ _ _ (by simp)
  generalize ((W0.alloc (.cells #[.slice wa wn wc, .slice la ln lc, .int .i64 p0, .int .i64 p1] 108)).alloc (.cells #[.int .i64 wl] 3)) = W4 at *
  have hs2 := heap_lt Hb2.out
  have hw4 : w.heap.size ≤ W4.heap.size := (Hx0.out.trans hx4).size
  generalize W0.heap.size = pc at *
  have hseq := leads_stops 2 pc (pc + 1) wa wn wc la ln lc p0 p1 l.legs wl (fun b => b = w.heap.size + 1 + 1) W4 hpc hpw (Hl.out.ext (Hx0.out.trans hx4)) hln hlc hlm (by omega) (by omega) (fun x hx => by have := Hls.out x hx; omega)
  have hI0 : EndI w g [] W4 := ⟨Hx0.out.trans hx4, hx4.heap Hb1.out, hx4.heap Hb2.out, by simp⟩
  have Hseq := Lib.hid hseq
  have HI0 := Lib.hid hI0
  clear hseq hI0
  clear hx4 hpc hpw hs2 hW0 z0
  refine (wpIn_wide (n := 3)).1 (wpIn_rangeFunc_but rfl (by omega) (gf := 135) (lb := #[.pointer (some ⟨pc, 0, none⟩), .pointer (some ⟨pc + 1, 0, none⟩)]) rfl trivial (enters_of Try.func135 (by kernel_rfl) rfl) Hseq.out kpO_t kpO_b (Ext.refl _) (fun b hb => hb.elim) (fun _ => rfl)
    (EndI w g) (EndX w g)
    (fun q A B h k => h.f (by omega) k)
    (fun c q A B h k => h.f (by omega) k)
    HI0.out ?a1 ?assign ?body ?done ?stop)
  case assign =>
    intro l x W K hK
    gi_wp2
    simp [Lead.enc]
    exact hK
  case body =>
    intro l pre x W hI hlt
    obtain ⟨y0, y1⟩ := (Ext.refl W).box hI.lg
    obtain ⟨y2, y3⟩ := (Ext.refl W).box hI.r
    have hnl := heap_lt hI.lg
    have hrl := heap_lt hI.r
    obtain ⟨xi, xo⟩ := x
    by_cases h2 : (xi : Int) = g
    · have h2B : ((xi : Int) == g) = true := by simpa using h2
      have hr2 : (W.setCell ⟨w.heap.size + 1 + 1, 0, none⟩ (.int .i64 xo)).heap[w.heap.size + 1 + 1]? = some (.cells #[.int .i64 xo] 3 (0, 0)) := by
        rw [heap_setCell_box, hI.r]
        rfl
      have hx2 := hI.ext.setCell (p := ⟨w.heap.size + 1 + 1, 0, none⟩) (by simp only; omega) (.int .i64 xo)
      have HI := Lib.hid hI
      have Hr2 := Lib.hid hr2
      have Hx2 := Lib.hid hx2
      have H2 := Lib.hid h2
      clear hI hr2 hx2 h2
      gi_wp2
      exact ⟨KeepsOthers.setCell _ _ _, pre, ⟨xi, xo⟩, rfl, H2.out, rfl, Hx2.out, Hr2.out⟩
    · have h2B : ((xi : Int) == g) = false := by simpa using h2
      have HI := Lib.hid hI
      have H2 := Lib.hid h2
      clear hI h2
      gi_wp2
      exact ⟨KeepsOthers.refl _, KpO.refl _ _, HI.out.ext, HI.out.lg, HI.out.r, fun y hy => by
        rcases List.mem_append.1 hy with h | h
        · exact HI.out.ne y h
        · rw [List.mem_singleton.1 h]
          exact H2.out⟩
  case done =>
    rintro D xs W hD hxs hI hK
    have hE := Hno.out (by rw [← hxs]; exact hI.ne)
    have hrl := heap_lt hI.r
    obtain ⟨y2, y3⟩ := (Ext.refl W).box hI.r
    have hIe := hI.ext
    have hIr := hI.r
    have HIe := Lib.hid hIe
    have HIr := Lib.hid hIr
    have HE := Lib.hid hE
    clear hIe hIr hE
    clear hI hxs
    go_wp2_with fail
    have hK' := ((KeepsOthers.setCell W ⟨w.heap.size + 1 + 1, 0, none⟩ (.int .i64 (-1)))).same D _ hK rfl
    have hr9 : (W.setCell ⟨w.heap.size + 1 + 1, 0, none⟩ (.int .i64 (-1))).heap[w.heap.size + 1 + 1]? = some (.cells #[.int .i64 (-1)] 3 (0, 0)) := by
      rw [heap_setCell_box, HIr.out]
      rfl
    have hx9 := HIe.out.setCell (p := ⟨w.heap.size + 1 + 1, 0, none⟩) (by simp only; omega) (.int .i64 (-1))
    generalize W.setCell ⟨w.heap.size + 1 + 1, 0, none⟩ (.int .i64 (-1)) = W9 at *
    have hc5 := ((Ext.refl _).box (taken_heap hr9 hK')).1 0
    refine marks_ret1 hK' (v := .int .i64 (-1)) (by simp [results, Try.f46, go_sem, hc5]) ⟨by rw [HE.out], ext_taken hx9 (by omega)⟩
  case stop =>
    rintro D c pre W hD hpre ⟨p, x, rfl, hg, rfl, hIe, hIr⟩ hK
    have hE := Hfd.out x (hpre.subset (by simp)) hg
    have hc5 := ((Ext.refl _).box (taken_heap hIr hK)).1 0
    have HIe := Lib.hid hIe
    have HE := Lib.hid hE
    clear hIe hE
    gi_wp2
    refine marks_ret1 hK (v := .int .i64 x.o) (by simp [results, Try.f46, go_sem, hc5]) ⟨by rw [HE.out], ext_taken HIe.out (by omega)⟩
end Go.Proofs.Ytcoelhpmkhimpaa

/- Walk, plain: how the ends and the stops come about, leg by leg; and what an append leaves as it is. -/
namespace Go.Proofs.Ytcoelhpmkhimpaa
open Go.RowKit
set_option linter.unusedVariables false
set_option linter.unusedSimpArgs false
theorem drop_at {α : Type} {l : List α} {k : Nat} {x : α} (h : l[k]? = some x) : l.drop k = x :: l.drop (k + 1) := by
  have hk := (List.getElem?_eq_some_iff.1 h).1
  rw [List.drop_eq_getElem_cons hk]
  congr 1
  have := List.getElem?_eq_getElem hk
  rw [h] at this
  exact (Option.some.inj this).symm
def addE {α : Type} (k : Nat) (es : List α) : Except Nat (List α) → Except Nat (List α)
  | .error j => .error (k + j)
  | .ok fs => .ok (es ++ fs)
theorem addE_zero {α : Type} (x : Except Nat (List α)) : addE 0 [] x = x := by
  cases x
  · simp [addE]
  · rfl
theorem addE_end {α : Type} (k : Nat) (es : List α) : addE k es (.ok []) = .ok es := by simp [addE]
theorem ends_step {l : Land} {gs es : List Int} {k : Nat} {g w : Int} (h : gs[k]? = some g) :
    addE k es (endsOf l w (gs.drop k)) = if endOf l g w < 0 then .error k else addE (k + 1) (es ++ [endOf l g w]) (endsOf l (endOf l g w) (gs.drop (k + 1))) := by
  rw [drop_at h]
  conv => lhs; unfold endsOf
  by_cases h0 : endOf l g w < 0
  · rw [if_pos h0, if_pos h0]
    rfl
  · rw [if_neg h0, if_neg h0]
    cases endsOf l (endOf l g w) (gs.drop (k + 1)) with
    | error j => simp only [addE]; congr 1; omega
    | ok fs => simp [addE]
theorem stops_step {l : Land} {p a : Span} {gs es : List Int} {ss : List Stop} {k : Nat} {g e : Int} (h : gs[k]? = some g) (he : es[k]? = some e) :
    addE k ss (stopsOf l p a (gs.drop k) (es.drop k)) = if 100000 < (arriveOf (legAt l g) p a).hi then .error k else addE (k + 1) (ss ++ [⟨g, e, leaveOf (legAt l g) p a, arriveOf (legAt l g) p a⟩]) (stopsOf l p (arriveOf (legAt l g) p a) (gs.drop (k + 1)) (es.drop (k + 1))) := by
  rw [drop_at h, drop_at he]
  conv => lhs; unfold stopsOf
  by_cases h0 : 100000 < (arriveOf (legAt l g) p a).hi
  · rw [if_pos h0, if_pos h0]
    rfl
  · rw [if_neg h0, if_neg h0]
    cases stopsOf l p (arriveOf (legAt l g) p a) (gs.drop (k + 1)) (es.drop (k + 1)) with
    | error j => simp only [addE]; congr 1; omega
    | ok fs => simp [addE]
theorem ends_legs {l : Land} (hl : l.legs.all (legOk l.wells.length) = true) : ∀ {gs : List Int} {w : Int} {es : List Int}, endsOf l w gs = .ok es → es.length = gs.length ∧ ∀ g ∈ gs, (0 ≤ g ∧ g < l.legs.length) ∧ LegOk l.wells.length (legAt l g)
  | [], w, es, h => by
    cases h
    exact ⟨rfl, by simp⟩
  | g :: gs, w, es, h => by
    unfold endsOf at h
    split at h
    · cases h
    · rename_i hw
      obtain ⟨hg, hx, _⟩ := end_is hl hw
      split at h
      · cases h
      · rename_i es' he'
        cases h
        obtain ⟨h1, h2⟩ := ends_legs hl he'
        refine ⟨by simp [h1], fun g' hg' => ?_⟩
        rcases List.mem_cons.1 hg' with rfl | hg'
        · exact ⟨hg, hx⟩
        · exact h2 g' hg'
def walkOf (l : Land) (p : Span) (from' day : Int) (gs : List Int) : List Stop × Int × Int :=
  if openErr l p ≠ 0 then ([], 0, openErr l p) else if (inB from' 0 (l.wells.length - 1) && inB day 0 100000) = false then ([], 0, 2) else if 24 < gs.length then ([], 0, 4) else
    match endsOf l from' gs with
    | .error k => ([], k, 8)
    | .ok es => match stopsOf l p ⟨day, day⟩ gs es with
      | .error k => ([], k, 34)
      | .ok ss => (ss, 0, 0)
theorem but_grown {W W' : World} {v : Value} (h : W.grownBy W' v.ownBlock) : But (fun b => v.ownBlock = some b) W W' := by
  obtain ⟨h1, h2, h3, h4, h5⟩ := h
  exact ⟨h1, h2, h3, h4, fun b o hb hn => (h5 b (heap_lt hb) (fun e => hn e.symm)).trans hb⟩
theorem But.box {O : Nat → Prop} {w w' : World} (h : But O w w') {b : Nat} {cs : Array Value} {t : TypeId} (hb : w.heap[b]? = some (.cells cs t (0, 0))) (hn : ¬O b) : (∀ j, w'.cell? ⟨b, j, none⟩ = cs[j]?) ∧ (∀ j, w'.frozen? ⟨b, j, none⟩ = false) := (Ext.refl w').box (h.block _ _ hb hn)
/-- what is turned lies behind A -/
theorem But.behind {O P : Nat → Prop} {A B C : World} (h : But O A B) (k : But P B C) (hP : ∀ b, P b → A.heap.size ≤ b) : But O A C :=
  ⟨k.os.trans h.os, k.tape.trans h.tape, k.output.trans h.output, Nat.le_trans h.size k.size, fun b o hb hn => k.block b o (h.block b o hb hn) (fun e => by have := hP b e; have := heap_lt hb; omega)⟩
theorem SlAt.but {O : Nat → Prop} {A B : World} {sz : Nat} {a : Option Addr} {n : Nat} {f : Nat → List Value} (h : SlAt A sz a n f) (k : But O A B) (hn : ∀ x, a = some x → ¬O x.block) : SlAt B sz a n f := fun h0 => by
  obtain ⟨b, off, ha, hc⟩ := h h0
  refine ⟨b, off, ha, fun i hi j v hv => ?_⟩
  have hcell := hc i hi j v hv
  obtain ⟨o, ho, _⟩ := cells_of_cell hcell
  exact (World.cell?_of_block ((k.block _ o ho (show ¬O b from hn _ ha)).trans ho.symm)).trans hcell
def stopRows (l : List Stop) : List (List Value) := l.map Stop.cells
theorem stopRows_row (l : List Stop) : ∀ r ∈ stopRows l, r.length = 6 ∧ ∀ u ∈ r, u.oneCell' = true := by
  intro r hr
  obtain ⟨s, _, rfl⟩ := List.mem_map.1 hr
  refine ⟨rfl, fun u hu => ?_⟩
  simp only [Stop.cells, List.mem_cons, List.not_mem_nil, or_false] at hu
  rcases hu with rfl | rfl | rfl | rfl | rfl | rfl <;> rfl
theorem stopRows_append (l m : List Stop) : stopRows (l ++ m) = stopRows l ++ stopRows m := by simp [stopRows]
theorem stops_of_owns {w : World} {B : Nat} {e : TypeId} {v : Value} {l : List Stop} (h : Owns w B e 6 v (stopRows l)) : ∃ a c, v = .slice a l.length c ∧ From B a ∧ l.length ≤ c ∧ c ≤ maxLen ∧ StopsAt w a l.length l := by
  obtain ⟨a, c, hv, h0, h1, h2, h3⟩ := h.slAt
  have e : (stopRows l).length = l.length := by simp [stopRows]
  rw [e] at hv h1 h3
  refine ⟨a, c, hv, h0, h1, h2, rfl, h3.congr fun i hi => ?_⟩
  simp [stopRows, List.getD, List.getElem?_map, List.getElem?_eq_getElem hi]
theorem info3w : (Try.prog.info? 3).map (fun i => (i.zero, i.size, i.bytes)) = some (some (.int .i64 0), 1, 8) := by kernel_rfl
theorem elem34 : Elem Try.prog 34 3 1 := by
  obtain ⟨i, h1, h2, h3, h4⟩ := info_parts info3w
  exact ⟨Try.underlying34, ⟨i, _, _, h1, h2, h3, h4, rfl, by decide⟩, by decide⟩
theorem info44 : (Try.prog.info? 44).map (fun i => (i.zero, i.size, i.bytes)) = some (some (.agg #[.int .i64 0, .int .i64 0, .int .i64 0, .int .i64 0, .int .i64 0, .int .i64 0]), 6, 48) := by kernel_rfl
theorem elem39 : Elem Try.prog 39 44 6 := by
  obtain ⟨i, h1, h2, h3, h4⟩ := info_parts info44
  exact ⟨Try.underlying39, ⟨i, _, _, h1, h2, h3, h4, rfl, by decide⟩, by decide⟩
end Go.Proofs.Ytcoelhpmkhimpaa
