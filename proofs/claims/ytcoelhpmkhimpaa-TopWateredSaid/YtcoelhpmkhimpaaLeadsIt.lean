/- The iterator over the legs of a well: its contract. -/
import Derived.Test.YtcoelhpmkhimpaaWDays
import Derived.Test.YtcoelhpmkhimpaaDaysIt
namespace Go.Proofs.Ytcoelhpmkhimpaa
open Go.RowKit
set_option linter.unusedVariables false
set_option linter.unusedSimpArgs false
attribute [local go_sem] Oper.semAt_some
/-- the legs' cells; what the slices of gates hold is left open -/
def LegCells (w : World) (a : Option Addr) (n : Nat) (l : List Leg) : Prop :=
  l.length = n ∧ (0 < n → ∃ b off, a = some ⟨b, off, none⟩ ∧ ∀ k f, l[k]? = some f → ∃ ka kn kc, Cells w b (off + k * 5) [.int .i64 f.frm, .int .i64 f.to, .int .i64 f.long.lo, .int .i64 f.long.hi, .slice ka kn kc])
theorem LegsAt.cells {w : World} {a : Option Addr} {n : Nat} {l : List Leg} (h : LegsAt w a n l) : LegCells w a n l :=
  ⟨h.1, fun hn => let ⟨b, off, ha, hc⟩ := h.2 hn; ⟨b, off, ha, fun k f hf => let ⟨ka, kn, kc, h1, _⟩ := hc k f hf; ⟨ka, kn, kc, h1⟩⟩⟩
theorem LegCells.ext {w w' : World} {a : Option Addr} {n : Nat} {l : List Leg} (h : LegCells w a n l) (e : Ext w w') : LegCells w' a n l :=
  ⟨h.1, fun hn => let ⟨b, off, ha, hc⟩ := h.2 hn; ⟨b, off, ha, fun k f hf => let ⟨ka, kn, kc, h1⟩ := hc k f hf; ⟨ka, kn, kc, h1.ext e⟩⟩⟩
theorem LegCells.kpO {O : Nat → Prop} {A B : World} {a : Option Addr} {n : Nat} {l : List Leg} (h : LegCells A a n l) (k : KpO O A B) (hn : ∀ x, a = some x → ¬O x.block) : LegCells B a n l :=
  ⟨h.1, fun h0 => let ⟨b, off, ha, hc⟩ := h.2 h0; ⟨b, off, ha, fun i f hf => let ⟨ka, kn, kc, h1⟩ := hc i f hf; ⟨ka, kn, kc, fun j v hv => k.cell (h1 j v hv) (show ¬O b from hn _ ha)⟩⟩⟩
theorem LegCells.get {w : World} {a : Option Addr} {n : Nat} {l : List Leg} (h : LegCells w a n l) (k : Nat) (hk : k < n) :
    ∃ b off x ka kn kc, a = some ⟨b, off, none⟩ ∧ l[k]? = some x ∧ b < w.heap.size ∧ w.cell? ⟨b, off + k * 5, none⟩ = some (.int .i64 x.frm) ∧ w.cell? ⟨b, off + k * 5 + 1, none⟩ = some (.int .i64 x.to) ∧ w.cell? ⟨b, off + k * 5 + 2, none⟩ = some (.int .i64 x.long.lo) ∧ w.cell? ⟨b, off + k * 5 + 3, none⟩ = some (.int .i64 x.long.hi)
      ∧ w.cell? ⟨b, off + k * 5 + 4, none⟩ = some (.slice ka kn kc) := by
  obtain ⟨hl, h⟩ := h
  obtain ⟨b, off, ha, hc⟩ := h (by omega)
  obtain ⟨x, hx⟩ : ∃ x, l[k]? = some x := ⟨l[k], by simp⟩
  obtain ⟨ka, kn, kc, h1⟩ := hc k x hx
  have h0 := h1 0 _ rfl
  simp only [Nat.add_zero] at h0
  exact ⟨b, off, x, ka, kn, kc, ha, hx, block_lt_of_cell h0, h0, h1 1 _ rfl, h1 2 _ rfl, h1 3 _ rfl, h1 4 _ rfl⟩
structure Lead where
  i : Nat
  o : Int
def Lead.enc (x : Lead) : Array Value := #[.int .i64 x.i, .int .i64 x.o]
def leadsFrom (w : Int) : Nat → List Leg → List Lead
  | _, [] => []
  | i, x :: l => if w = x.frm then ⟨i, x.to⟩ :: leadsFrom w (i + 1) l else if w = x.to then ⟨i, x.frm⟩ :: leadsFrom w (i + 1) l else leadsFrom w (i + 1) l
theorem leads_drop {w : Int} {l : List Leg} {k : Nat} {x : Leg} (h : l[k]? = some x) : leadsFrom w k (l.drop k) = if w = x.frm then ⟨k, x.to⟩ :: leadsFrom w (k + 1) (l.drop (k + 1)) else if w = x.to then ⟨k, x.frm⟩ :: leadsFrom w (k + 1) (l.drop (k + 1)) else leadsFrom w (k + 1) (l.drop (k + 1)) := by
  have hk := (List.getElem?_eq_some_iff.1 h).1
  have e : l.drop k = x :: l.drop (k + 1) := by
    rw [List.drop_eq_getElem_cons hk]
    congr 1
    have := List.getElem?_eq_getElem hk
    rw [h] at this
    exact (Option.some.inj this).symm
  rw [e]
  rfl
theorem leadsFn_any (wa : Option Addr) (wn wc : Nat) (la : Option Addr) (ln lc : Nat) (p0 p1 wl : Int) (w : World) : Calls Try.prog 95 #[.agg #[.slice wa wn wc, .slice la ln lc, .int .i64 p0, .int .i64 p1], .int .i64 wl] w fun e w' => e = .returned (.func (.func 135) #[] #[.pointer (some ⟨w.heap.size, 0, none⟩), .pointer (some ⟨w.heap.size + 1, 0, none⟩)]) ∧ w' = (w.alloc (.cells #[.slice wa wn wc, .slice la ln lc, .int .i64 p0, .int .i64 p1] 108)).alloc (.cells #[.int .i64 wl] 3) := by
  go_enter Try.func95, Try.ntmps95
  go_wp2_with fail
  go_ret
  exact ⟨rfl, rfl⟩
set_option maxRecDepth 100000 in
set_option maxHeartbeats 8000000 in
theorem leads1_any (n : Nat) (y pc pw : Nat) (wa : Option Addr) (wn wc : Nat) (la : Option Addr) (ln lc : Nat) (p0 p1 : Int) (legs : List Leg) (wl : Int) (O : Nat → Prop) (W : World) (hC : W.heap[pc]? = some (.cells #[.slice wa wn wc, .slice la ln lc, .int .i64 p0, .int .i64 p1] 108 (0, 0))) (hW : W.heap[pw]? = some (.cells #[.int .i64 wl] 3 (0, 0)))
    (hl : LegCells W la ln legs) (hln : ln ≤ 1000000000) (hlc : ln ≤ lc) (hlm : lc ≤ maxLen) (hOc : ¬O pc) (hOw : ¬O pw) (hOs : ∀ x, la = some x → ¬O x.block) (J Jx : List Lead → World → Prop) (hJ : ∀ s A B, J s A → But (fun _ => False) A B → J s B)
    (hY : ∀ pre x W1, J pre W1 → pre.length < (leadsFrom wl 0 legs).length → YieldAt Fence.wide (n - 1) Try.prog y (Lead.enc x) W1 fun e W' =>
      (e = .returned (.bool true) ∧ J (pre ++ [x]) W' ∧ KpO O W1 W') ∨ (e = .returned (.bool false) ∧ Jx (pre ++ [x]) W'))
    (h0 : J [] W) :
    CallsIn Fence.wide n Try.prog 135 #[.func (.yield y) #[] #[], .pointer (some ⟨pc, 0, none⟩), .pointer (some ⟨pw, 0, none⟩)] W fun e W' => (∃ v, e = .returned v) ∧ ((∃ xs, xs = leadsFrom wl 0 legs ∧ J xs W') ∨ (∃ pre, pre <+: leadsFrom wl 0 legs ∧ Jx pre W')) := by
  have hll := hl.1
  unfold maxLen at hlm
  obtain ⟨z, _⟩ := (Ext.refl W).box hC
  have HC := Lib.hid hC
  have HW := Lib.hid hW
  have Hl := Lib.hid hl
  have HOc := Lib.hid hOc
  have HOw := Lib.hid hOw
  have HOs := Lib.hid hOs
  have HJ := Lib.hid hJ
  have HY := Lib.hid hY
  have Hll := Lib.hid hll
  clear hC hW hl hOc hOw hOs hJ hY hll
  refine callsIn_of_wp Try.func135 rfl trivial ?_ rfl
  simp only [Try.ntmps135, List.size_toArray, List.length_cons, List.length_nil, Nat.reduceAdd, Nat.reduceSub, Array.replicate_succ, Array.replicate_zero, List.push_toArray, List.append_toArray, List.nil_append, List.cons_append]
  gi_wp2
  gi_loopw [10] (fun i wr => ∃ (k : Nat) (pre : List Lead), k ≤ ln ∧ i = .int .i64 k ∧ J pre wr ∧ pre ++ leadsFrom wl k (legs.drop k) = leadsFrom wl 0 legs ∧ KpO O W wr) (fun i _ => ln - (intOf i).toNat)
  case atStart => exact ⟨0, [], Nat.zero_le _, rfl, h0, rfl, KpO.refl _ _⟩
  case round =>
    obtain ⟨k, pre, hk, rfl, hj, hseq, hkp⟩ := hrel
    clear h0 z
    by_cases hlt : k < ln
    · have hltB : decide ((k : Int) < (ln : Int)) = true := by simp; omega
      have hlk := Hl.out.kpO hkp HOs.out
      obtain ⟨lb, lo, x, ka, kn, kc, rfl, hmk, hlb, c0, c1, c2, c3, c4⟩ := hlk.get k hlt
      rw [leads_drop hmk] at hseq
      have hcw := hkp.cells HC.out HOc.out
      have hwl := hkp.cells HW.out HOw.out
      obtain ⟨f1, _⟩ := (Ext.refl wr).box hwl
      have hpw := heap_lt hwl
      obtain ⟨fr, tw, ⟨g0, g1⟩, gs⟩ := x
      simp only at c0 c1 c2 c3 c4 hseq
      by_cases h1 : wl = fr
      · have h1B : (wl == fr) = true := by simpa using h1
        rw [if_pos h1] at hseq
        clear h1
        have hY2 := fun W4 (hx : Ext wr W4) => HY.out pre ⟨k, tw⟩ W4 (HJ.out _ _ _ hj (hx.but _)) (by rw [← hseq]; simp)
        unfold Lead.enc at hY2
        simp only at hY2
        have hxs : (pre ++ [⟨k, tw⟩]) ++ leadsFrom wl (k + 1) (legs.drop (k + 1)) = leadsFrom wl 0 legs := by rw [← hseq]; simp
        have hx1 : Ext wr (wr.alloc (.cells #[.int .i64 fr, .int .i64 tw, .int .i64 g0, .int .i64 g1, .slice ka kn kc] 106)) := (Ext.refl _).alloc _
        have hkp1 := hkp.trans (hx1.kpO O)
        obtain ⟨fn', tmps, assign, body, hy, hR⟩ := hY2 _ hx1
        have HR := Lib.hid hR
        clear hR hY2
        have Hkp1 := Lib.hid hkp1
        have Hseq := Lib.hid hseq
        have Hxs := Lib.hid hxs
        clear hkp1 hseq hxs
        clear hx1 hcw hwl hlk hj hmk
        gi_wp2
        refine ⟨fun h => (by cases h), HR.out.mono ?_⟩
        clear HR hy
        rintro e W3 (⟨rfl, hj3, hk3⟩ | ⟨rfl, hjx3⟩)
        · have hkp3 := Hkp1.out.trans hk3
          have HJ3 := Lib.hid hj3
          clear hj3
          have Hk3 := Lib.hid hk3
          have Hkp3 := Lib.hid hkp3
          clear hk3 hkp3
          clear Hseq c0 c1 c2 c3 c4 f1
          gi_wp2
          go_roundw
          case rel => exact ⟨k + 1, _, by omega, by go_num, HJ3.out, Hxs.out, Hkp3.out⟩
          case measure => simp [intOf]; omega
        · clear Hseq c0 c1 c2 c3 c4 f1
          gi_wp2
          refine bodyPost_ret (results_none rfl _ _ _) rfl ?_
          exact ⟨⟨_, rfl⟩, .inr ⟨_, by rw [← Hxs.out]; exact List.prefix_append _ _, hjx3⟩⟩
      · have h1B : (wl == fr) = false := by simpa using h1
        rw [if_neg h1] at hseq
        clear h1
        by_cases h2 : wl = tw
        · have h2B : (wl == tw) = true := by simpa using h2
          rw [if_pos h2] at hseq
          clear h2
          have hY2 := fun W4 (hx : Ext wr W4) => HY.out pre ⟨k, fr⟩ W4 (HJ.out _ _ _ hj (hx.but _)) (by rw [← hseq]; simp)
          unfold Lead.enc at hY2
          simp only at hY2
          have hxs : (pre ++ [⟨k, fr⟩]) ++ leadsFrom wl (k + 1) (legs.drop (k + 1)) = leadsFrom wl 0 legs := by rw [← hseq]; simp
          have hx1 : Ext wr (wr.alloc (.cells #[.int .i64 fr, .int .i64 tw, .int .i64 g0, .int .i64 g1, .slice ka kn kc] 106)) := (Ext.refl _).alloc _
          have hkp1 := hkp.trans (hx1.kpO O)
          obtain ⟨fn', tmps, assign, body, hy, hR⟩ := hY2 _ hx1
          have HR := Lib.hid hR
          clear hR hY2
          have Hkp1 := Lib.hid hkp1
          have Hseq := Lib.hid hseq
          have Hxs := Lib.hid hxs
          clear hkp1 hseq hxs
          clear hx1 hcw hwl hlk hj hmk
          gi_wp2
          refine ⟨fun h => (by cases h), HR.out.mono ?_⟩
          clear HR hy
          rintro e W3 (⟨rfl, hj3, hk3⟩ | ⟨rfl, hjx3⟩)
          · have hkp3 := Hkp1.out.trans hk3
            have HJ3 := Lib.hid hj3
            clear hj3
            have Hk3 := Lib.hid hk3
            have Hkp3 := Lib.hid hkp3
            clear hk3 hkp3
            clear Hseq c0 c1 c2 c3 c4 f1
            gi_wp2
            go_roundw
            case rel => exact ⟨k + 1, _, by omega, by go_num, HJ3.out, Hxs.out, Hkp3.out⟩
            case measure => simp [intOf]; omega
          · clear Hseq c0 c1 c2 c3 c4 f1
            gi_wp2
            refine bodyPost_ret (results_none rfl _ _ _) rfl ?_
            exact ⟨⟨_, rfl⟩, .inr ⟨_, by rw [← Hxs.out]; exact List.prefix_append _ _, hjx3⟩⟩
        · have h2B : (wl == tw) = false := by simpa using h2
          rw [if_neg h2] at hseq
          clear h2
          have hkp1 := hkp.trans (((Ext.refl wr).alloc (.cells #[.int .i64 fr, .int .i64 tw, .int .i64 g0, .int .i64 g1, .slice ka kn kc] 106)).kpO O)
          have hj1 := HJ.out _ _ _ hj (((Ext.refl wr).alloc (.cells #[.int .i64 fr, .int .i64 tw, .int .i64 g0, .int .i64 g1, .slice ka kn kc] 106)).but _)
          have Hkp1 := Lib.hid hkp1
          have Hj1 := Lib.hid hj1
          have Hseq := Lib.hid hseq
          clear hkp1 hj1 hseq
          clear hcw hwl hlk hj hmk hkp
          gi_wp2
          go_roundw
          case rel => exact ⟨k + 1, _, by omega, by go_num, Hj1.out, Hseq.out, Hkp1.out⟩
          case measure => simp [intOf]; omega
    · have hltB : decide ((k : Int) < (ln : Int)) = false := by simp; omega
      obtain rfl : k = ln := by omega
      have hall : pre = leadsFrom wl 0 legs := by
        rw [List.drop_of_length_le (by have := Hll.out; omega)] at hseq
        simpa [leadsFrom] using hseq
      have Hall := Lib.hid hall
      have Hj := Lib.hid hj
      clear hall hj
      clear hseq hkp
      gi_wp2
      go_end0
      exact ⟨⟨_, rfl⟩, .inl ⟨_, Hall.out, Hj.out⟩⟩
theorem leads_stops (n : Nat) (pc pw : Nat) (wa : Option Addr) (wn wc : Nat) (la : Option Addr) (ln lc : Nat) (p0 p1 : Int) (legs : List Leg) (wl : Int) (O : Nat → Prop) (w : World) (hC : w.heap[pc]? = some (.cells #[.slice wa wn wc, .slice la ln lc, .int .i64 p0, .int .i64 p1] 108 (0, 0))) (hW : w.heap[pw]? = some (.cells #[.int .i64 wl] 3 (0, 0)))
    (hl : LegCells w la ln legs) (hln : ln ≤ 1000000000) (hlc : ln ≤ lc) (hlm : lc ≤ maxLen) (hOc : ¬O pc) (hOw : ¬O pw) (hOs : ∀ x, la = some x → ¬O x.block) :
    SeqStopsB Fence.wide n Try.prog 135 #[.pointer (some ⟨pc, 0, none⟩), .pointer (some ⟨pw, 0, none⟩)] Lead.enc (KpO O) (fun xs => xs = leadsFrom wl 0 legs) (fun pre => pre <+: leadsFrom wl 0 legs) (leadsFrom wl 0 legs).length (fun _ => False) w := fun y J Jx W hE hJ _ hY h0 =>
  leads1_any n y pc pw wa wn wc la ln lc p0 p1 legs wl O W (hE.heap hC) (hE.heap hW) (hl.ext hE) hln hlc hlm hOc hOw hOs J Jx hJ hY h0
end Go.Proofs.Ytcoelhpmkhimpaa
