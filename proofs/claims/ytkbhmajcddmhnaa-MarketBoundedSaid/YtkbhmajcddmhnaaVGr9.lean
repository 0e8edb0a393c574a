/- market.Best's own: what it keeps while the iterator runs, and how a round of its loop is met. -/
import Derived.Test.YtkbhmajcddmhnaaVItS
import Derived.Test.YtkbhmajcddmhnaaVGr8
import Derived.Test.YtkbhmajcddmhnaaVRefBest
import Derived.Test.YtkbhmajcddmhnaaVGr1
import Derived.RangeFuncNested
import Derived.OrdersIn
namespace Go.Proofs.Ytkbhmajcddmhnaa
open Go.RowKit
set_option linter.unusedVariables false
set_option linter.unusedSimpArgs false

/-- the best chain so far: in a block that is not the iterator's -/
def FoundIn (O : CellSet) (W : World) (B D l' : Nat) (v : Value) (s : Found) : Prop :=
  match s with
  | none => v = .slice none 0 0
  | some x => ∃ b o c, v = .slice (some ⟨b, o, none⟩) x.1.length c ∧ IntsAt .i64 W (some ⟨b, o, none⟩) x.1.length x.1 ∧ (∀ j, ¬O b j) ∧ B ≤ b ∧ b ≠ D ∧ b ≠ l' ∧ b < W.heap.size
structure BestJ (w1 : World) (rc bb D l' : Nat) (want : Int) (O : CellSet) (s : Found) (W : World) : Prop where
  os : W.os = w1.os
  tape : W.tape = w1.tape
  output : W.output = w1.output
  size : w1.heap.size ≤ W.heap.size
  keep : ∀ b o, b ≠ rc → b ≠ bb → w1.heap[b]? = some o → W.heap[b]? = some o
  res : ∃ v, W.heap[rc]? = some (.cells #[v] 24 (0, 0)) ∧ FoundIn O W w1.heap.size D l' v s
  best : W.heap[bb]? = some (.cells #[.int .i64 want, .int .i64 s.most] 120 (0, 0))
  dfr : W.heap[D]? = some (.deferred (some []))
  own : ∀ b j, O b j → w1.heap.size ≤ b ∧ b ≠ D ∧ b ≠ l'
  fit : Fit O W
  lt : l' < W.heap.size
  rc1 : rc < w1.heap.size
  bb1 : bb < w1.heap.size
  ne : rc ≠ bb
  D1 : w1.heap.size ≤ D
  l1 : w1.heap.size ≤ l'
  ne2 : D ≠ l'
section
variable {w w0 w1 W W' : World} {rc bb D l' : Nat} {want : Int} {O O' : CellSet} {s : Found}
theorem BestJ.stable (h : BestJ w1 rc bb D l' want O s W) (k : Priv O W W') (g : Grew O O' W W') : BestJ w1 rc bb D l' want O' s W' := by
  have low : ∀ b, b < w1.heap.size → ∀ j, ¬O b j := fun b hb j e => by have := (h.own b j e).1; omega
  have hDlt := heap_lt h.dfr
  refine ⟨k.os.trans h.os, k.tape.trans h.tape, k.output.trans h.output, Nat.le_trans h.size k.size, fun b o h1 h2 hb => k.block (h.keep b o h1 h2 hb) (low b (heap_lt hb)), ?_, k.block h.best (low bb h.bb1), k.block h.dfr fun j e => (h.own _ j e).2.1 rfl, fun b j e => ?_, fun b j e => ?_, Nat.lt_of_lt_of_le h.lt k.size, h.rc1, h.bb1, h.ne, h.D1, h.l1, h.ne2⟩
  · obtain ⟨v, h1, h2⟩ := h.res
    refine ⟨v, k.block h1 (low rc h.rc1), ?_⟩
    cases s with
    | none => exact h2
    | some x =>
      obtain ⟨b, o, c, rfl, hi, hO, h3, h4, h5, h6⟩ := h2
      refine ⟨b, o, c, rfl, IntsAt.cells hi fun b' off e i hi u hu => ?_, fun j e => ?_, h3, h4, h5, Nat.lt_of_lt_of_le h6 k.size⟩
      · cases e
        exact k.cell hu (hO _)
      · rcases g.2 b j e with e | e
        · exact hO j e
        · omega
  · rcases g.2 b j e with e | e
    · exact h.own b j e
    · have := h.size; have := h.lt; omega
  · rcases g.2 b j e with e | e
    · exact Nat.lt_of_lt_of_le (h.fit b j e) k.size
    · exact e.2
theorem BestJ.put (h : BestJ w1 rc bb D l' want O s W) (o : Obj) : BestJ w1 rc bb D l' want O s (W.putObj l' o) := by
  have st : ∀ b ob, b ≠ l' → W.heap[b]? = some ob → (W.putObj l' o).heap[b]? = some ob := fun b ob hb hob => (World.putObj_heap_other hb).trans hob
  have := h.rc1
  have := h.bb1
  have := h.l1
  refine ⟨h.os, h.tape, h.output, by rw [World.putObj_size]; exact h.size, fun b ob h1 h2 hb => st b ob (by have := heap_lt hb; omega) (h.keep b ob h1 h2 hb), ?_, st _ _ (by omega) h.best, st _ _ h.ne2 h.dfr, h.own, fun b j e => by rw [World.putObj_size]; exact h.fit b j e, by rw [World.putObj_size]; exact h.lt, h.rc1, h.bb1, h.ne, h.D1, h.l1, h.ne2⟩
  obtain ⟨v, h1, h2⟩ := h.res
  refine ⟨v, st _ _ (by omega) h1, ?_⟩
  cases s with
  | none => exact h2
  | some x =>
    obtain ⟨b, o', c, rfl, hi, hO, h3, h4, h5, h6⟩ := h2
    refine ⟨b, o', c, rfl, IntsAt.cells hi fun b' off e i hi u hu => ?_, hO, h3, h4, h5, by rw [World.putObj_size]; exact h6⟩
    cases e
    exact (World.cell?_of_block (World.putObj_heap_other (by simpa using h5))).trans hu
theorem BestJ.toExt (h : BestJ w1 rc bb D l' want O s W) (hx : Ext w w1) (hrc : w.heap.size ≤ rc) (hbb : w.heap.size ≤ bb) : Ext w W :=
  ⟨h.os.trans hx.os, h.tape.trans hx.tape, h.output.trans hx.output, Nat.le_trans hx.size h.size, fun k hk => by
    obtain ⟨o, ho⟩ : ∃ o, w.heap[k]? = some o := ⟨_, Array.getElem?_eq_getElem hk⟩
    rw [ho]
    exact h.keep k o (by omega) (by omega) (hx.heap ho)⟩
theorem BestJ.market {B mp : Nat} {a : Option Addr} {n cap : Nat} {l : List Offer} (h : BestJ w1 rc bb D l' want O s W) (hx : Ext w0 w1) (hm : MarketAt B w0 mp a n cap l) (hl : OffersAt w0 a n l) (hrc : rc < B) (hbb : w0.heap.size ≤ bb) : MarketAt B W mp a n cap l := by
  by_cases hr0 : rc < w0.heap.size
  · obtain ⟨o, ho⟩ : ∃ o, w0.heap[rc]? = some o := ⟨_, Array.getElem?_eq_getElem hr0⟩
    have hrl : rc < W.heap.size := Nat.lt_of_lt_of_le h.rc1 h.size
    have e : Ext w0 (W.putObj rc o) := ⟨h.os.trans hx.os, h.tape.trans hx.tape, h.output.trans hx.output, by rw [World.putObj_size]; exact Nat.le_trans hx.size h.size, fun k hk => by
      by_cases e : k = rc
      · subst e
        rw [World.putObj_heap_same hrl, ho]
      · rw [World.putObj_heap_other e]
        obtain ⟨o', ho'⟩ : ∃ o', w0.heap[k]? = some o' := ⟨_, Array.getElem?_eq_getElem hk⟩
        rw [ho']
        exact h.keep k o' e (by omega) (hx.heap ho')⟩
    exact (hm.ext e).same fun b hb => (World.putObj_heap_other (show b ≠ rc by omega)).symm
  · exact hm.ext (h.toExt hx (by omega) hbb)
/-- a better one -/
theorem BestJ.better (h : BestJ w1 rc bb D l' want O s W) {x : List Int × Hand} {Wc : World} {b o c : Nat} (hx : Ext W Wc) (hb : W.heap.size ≤ b) (hb2 : b < Wc.heap.size) (hi : IntsAt .i64 Wc (some ⟨b, o, none⟩) x.1.length x.1) (hg : x.2.good = want) :
    BestJ w1 rc bb D l' want O (some (x.1, x.2.units)) ((((Wc.setCell ⟨rc, 0, none⟩ (.slice (some ⟨b, o, none⟩) x.1.length c)).setCell ⟨bb, 0, none⟩ (.int .i64 x.2.good)).setCell ⟨bb, 1, none⟩ (.int .i64 x.2.units))) := by
  have hc := h.stable (Priv.ext hx) (Grew.same O W Wc)
  obtain ⟨v, r1, _⟩ := hc.res
  have hD := heap_lt h.dfr
  have hs := h.size
  have hlt := h.lt
  have := h.rc1
  have := h.bb1
  have := h.D1
  have := h.l1
  have hne := h.ne
  have st : ∀ k, k ≠ rc → k ≠ bb → ((((Wc.setCell ⟨rc, 0, none⟩ (.slice (some ⟨b, o, none⟩) x.1.length c)).setCell ⟨bb, 0, none⟩ (.int .i64 x.2.good)).setCell ⟨bb, 1, none⟩ (.int .i64 x.2.units))).heap[k]? = Wc.heap[k]? := fun k h1 h2 => by
    rw [heap_setCell_other _ _ _ _ (by simpa using h2), heap_setCell_other _ _ _ _ (by simpa using h2), heap_setCell_other _ _ _ _ (by simpa using h1)]
  have hsz : ((((Wc.setCell ⟨rc, 0, none⟩ (.slice (some ⟨b, o, none⟩) x.1.length c)).setCell ⟨bb, 0, none⟩ (.int .i64 x.2.good)).setCell ⟨bb, 1, none⟩ (.int .i64 x.2.units))).heap.size = Wc.heap.size := by simp [World.setCell]
  refine ⟨hc.os, hc.tape, hc.output, by rw [hsz]; exact hc.size, fun k ob h1 h2 hk => (st k h1 h2).trans (hc.keep k ob h1 h2 hk), ⟨_, ?_, b, o, c, rfl, ?_, fun j e => ?_, by omega, by omega, by omega, by rw [hsz]; exact hb2⟩, ?_, (st D (by omega) (by omega)).trans hc.dfr, h.own, fun k j e => by rw [hsz]; exact hc.fit k j e, by rw [hsz]; exact hc.lt, h.rc1, h.bb1, h.ne, h.D1, h.l1, h.ne2⟩
  · rw [heap_setCell_other _ _ _ _ (by simpa using hne), heap_setCell_other _ _ _ _ (by simpa using hne), heap_setCell_box, r1]
    rfl
  · refine IntsAt.cells hi fun b' off e i hi' u hu => ?_
    cases e
    exact (World.cell?_of_block (a := ⟨b, o + i, none⟩) (st b (by omega) (by omega))).trans hu
  · have := h.fit b j e
    omega
  · rw [← hg]
    have hb' := hc.best
    have e1 : (Wc.setCell ⟨rc, 0, none⟩ (.slice (some ⟨b, o, none⟩) x.1.length c)).heap[bb]? = some (.cells #[.int .i64 want, .int .i64 s.most] 120 (0, 0)) := by
      rw [heap_setCell_other _ _ _ _ (by simpa using Ne.symm hne)]; exact hb'
    exact set_pair e1
end
/-- a consumer of its own, out of the walk of its round -/
theorem takes_leaf {σ : Type} {nn l' D : Nat} {J0 : CellSet → σ → World → Prop} {add : σ → List Int × Hand → σ} {fn : FuncId} {tmps : Array Value} {ps : Array Tmp} {assign body : Code} (hps : ps.size = 2)
    (hst : ∀ O O' s W W', J0 O s W → Priv O W W' → Grew O O' W W' → J0 O' s W') (hno : ∀ O s W, J0 O s W → ∀ j, ¬O l' j) (hput : ∀ O s W o, J0 O s W → J0 O s (W.putObj l' o))
    (hwalk : ∀ O s (x : List Int × Hand) (a : Option Addr) (c : Nat) (W W1 : World), (W.alloc (.cells #[.int .i64 x.2.good, .int .i64 x.2.units] 120)).putObj l' (.loop (recOf fn tmps ps assign body D .busy none)) = W1 → W1.heap[l']? = some (.loop (recOf fn tmps ps assign body D .busy none)) → J0 O s W1 → x.1.length = nn →
      W1.heap[W.heap.size]? = some (.cells #[.int .i64 x.2.good, .int .i64 x.2.units] 120 (0, 0)) → IntsAt .i64 W1 a x.1.length x.1 → x.1.length ≤ c → c ≤ maxLen →
      assign.wpIn (Fence.wide.inRound l') 0 Try.prog (Exit.then (fun a₁ w₁ => w₁ = W.alloc (.cells #[.int .i64 x.2.good, .int .i64 x.2.units] 120) ∧
        body.wpIn (Fence.wide.inRound l') 0 Try.prog (fun e _ W' => e = .normal ∧ J0 O (add s x) W' ∧ W'.heap[l']? = some (.loop (recOf fn tmps ps assign body D .busy none)) ∧ Kept O W1 W') a₁ (w₁.putObj l' (.loop (recOf fn tmps ps assign body D .busy none)))) (fun _ _ _ => False))
        { tmps := (ps.zip #[.slice a x.1.length c, handVal x.2]).foldl (fun tmps (t, v) => tmps.setIfInBounds t v) tmps, defers := [] } W) :
    Takes nn l' (fun O s W => J0 O s W ∧ W.heap[l']? = some (.loop (recOf fn tmps ps assign body D .ready none))) add := by
  refine ⟨fun O O' s W W' hj k g => ⟨hst O O' s W W' hj.1 k g, k.block hj.2 (hno O s W hj.1)⟩, fun O s W x a c hj hN hx h1 h2 => ?_⟩
  obtain ⟨hj, hr⟩ := hj
  have hy := run_yield (P := Try.prog) (args := #[.slice a x.1.length c, handVal x.2]) hr (by simp [recOf, hps])
  refine ⟨_, _, _, _, hy, roundIn_of_wpIn trivial ?_⟩
  have hx1 : Ext W (W.alloc (.cells #[.int .i64 x.2.good, .int .i64 x.2.units] 120)) := (Ext.refl W).alloc _
  have hnew := heap_alloc_new W (.cells #[.int .i64 x.2.good, .int .i64 x.2.units] 120)
  have hr1 := hx1.heap hr
  have hlr := heap_lt hr
  have hj1 := hput O s _ (.loop (recOf fn tmps ps assign body D .busy none)) (hst O O s W _ hj (Priv.ext hx1) (Grew.same _ _ _))
  have hb1 : ((W.alloc (.cells #[.int .i64 x.2.good, .int .i64 x.2.units] 120)).putObj l' (.loop (recOf fn tmps ps assign body D .busy none))).heap[l']? = _ := World.putObj_heap_same (heap_lt hr1)
  have hxi : IntsAt .i64 ((W.alloc (.cells #[.int .i64 x.2.good, .int .i64 x.2.units] 120)).putObj l' (.loop (recOf fn tmps ps assign body D .busy none))) a x.1.length x.1 :=
    IntsAt.cells (hx.ext hx1) fun b off _ i hi v hv => by
      refine (World.cell?_of_block (World.putObj_heap_other fun e => ?_)).trans hv
      obtain ⟨o, ho, hoc⟩ := cells_of_cell hv
      simp only at ho e
      rw [e, hr1] at ho
      cases ho
      cases hoc
  have hwk := hwalk O s x a c W _ rfl hb1 hj1 hN ((World.putObj_heap_other (by omega)).trans hnew) hxi h1 h2
  refine wpIn_mono hwk ?_
  rintro e a1 w1 he
  cases e with
  | normal =>
    obtain ⟨rfl, he⟩ := he
    refine ⟨_, run_beginRound hr1 rfl, wpIn_mono he ?_⟩
    rintro e a3 W3 ⟨rfl, k1, k2, k3⟩
    refine ⟨_, _, run_endRound none k2, rfl, ⟨hput O _ _ _ k1, World.putObj_heap_same (heap_lt k2)⟩, ?_⟩
    refine ⟨by rw [World.putObj_size]; exact Nat.le_trans (by rw [World.putObj_size]; exact hx1.size) k3.1, fun b o hb ho => ?_⟩
    have hbl : b ≠ l' := fun e => by
      obtain ⟨j, hj'⟩ := hb
      subst e
      exact hno O s W hj j hj'
    exact (World.putObj_heap_other hbl).trans (k3.2 b o hb ((World.putObj_heap_other hbl).trans (hx1.heap ho)))
  | _ => exact he.elim
end Go.Proofs.Ytkbhmajcddmhnaa

/- A region that draws its order, in a round of a range over a function. -/
namespace Go.Proofs.Ytkbhmajcddmhnaa
open Go.RowKit
set_option linter.unusedVariables false

section
variable {P : Program} {ops : Array Oper} {Q : Exit → Act → World → Prop} {l : Nat}
def noDefer (o : Oper) : Bool := match o.op with | .defer _ => false | _ => true
theorem noDefer_ne {o : Oper} (h : noDefer o = true) : ∀ c, o.op ≠ .defer c := by
  intro c e
  unfold noDefer at h
  rw [e] at h
  cases h
theorem wpIn_of_wp {o : Oper} (hd : noDefer o = true) {K : Act → World → Prop} {a : Act} {w : World} (h : o.wp P a w K Q) : o.wpIn (Fence.wide.inRound l) 0 P a w K Q := by
  refine ⟨fun _ _ => trivial, ?_⟩
  rw [Oper.semAt_eq _ _ _ (noDefer_ne hd)]
  unfold Oper.wp at h
  generalize (execOp a.eval o).run P w = r at *
  cases r with
  | ok x w' =>
    cases x <;> simp only [Oper.upon, Oper.uponIn] at h ⊢ <;>
      first
        | exact h
        | exact ⟨(fun e => by cases e), (callsIn_wide (n := 0)).2 h⟩
        | exact ⟨(fun e => by cases e), fun c cs _ => let ⟨v, w', r, s⟩ := h c cs; ⟨v, w', r, stepsIn_wide.2 s⟩⟩
  | halt x w' => cases x <;> simp only [Oper.upon, Oper.uponIn] at h ⊢ <;> exact h
theorem wpAnyIn_of_wpAny (hd : ops.all noDefer = true) (hQ : ¬LetsOut Q) : ∀ (fuel : Nat) (listed : Array Bool) (a : Act) (w : World), wpAny P .any ops Q fuel listed a w → wpAnyIn (Fence.wide.inRound l) 0 P .any ops Q fuel listed a w
  | 0, _, _, _, h => h
  | fuel + 1, listed, a, w, h => ⟨h.1, fun i hi => by
      have h2 := h.2 i hi
      unfold wpOp at h2
      unfold wpOpIn
      cases ho : ops[i]? with
      | none => rw [ho] at h2; exact wpAnyIn_of_wpAny hd hQ fuel _ a w h2
      | some o =>
        rw [ho] at h2
        simp only at h2 ⊢
        have hdo : noDefer o = true := by
          obtain ⟨hi', rfl⟩ := Array.getElem?_eq_some_iff.1 ho
          exact Array.all_eq_true.1 hd i hi'
        split
        · rename_i hw
          rw [if_pos hw] at h2
          exact wpIn_of_wp hdo (Go.Oper.wp_mono (fun a' w' h' => wpAnyIn_of_wpAny hd hQ fuel _ a' w' h') (h2.resolve_right fun e => hQ e.2))
        · rename_i hw
          rw [if_neg hw] at h2
          exact ⟨fun _ _ => trivial, wpAnyIn_of_wpAny hd hQ fuel _ _ w h2⟩⟩
/-- the theorem of Tree, in a round -/
theorem wpIn_region_tree {id : Nat} {l0 : List Oper} {a : Act} {w : World} (t : TT) (S : World → Prop) (ot : OT) (hm : P.follows .mixedOrders = true)
    (hB : (treeB l0.toArray t (Array.replicate l0.toArray.size false) && decide (t.len = l0.toArray.size) && Region.noSelect l0.toArray && l0.toArray.all noDefer) = true)
    (h2 : treeOf l0.toArray t = ot) (hS : S w.drew)
    (h : ∀ (ι : Type) [Inhabited ι] (f : ι → World), (∀ p, S (f p)) → (∀ W, S W → ∃ p, W = f p) → wpOT P l0.toArray (fun W => ∃ p, W = f p) Q ot a w.drew) : (Code.region id l0.toArray true).wpIn (Fence.wide.inRound l) 0 P Q a w := by
  simp only [Bool.and_eq_true, decide_eq_true_eq] at hB
  obtain ⟨⟨⟨hB, hlen⟩, hsel⟩, hdf⟩ := hB
  have hC : (fun W => ∃ p : {W : World // S W}, W = p.1) = S := by
    funext W
    exact propext ⟨fun ⟨p, hp⟩ => hp ▸ p.2, fun hW => ⟨⟨W, hW⟩, rfl⟩⟩
  have h' := @h {W : World // S W} ⟨⟨_, hS⟩⟩ (fun p => p.1) (fun p => p.2) (fun W hW => ⟨⟨W, hW⟩, rfl⟩)
  rw [hC, ← h2] at h'
  have key := tree_sound (Q := Q) hsel t _ a w.drew hS hB h'
  rw [hlen] at key
  have key2 := wpAnyIn_of_wpAny (l := l) hdf (fun ⟨_, _, e⟩ => e) _ _ _ _ (wpAny_of_held _ _ _ _ key)
  exact wpIn_mono (wpIn_region_any (Q := normalOnly Q) hm key2) fun e a w hq => by cases e <;> first | exact hq | exact hq.elim
end
end Go.Proofs.Ytkbhmajcddmhnaa

/- Contract: market.Best. -/
namespace Go.Proofs.Ytkbhmajcddmhnaa
open Go.RowKit
set_option linter.unusedVariables false
set_option linter.unusedSimpArgs false

theorem range_best {a : Option Addr} {n cap : Nat} {l : List Offer} {mp : Nat} {fa : Option Addr} {fn fc : Nat} {fs : List Fair} (ho : offersOk l = true) (ht : tripOk fs = true) (hfn : fn ≤ 5) {w wt w1 w7 : World} {rc bb B : Nat} {want : Int} {h : Hand}
    (hl : OffersAt w a n l) (hf : FairsAt w fa fn fs) (hxw : Ext w wt) (hm : MarketAt B wt mp a n cap l) (hxt : Ext wt w1) (hrc : w.heap.size ≤ rc) (hrcB : rc < B) (hbbt : wt.heap.size ≤ bb)
    (hrc1 : w1.heap[rc]? = some (.cells #[.slice none 0 0] 24 (0, 0))) (hbb1 : w1.heap[bb]? = some (.cells #[.int .i64 want, .int .i64 (-1)] 120 (0, 0))) (hne : rc ≠ bb)
    (hx7 : Ext w1 w7) (hs7 : w7.heap.size = w1.heap.size + 4)
    (m0 : w7.heap[w1.heap.size]? = some (.cells #[.pointer (some ⟨mp, 0, none⟩), .slice fa fn fc] 103 (0, 0))) (m1 : w7.heap[w1.heap.size + 1]? = some (.cells #[.int .i64 (0 : Nat)] 3 (0, 0)))
    (m2 : w7.heap[w1.heap.size + 2]? = some (.cells #[.int .i64 h.good, .int .i64 h.units] 120 (0, 0))) (m3 : w7.heap[w1.heap.size + 3]? = some (.cells #[.slice none 0 0] 24 (0, 0)))
    (hh : HandOk 0 h) {g : Operand} {ps : Array Tmp} {assign body : Code} {Q : Exit → Act → World → Prop} {A : Act}
    (hg : A.eval g = .func (.func 82) #[] #[.pointer (some ⟨w1.heap.size + 1, 0, none⟩), .pointer (some ⟨w1.heap.size, 0, none⟩), .pointer (some ⟨w1.heap.size + 3, 0, none⟩), .pointer (some ⟨w1.heap.size + 2, 0, none⟩)]) (hps : ps.size = 2)
    (hwalk : ∀ f O s (x : List Int × Hand) (a : Option Addr) (c : Nat) (W W1 : World), (W.alloc (.cells #[.int .i64 x.2.good, .int .i64 x.2.units] 120)).putObj (w7.heap.size + 1) (.loop (recOf f A.tmps ps assign body w7.heap.size .busy none)) = W1 → W1.heap[w7.heap.size + 1]? = some (.loop (recOf f A.tmps ps assign body w7.heap.size .busy none)) → BestJ w1 rc bb w7.heap.size (w7.heap.size + 1) want O s W1 → x.1.length = fn →
      W1.heap[W.heap.size]? = some (.cells #[.int .i64 x.2.good, .int .i64 x.2.units] 120 (0, 0)) → IntsAt .i64 W1 a x.1.length x.1 → x.1.length ≤ c → c ≤ maxLen →
      assign.wpIn (Fence.wide.inRound (w7.heap.size + 1)) 0 Try.prog (Exit.then (fun a₁ w₁ => w₁ = W.alloc (.cells #[.int .i64 x.2.good, .int .i64 x.2.units] 120) ∧
        body.wpIn (Fence.wide.inRound (w7.heap.size + 1)) 0 Try.prog (fun e _ W' => e = .normal ∧ BestJ w1 rc bb w7.heap.size (w7.heap.size + 1) want O (addBest want s x) W' ∧ W'.heap[w7.heap.size + 1]? = some (.loop (recOf f A.tmps ps assign body w7.heap.size .busy none)) ∧ Kept O W1 W') a₁ (w₁.putObj (w7.heap.size + 1) (.loop (recOf f A.tmps ps assign body w7.heap.size .busy none)))) (fun _ _ _ => False))
        { tmps := (ps.zip #[.slice a x.1.length c, handVal x.2]).foldl (fun tmps (t, v) => tmps.setIfInBounds t v) A.tmps, defers := [] } W)
    (hcont : ∀ O3 W5, BestJ w1 rc bb w7.heap.size (w7.heap.size + 1) want O3 (bestTo l fs h want ((l.length + 1) ^ fn)) W5 → Q .normal { A with defers := { target := .collected w7.heap.size, args := #[] } :: A.defers } W5) :
    (Code.rangeFunc g ps assign body).wp Try.prog Q A w7 := by
  have hfl := hf.1
  refine wp_range hg (enters_of Try.func82 (by kernel_rfl) rfl) fun f => ?_
  have hT := takes_leaf (nn := fn) (J0 := BestJ w1 rc bb w7.heap.size (w7.heap.size + 1) want) (add := addBest want) (tmps := A.tmps) hps (fun O O' s W W' h k g => h.stable k g) (fun O s W h j e => (h.own _ j e).2.2 rfl) (fun O s W o h => h.put o) (hwalk f)
  obtain ⟨W4, hW4⟩ : ∃ W4, W4 = (w7.alloc (.deferred (some []))).alloc (.loop (recOf f A.tmps ps assign body w7.heap.size .ready none)) := ⟨_, rfl⟩
  rw [← hW4]
  have hs4 : W4.heap.size = w7.heap.size + 2 := by rw [hW4]; simp
  have hx4 : Ext w7 W4 := by rw [hW4]; exact ((Ext.refl _).alloc _).alloc _
  have hD : W4.heap[w7.heap.size]? = some (.deferred (some [])) := by rw [hW4]; exact ((Ext.refl (w7.alloc _)).alloc _).heap (heap_alloc_new w7 _)
  have hl4 : W4.heap[w7.heap.size + 1]? = some (.loop (recOf f A.tmps ps assign body w7.heap.size .ready none)) := by
    rw [hW4]; have := heap_alloc_new (w7.alloc (.deferred (some []))) (.loop (recOf f A.tmps ps assign body w7.heap.size .ready none)); simpa using this
  clear hW4
  have hx14 := hx7.trans hx4
  have l1 := heap_lt hrc1
  have l2 := heap_lt hbb1
  have hj : BestJ w1 rc bb w7.heap.size (w7.heap.size + 1) want (fun b j => w1.heap.size ≤ b ∧ b < w1.heap.size + 4) none W4 :=
    ⟨hx14.os, hx14.tape, hx14.output, hx14.size, fun b o _ _ hb => hx14.heap hb, ⟨_, hx14.heap hrc1, rfl⟩, hx14.heap hbb1, hD, fun b j e => ⟨e.1, by omega, by omega⟩, fun b j e => by have := e.2; omega, by omega, l1, l2, hne, by omega, by omega, by omega⟩
  have hcall := chains_all (addBest want) a n cap l mp fa fn fc fs ho ht hfn fn 0 (by omega) hT (fun O s W e => by
      have hE := e.1.toExt (hxw.trans hxt) hrc (Nat.le_trans hxw.size hbbt)
      exact ⟨hl.ext hE, hf.ext hE, (e.1.market hxt hm (hl.ext hxw) hrcB hbbt).mono (Nat.zero_le _)⟩)
    _ none W4 h [] (.slice none 0 0) (w1.heap.size + 1) w1.heap.size (w1.heap.size + 3) (w1.heap.size + 2) ⟨hj, hl4⟩ hh (.inl ⟨rfl, rfl⟩) (fun g hg => by cases hg) rfl
    ⟨hx4.heap m1, hx4.heap m0, hx4.heap m3, hx4.heap m2, fun j => ⟨by omega, by omega⟩, fun j => ⟨by omega, by omega⟩, fun j => ⟨by omega, by omega⟩, fun j => ⟨by omega, by omega⟩, (fun e => by cases e), (fun e => by cases e), (fun e => by cases e), (fun e => by cases e)⟩ hj.fit
  rw [← hfl, enum_best, hfl] at hcall
  refine Calls.mono hcall ?_
  rintro e W3 ⟨⟨r, rfl⟩, O', _, _, hj3, hl3⟩
  exact ⟨⟨_, rfl⟩, hl3, hcont O' _ (hj3.put _)⟩
theorem better_rest {w1 W Wc : World} {rc bb D l' : Nat} {want : Int} {O : CellSet} {s : Found} (h : BestJ w1 rc bb D l' want O s W) (hx : Ext W Wc) (x y z : Value) :
    (∀ o, W.heap[l']? = some o → (((Wc.setCell ⟨rc, 0, none⟩ x).setCell ⟨bb, 0, none⟩ y).setCell ⟨bb, 1, none⟩ z).heap[l']? = some o) ∧ Kept O W (((Wc.setCell ⟨rc, 0, none⟩ x).setCell ⟨bb, 0, none⟩ y).setCell ⟨bb, 1, none⟩ z) := by
  have := h.rc1
  have := h.bb1
  have := h.l1
  have st : ∀ k, k ≠ rc → k ≠ bb → (((Wc.setCell ⟨rc, 0, none⟩ x).setCell ⟨bb, 0, none⟩ y).setCell ⟨bb, 1, none⟩ z).heap[k]? = Wc.heap[k]? := fun k h1 h2 => by
    rw [heap_setCell_other _ _ _ _ (by simpa using h2), heap_setCell_other _ _ _ _ (by simpa using h2), heap_setCell_other _ _ _ _ (by simpa using h1)]
  refine ⟨fun o ho => (st _ (by omega) (by omega)).trans (hx.heap ho), ?_, fun b o ⟨j, hj⟩ hb => ?_⟩
  · have : (((Wc.setCell ⟨rc, 0, none⟩ x).setCell ⟨bb, 0, none⟩ y).setCell ⟨bb, 1, none⟩ z).heap.size = Wc.heap.size := by simp [World.setCell]
    rw [this]; exact hx.size
  · have := (h.own b j hj).1
    exact (st _ (by omega) (by omega)).trans (hx.heap hb)
theorem Ext.putObj {a b : World} (h : Ext a b) {D : Nat} (hD : a.heap.size ≤ D) (o : Obj) : Ext a (b.putObj D o) :=
  ⟨h.os, h.tape, h.output, by rw [World.putObj_size]; exact h.size, fun k hk => (World.putObj_heap_other (by omega)).trans (h.block k hk)⟩
theorem travel_bad (a : Option Addr) (n cap : Nat) (l : List Offer) (fa : Option Addr) (fn fc : Nat) (fs : List Fair) (w : World) (hl : OffersAt w a n l) (hf : FairsAt w fa fn fs) (hn : n ≤ 1000000) (hfn : fn ≤ 1000000) (hc : checkOf l fs ≠ 0) :
    Calls Try.prog 46 #[.slice a n cap, .slice fa fn fc] w fun e w' => e = .returned (.tuple #[.agg #[.pointer none, .slice none 0 0], .int .i64 (checkOf l fs)]) ∧ Ext w w' := by
  cases ho : offersOk l with
  | false => rw [show checkOf l fs = 60 by simp [checkOf, ho]]; exact travel_offers a n cap l _ w hl hn ho
  | true =>
    have ht : tripOk fs = false := by cases ht : tripOk fs with | false => rfl | true => simp [checkOf, ho, ht] at hc
    rw [show checkOf l fs = 61 by simp [checkOf, ho, ht]]
    exact travel_trip a n cap l fa fn fc fs w hl hf hfn ho ht
theorem best_boxes (w : World) (x : Int) : ((w.alloc (.cells #[.int .i64 x] 3)).alloc (.cells #[.slice none 0 0] 24)).heap[w.heap.size]? = some (.cells #[.int .i64 x] 3 (0, 0)) ∧ ((w.alloc (.cells #[.int .i64 x] 3)).alloc (.cells #[.slice none 0 0] 24)).heap[w.heap.size + 1]? = some (.cells #[.slice none 0 0] 24 (0, 0)) :=
  ⟨((Ext.refl (w.alloc _)).alloc _).heap (heap_alloc_new w _), by have := heap_alloc_new (w.alloc (.cells #[.int .i64 x] 3)) (.cells #[.slice none 0 0] 24); simpa using this⟩
theorem best_results {w : World} {tmps : Array Value} {b : Nat} {p : Option Addr} {q r : Nat} (h : tmps.getD 10 undef = .pointer (some ⟨b, 0, none⟩)) (hc : w.cell? ⟨b, 0, none⟩ = some (.slice p q r)) :
    (results Try.f28 tmps).run Try.prog w = .ok (.tuple #[.slice p q r, tmps.getD 11 undef, tmps.getD 12 undef]) w := by
  have h' : tmps[10]?.getD undef = .pointer (some ⟨b, 0, none⟩) := by simpa using h
  simp [results, Try.results28, go_sem, hc, h']
theorem best_leave {w W5 : World} {tmps : Array Value} {T : Chosen} {rc D : Nat} {p : Option Addr} {n c : Nat} (x : Value) (hk : W5.heap[rc]? = some (.cells #[x] 24 (0, 0))) (hdf : W5.heap[D]? = some (.deferred (some []))) (hne : D ≠ rc) (hx : Ext w W5) (hrc : w.heap.size ≤ rc) (hD : w.heap.size ≤ D)
    (h10 : tmps.getD 10 undef = .pointer (some ⟨rc, 0, none⟩)) (h11 : tmps.getD 11 undef = .int .i64 T.got) (h12 : tmps.getD 12 undef = .int .i64 T.err) (hn : n ≤ 1000) (hi : IntsAt .i64 W5 p n T.chain) (hp : ∀ b o s, p = some ⟨b, o, s⟩ → b ≠ rc ∧ b ≠ D) (d : World) (hd : d = (W5.setCell ⟨rc, 0, none⟩ (.slice p n c)) ∨ d = (W5.setCell ⟨rc, 0, none⟩ (.slice p n c)).drew) :
    bodyPostM Fence.wide 0 Try.prog Try.f28 (BestPost T w) .ret ⟨tmps, [{ target := .collected D, args := #[] }]⟩ d := by
  have hh : d.heap = (W5.setCell ⟨rc, 0, none⟩ (.slice p n c)).heap := by rcases hd with rfl | rfl <;> rfl
  have hdx : Ext w d := by rcases hd with rfl | rfl; exact hx.setCell hrc _; exact (hx.setCell hrc _).drew
  have hd1 : d.heap[D]? = some (.deferred (some [])) := by rw [hh, heap_setCell_other _ _ _ _ (by simpa using hne)]; exact hdf
  have hr1 : (d.putObj D (.deferred none)).heap[rc]? = some (.cells #[.slice p n c] 24 (0, 0)) := by
    rw [World.putObj_heap_other (Ne.symm hne), hh, heap_setCell_box, hk]
    rfl
  refine ⟨by simp, .inl ⟨D, _, rfl, run_takeDeferred hd1, _, best_results h10 (((Ext.refl _).box hr1).1 0), ?_⟩⟩
  rw [h11, h12]
  refine ⟨p, n, c, rfl, hdx.putObj hD _, hn, IntsAt.cells hi fun b off e i hi' u hu => ?_⟩
  obtain ⟨e1, e2⟩ := hp b off none e
  refine (World.cell?_of_block (a := ⟨b, off + i, none⟩) ((World.putObj_heap_other e2).trans ?_)).trans hu
  rw [hh]
  exact heap_setCell_other _ _ _ _ (by simpa using e1)
theorem res_cell {w1 : World} {rc : Nat} {x : Value} (h : w1.heap[rc]? = some (.cells #[x] 24 (0, 0))) (y : Value) (o : Obj) : ((w1.setCell ⟨rc, 0, none⟩ y).alloc o).cell? ⟨rc, 0, none⟩ = some y := by
  have h2 : (w1.setCell ⟨rc, 0, none⟩ y).heap[rc]? = some (.cells #[y] 24 (0, 0)) := by rw [heap_setCell_box, h]; rfl
  exact ((((Ext.refl _).alloc o).box h2).1 0)
set_option maxRecDepth 100000 in
set_option maxHeartbeats 4000000 in
theorem best_bad (a : Option Addr) (n cap : Nat) (l : List Offer) (fa : Option Addr) (fn fc : Nat) (fs : List Fair) (g0 u0 want : Int) (w : World)
    (hl : OffersAt w a n l) (hf : FairsAt w fa fn fs) (hn : n ≤ 1000000) (hfn : fn ≤ 1000000) (hc : checkOf l fs ≠ 0) :
    Calls Try.prog 28 #[.slice a n cap, .slice fa fn fc, .int .i64 g0, .int .i64 u0, .int .i64 want] w (BestPost (bestOf l fs g0 u0 want) w) := by
  have hb : bestOf l fs g0 u0 want = ⟨[], 0, checkOf l fs⟩ := by unfold bestOf; rw [if_pos hc]
  rw [hb]
  obtain ⟨r1, r2⟩ := checkOf_range l fs
  have hne : (checkOf l fs != 0) = true := by rw [bne_iff_ne]; exact hc
  have htr := fun W (hW : Ext w W) => travel_bad a n cap l fa fn fc fs W (hl.ext hW) (hf.ext hW) hn hfn hc
  clear hb hl hf hc
  generalize checkOf l fs = C at *
  have hbx := best_boxes w want
  have Htr := Lib.hid htr
  have Hbx := Lib.hid hbx
  clear htr hbx
  go_enter Try.func28, Try.ntmps28
  go_wp2_with (go_at_call 46; refine (Htr.out _ (((Ext.refl _).alloc _).alloc _)).mono ?_; rintro e w1 ⟨rfl, hx1⟩; obtain ⟨hc4, hf4⟩ := hx1.box Hbx.out.2; have lt4 := heap_lt (hx1.heap Hbx.out.2))
  apply bodyPost_ret
  · refine best_results (b := w.heap.size + 1) (p := none) (q := 0) (r := 0) rfl ?_
    exact res_cell (hx1.heap Hbx.out.2) _ _
  · rfl
  · exact BestPost.bad (((((((Ext.refl _).alloc _).alloc _).trans hx1).setCell (by simp) _)).alloc _)
set_option maxRecDepth 100000 in
set_option maxHeartbeats 4000000 in
theorem best_args (a : Option Addr) (n cap : Nat) (l : List Offer) (fa : Option Addr) (fn fc : Nat) (fs : List Fair) (g0 u0 want : Int) (w : World)
    (hl : OffersAt w a n l) (hf : FairsAt w fa fn fs) (hc : checkOf l fs = 0) (hao : argsOk g0 u0 want = false) :
    Calls Try.prog 28 #[.slice a n cap, .slice fa fn fc, .int .i64 g0, .int .i64 u0, .int .i64 want] w (BestPost (bestOf l fs g0 u0 want) w) := by
  have hb : bestOf l fs g0 u0 want = ⟨[], 0, 2⟩ := by unfold bestOf; rw [if_neg (by simp [hc]), if_pos hao]
  rw [hb]
  obtain ⟨ho, ht⟩ := checkOf_zero hc
  have htr := fun W (hW : Ext w W) => travel_ok a n cap l fa fn fc fs W (hl.ext hW) (hf.ext hW) ho ht
  have hbx := best_boxes w want
  have hi1 := fun W => good_any g0 W
  have hi2 := fun W => good_any want W
  have hi3 := fun W => in_any u0 0 1000000 W
  have Htr := Lib.hid htr
  have Hbx := Lib.hid hbx
  clear htr hbx
  clear hb hl hf hc ho ht
  unfold argsOk at hao
  cases h1 : inB g0 0 4
  · rw [h1] at hi1
    have Hi1 := Lib.hid hi1
    have Hi2 := Lib.hid hi2
    have Hi3 := Lib.hid hi3
    clear hi1 hi2 hi3
    clear hao h1
    go_enter Try.func28, Try.ntmps28
    go_wp2_with (first | (go_at_call 46; refine (Htr.out _ (((Ext.refl _).alloc _).alloc _)).mono ?_; rintro e w1 ⟨mp, rfl, hx1, _⟩; obtain ⟨hc4, hf4⟩ := hx1.box Hbx.out.2; obtain ⟨hc5, hf5⟩ := hx1.box Hbx.out.1; have lt4 := heap_lt (hx1.heap Hbx.out.2); have lt5 := heap_lt (hx1.heap Hbx.out.1)) | (go_at_call 48; refine (Hi1.out _).mono ?_; rintro e w2 ⟨rfl, hww⟩; subst hww) | (go_at_call 48; refine (Hi2.out _).mono ?_; rintro e w2 ⟨rfl, hww⟩; subst hww) | (go_at_call 51; refine (Hi3.out _).mono ?_; rintro e w2 ⟨rfl, hww⟩; subst hww))
    apply bodyPost_ret
    · refine best_results (b := w.heap.size + 1) (p := none) (q := 0) (r := 0) rfl ?_
      exact res_cell (hx1.heap Hbx.out.2) _ _
    · rfl
    · exact BestPost.bad (((((((Ext.refl _).alloc _).alloc _).trans hx1).setCell (by simp) _)).alloc _)
  · rw [h1] at hi1
    cases h2 : inB want 0 4
    · rw [h2] at hi2
      have Hi1 := Lib.hid hi1
      have Hi2 := Lib.hid hi2
      have Hi3 := Lib.hid hi3
      clear hi1 hi2 hi3
      clear hao h1 h2
      go_enter Try.func28, Try.ntmps28
      go_wp2_with (first | (go_at_call 46; refine (Htr.out _ (((Ext.refl _).alloc _).alloc _)).mono ?_; rintro e w1 ⟨mp, rfl, hx1, _⟩; obtain ⟨hc4, hf4⟩ := hx1.box Hbx.out.2; obtain ⟨hc5, hf5⟩ := hx1.box Hbx.out.1; have lt4 := heap_lt (hx1.heap Hbx.out.2); have lt5 := heap_lt (hx1.heap Hbx.out.1)) | (go_at_call 48; refine (Hi1.out _).mono ?_; rintro e w2 ⟨rfl, hww⟩; subst hww) | (go_at_call 48; refine (Hi2.out _).mono ?_; rintro e w2 ⟨rfl, hww⟩; subst hww) | (go_at_call 51; refine (Hi3.out _).mono ?_; rintro e w2 ⟨rfl, hww⟩; subst hww))
      apply bodyPost_ret
      · refine best_results (b := w.heap.size + 1) (p := none) (q := 0) (r := 0) rfl ?_
        exact res_cell (hx1.heap Hbx.out.2) _ _
      · rfl
      · exact BestPost.bad (((((((Ext.refl _).alloc _).alloc _).trans hx1).setCell (by simp) _)).alloc _)
    · have h3 : inB u0 0 1000000 = false := by rw [h1, h2] at hao; simpa using hao
      rw [h2] at hi2
      rw [h3] at hi3
      have Hi1 := Lib.hid hi1
      have Hi2 := Lib.hid hi2
      have Hi3 := Lib.hid hi3
      clear hi1 hi2 hi3
      clear hao h1 h2 h3
      go_enter Try.func28, Try.ntmps28
      go_wp2_with (first | (go_at_call 46; refine (Htr.out _ (((Ext.refl _).alloc _).alloc _)).mono ?_; rintro e w1 ⟨mp, rfl, hx1, _⟩; obtain ⟨hc4, hf4⟩ := hx1.box Hbx.out.2; obtain ⟨hc5, hf5⟩ := hx1.box Hbx.out.1; have lt4 := heap_lt (hx1.heap Hbx.out.2); have lt5 := heap_lt (hx1.heap Hbx.out.1)) | (go_at_call 48; refine (Hi1.out _).mono ?_; rintro e w2 ⟨rfl, hww⟩; subst hww) | (go_at_call 48; refine (Hi2.out _).mono ?_; rintro e w2 ⟨rfl, hww⟩; subst hww) | (go_at_call 51; refine (Hi3.out _).mono ?_; rintro e w2 ⟨rfl, hww⟩; subst hww))
      apply bodyPost_ret
      · refine best_results (b := w.heap.size + 1) (p := none) (q := 0) (r := 0) rfl ?_
        exact res_cell (hx1.heap Hbx.out.2) _ _
      · rfl
      · exact BestPost.bad (((((((Ext.refl _).alloc _).alloc _).trans hx1).setCell (by simp) _)).alloc _)
set_option maxRecDepth 100000 in
set_option maxHeartbeats 4000000 in
theorem best_ok (a : Option Addr) (n cap : Nat) (l : List Offer) (fa : Option Addr) (fn fc : Nat) (fs : List Fair) (g0 u0 want : Int) (w : World)
    (hl : OffersAt w a n l) (hf : FairsAt w fa fn fs) (hc : checkOf l fs = 0) (hao : argsOk g0 u0 want = true) :
    Calls Try.prog 28 #[.slice a n cap, .slice fa fn fc, .int .i64 g0, .int .i64 u0, .int .i64 want] w (BestPost (bestOf l fs g0 u0 want) w) := by
  have hb : bestOf l fs g0 u0 want = chosen (bestTo l fs ⟨g0, u0⟩ want ((l.length + 1) ^ fn)) := by unfold bestOf; rw [if_neg (by simp [hc]), if_neg (by simp [hao]), hf.1]
  rw [hb]
  obtain ⟨ho, ht⟩ := checkOf_zero hc
  have htr := fun W (hW : Ext w W) => travel_ok a n cap l fa fn fc fs W (hl.ext hW) (hf.ext hW) ho ht
  have hbx := best_boxes w want
  have hi1 := fun W => good_any g0 W
  have hi2 := fun W => good_any want W
  have hi3 := fun W => in_any u0 0 1000000 W
  have hmk := fun mp W => mkIt_any W 0 mp fa fn fc none 0 0 ⟨g0, u0⟩
  simp only [handVal] at hmk
  rw [show (((0 : Nat)) : Int) = 0 from rfl] at hmk
  simp only [argsOk, Bool.and_eq_true] at hao
  obtain ⟨⟨h1, h2⟩, h3⟩ := hao
  rw [h1] at hi1
  rw [h2] at hi2
  rw [h3] at hi3
  simp only [inB, Bool.and_eq_true, decide_eq_true_eq] at h1 h3
  have Htr := Lib.hid htr
  have Hbx := Lib.hid hbx
  have Hi1 := Lib.hid hi1
  have Hi2 := Lib.hid hi2
  have Hi3 := Lib.hid hi3
  have Hmk := Lib.hid hmk
  have Hl := Lib.hid hl
  have Hf := Lib.hid hf
  have Ho := Lib.hid ho
  have Ht := Lib.hid ht
  clear htr hbx hi1 hi2 hi3 hmk hl hf ho ht
  clear hb hc h2
  refine (callsIn_wide (n := 0)).1 ?_
  refine callsIn_of_wp_marks Try.func28 rfl trivial ?_ rfl
  simp only [Try.ntmps28, List.size_toArray, List.length_cons, List.length_nil, Nat.reduceAdd, Nat.reduceSub, Array.replicate_succ, Array.replicate_zero, List.push_toArray, List.append_toArray, List.nil_append, List.cons_append]
  refine wpIn_wide.2 ?_
  go_wp2_with (first | (go_at_call 46; refine (Htr.out _ (((Ext.refl _).alloc _).alloc _)).mono ?_; rintro e w1 ⟨mp, rfl, hx1, hm1⟩; obtain ⟨hc4, hf4⟩ := hx1.box Hbx.out.2; obtain ⟨hc5, hf5⟩ := hx1.box Hbx.out.1; have lt4 := heap_lt (hx1.heap Hbx.out.2); have lt5 := heap_lt (hx1.heap Hbx.out.1)) | (go_at_call 48; refine (Hi1.out _).mono ?_; rintro e w2 ⟨rfl, hww⟩; subst hww) | (go_at_call 48; refine (Hi2.out _).mono ?_; rintro e w2 ⟨rfl, hww⟩; subst hww) | (go_at_call 51; refine (Hi3.out _).mono ?_; rintro e w2 ⟨rfl, hww⟩; subst hww) | (go_at_call 59; refine (Hmk.out mp _).mono ?_; rintro e w7 ⟨s7, hs7, rfl, hx7, hz7, m0, m1, m2, m3⟩; have Hs7 := Lib.hid hs7; clear hs7))
  have hst1 : Ext w1 ((w1.alloc (.cells #[.pointer (some ⟨mp, 0, none⟩), .slice fa fn fc] 103)).alloc (.cells #[.int .i64 want, .int .i64 (-1)] 120)) := ((Ext.refl _).alloc _).alloc _
  have hbb := heap_alloc_new (w1.alloc (.cells #[.pointer (some ⟨mp, 0, none⟩), .slice fa fn fc] 103)) (.cells #[.int .i64 want, .int .i64 (-1)] 120)
  rw [show (w1.alloc (.cells #[.pointer (some ⟨mp, 0, none⟩), .slice fa fn fc] 103)).heap.size = w1.heap.size + 1 by simp] at hbb
  generalize ((w1.alloc (.cells #[.pointer (some ⟨mp, 0, none⟩), .slice fa fn fc] 103)).alloc (.cells #[.int .i64 want, .int .i64 (-1)] 120)) = wb at *
  obtain rfl := Hs7.out
  have hxw1 : Ext w w1 := (((Ext.refl _).alloc _).alloc _).trans hx1
  have hrcb := hst1.heap (hx1.heap Hbx.out.2)
  have hwb := hst1.heap (hx1.heap Hbx.out.1)
  have hlen := trip_len Ht.out
  have hfl := Hf.out.1
  have hh0 : HandOk 0 ⟨g0, u0⟩ := ⟨⟨g0.toNat, by simp only; omega, by omega⟩, h3.1, by simp; omega⟩
  have hsz2 : ((w.alloc (.cells #[.int .i64 want] 3)).alloc (.cells #[.slice none 0 0] 24)).heap.size = w.heap.size + 2 := by simp
  refine range_best (w := w) (wt := w1) (rc := w.heap.size + 1) (bb := w1.heap.size + 1) (h := ⟨g0, u0⟩) (want := want) Ho.out Ht.out (by omega) Hl.out Hf.out hxw1 hm1 hst1 (by omega) (by omega) (by omega) hrcb hbb (by omega) hx7 hz7 m0 m1 m2 m3 hh0 rfl rfl ?_ ?_
  · rintro f O s ⟨xl, xg, xu⟩ xa xc W' Wp hWp hrec hJ hxn hbox hint hl1 hl2
    simp only [handVal] at hWp hbox hint hl1 hxn ⊢
    have hbbne : w.heap.size + 1 ≠ w1.heap.size + 1 := by omega
    have kw := hJ.keep w.heap.size _ (by omega) (by omega) hwb
    have kb := hJ.best
    obtain ⟨v0, kr, _⟩ := hJ.res
    have hadd : addBest want s (xl, ⟨xg, xu⟩) = if xg = want ∧ s.most < xu then some (xl, xu) else s := rfl
    obtain ⟨M, hM⟩ : ∃ M, s.most = M := ⟨_, rfl⟩
    rw [hM] at kb hadd
    rw [hadd]
    have hjl := hJ.lt
    have hJ1 := hJ.l1
    obtain ⟨l', hl'⟩ : ∃ l', w7.heap.size + 1 = l' := ⟨_, rfl⟩
    rw [hl'] at hWp hrec hjl hJ1
    rw [hl']
    rw [hl'] at hJ
    generalize (recOf f _ _ _ _ _ _ _) = RR at *
    obtain ⟨Wn, hWn⟩ : ∃ Wn, W'.alloc (.cells #[.int .i64 xg, .int .i64 xu] 120) = Wn := ⟨_, rfl⟩
    rw [hWn] at hWp
    have cw := ((Ext.refl Wp).box kw).1
    have cb := ((Ext.refl Wp).box kb).1
    have ch := ((Ext.refl Wp).box hbox).1
    have ltr := heap_lt kr
    have ltb := heap_lt kb
    have Hrec := Lib.hid hrec
    have HJ := Lib.hid hJ
    have Hint := Lib.hid hint
    have Hl' := Lib.hid hl'
    have Hadd := Lib.hid hadd
    have HM := Lib.hid hM
    have Hxn := Lib.hid hxn
    have Kr := Lib.hid kr
    have Hz7 := Lib.hid hz7
    have Kw := Lib.hid kw
    have Kb := Lib.hid kb
    have Hbox := Lib.hid hbox
    clear hrec hJ hint hl' hadd hM hxn kr hz7 kw kb hbox
    clear m0 m1 m2 m3
    by_cases hgw : want = xg
    · subst hgw
      have hgwB : (want == want) = true := by simp
      by_cases hmu : M < xu
      · have hmuB : decide (M < xu) = true := by simpa using hmu
        have hneB : (xu != M) = true := by rw [bne_iff_ne]; omega
        simp only [zip_two, List.setIfInBounds_toArray, List.set_cons_succ, List.set_cons_zero]
        gi_wp2_with ((rw [Oper.semAt_eq _ _ _ (fun c h => by cases h)]; go_simp; try go_bits))
        have hne2 : W'.heap.size ≠ w.heap.size + 1 ∧ W'.heap.size ≠ w1.heap.size + 1 := by
          have h1 := HJ.out.rc1
          have h2 := HJ.out.bb1
          have h3 : W'.heap.size + 1 = Wn.heap.size := by rw [← hWn]; simp
          have h4 : Wn.heap.size = Wp.heap.size := by rw [← hWp]; simp
          have h5 := HJ.out.lt
          have h6 := HJ.out.l1
          omega
        have hcl := fun W (hW : Ext Wp W) => clone_any xa xl.length xc xl W (Hint.out.ext hW) (by have := Hxn.out; omega) (by have := Hxn.out; omega)
        have Hcl := Lib.hid hcl
        clear hcl
        clear cw cb ch
        refine wpIn_region_tree (.take [0, 2] (.one 1 (.one 3 (.one 4 .done)))) ((fun W => W.heap[W'.heap.size]? = some (.cells #[.int .i64 want, .int .i64 xu] 120 (0, 0)))) _ (by kernel_rfl) (by kernel_rfl) rfl (Hbox.out) ?_
        intro ι _ f hf hs
        have f0 := fun q => ((Ext.refl _).box (hf q)).1
        have HS := Lib.hid hs
        clear hf hs
        simp only [treeOf, oneOp, twoOp, opsOf, consOp, List.getElem?_toArray, List.getElem?_cons_succ, List.getElem?_cons_zero]
        refine wpOT_take ?_
        repeat (go_big_quiet_step (fail))
        refine wpQuiet_nil ?_
        refine wpOT_one ?_
        go_wp2_with (go_at_call 60; refine (Hcl.out _ (Ext.refl _).drew).mono ?_; rintro e Wc ⟨cb', co', cc', rfl, hxc, hcb, hcl1, hcm, hci⟩)
        have hxp : Ext Wp Wc := (Ext.refl _).drew.trans hxc
        have k1 := hxp.heap Kr.out
        have k2 := hxp.heap Kb.out
        have k3 := hxp.heap Hbox.out
        refine ⟨HS.out _ k3, ?_⟩
        obtain ⟨c1, c2⟩ := (Ext.refl Wc).box k1
        refine wpOT_one ?_
        go_wp2_with fail
        refine ⟨HS.out _ ((heap_setCell_other _ _ _ _ (by simpa using hne2.1)).trans k3), ?_⟩
        obtain ⟨c3, c4⟩ := (Ext.refl Wc).box k2
        refine wpOT_one ?_
        go_wp2_with fail
        refine ⟨HS.out _ (((heap_setCell_other _ _ _ _ (by simpa using hne2.2)).trans ((heap_setCell_other _ _ _ _ (by simpa using hne2.2)).trans (heap_setCell_other _ _ _ _ (by simpa using hne2.1)))).trans k3), ?_⟩
        refine wpOT_done ?_
        clear f0 HS
        have hb2 : cb' < Wc.heap.size := by
          obtain ⟨b', o', e, hk⟩ := hci.2 (by have := Hxn.out; omega)
          cases e
          have h0 := hk 0 (by have := Hxn.out; omega) 0 _ rfl
          obtain ⟨ob, h1, _⟩ := cells_of_cell h0
          exact heap_lt h1
        have hrest := better_rest HJ.out hxp (.slice (some ⟨cb', co', none⟩) xl.length cc') (.int .i64 want) (.int .i64 xu)
        exact ⟨rfl, HJ.out.better (x := (xl, ⟨want, xu⟩)) hxp hcb hb2 hci rfl, hrest.1 _ Hrec.out, hrest.2⟩
      · have hmuB : decide (M < xu) = false := by simpa using hmu
        by_cases hxm : xu = M
        · subst hxm
          have hneB : (xu != xu) = false := by simp
          simp only [zip_two, List.setIfInBounds_toArray, List.set_cons_succ, List.set_cons_zero]
          gi_wp2_with ((rw [Oper.semAt_eq _ _ _ (fun c h => by cases h)]; go_simp; try go_bits))
          first | exact ⟨trivial, HJ.out, Hrec.out, Kept.refl _ _⟩ | (obtain ⟨_, hr⟩ := Array.getElem?_eq_some_iff.1 Hrec.out; exact ⟨HJ.out, hr, Kept.refl _ _⟩)
        · have hneB : (xu != M) = true := by rw [bne_iff_ne]; omega
          simp only [zip_two, List.setIfInBounds_toArray, List.set_cons_succ, List.set_cons_zero]
          gi_wp2_with ((rw [Oper.semAt_eq _ _ _ (fun c h => by cases h)]; go_simp; try go_bits))
          first | exact ⟨trivial, HJ.out, Hrec.out, Kept.refl _ _⟩ | (obtain ⟨_, hr⟩ := Array.getElem?_eq_some_iff.1 Hrec.out; exact ⟨HJ.out, hr, Kept.refl _ _⟩)
    · have hgwB : (xg == want) = false := by rw [beq_eq_false_iff_ne]; omega
      have hgw2 : ¬(xg = want) := fun e => hgw e.symm
      simp only [zip_two, List.setIfInBounds_toArray, List.set_cons_succ, List.set_cons_zero]
      gi_wp2_with ((rw [Oper.semAt_eq _ _ _ (fun c h => by cases h)]; go_simp; try go_bits))
      first | exact ⟨trivial, HJ.out, Hrec.out, Kept.refl _ _⟩ | (obtain ⟨_, hr⟩ := Array.getElem?_eq_some_iff.1 Hrec.out; exact ⟨HJ.out, hr, Kept.refl _ _⟩)
  · intro O3 W5 hJ
    have hext := hJ.toExt (hxw1.trans hst1) (show w.heap.size ≤ w.heap.size + 1 by omega) (show w.heap.size ≤ w1.heap.size + 1 by omega)
    have hdf := hJ.dfr
    have hbf := hJ.best
    obtain ⟨v, kr, hv⟩ := hJ.res
    have hfok := (bestTo_ok l fs ⟨g0, u0⟩ want ((l.length + 1) ^ fn)).1
    obtain ⟨F, hF⟩ : ∃ F, bestTo l fs ⟨g0, u0⟩ want ((l.length + 1) ^ fn) = F := ⟨_, rfl⟩
    rw [hF] at hv hbf hfok
    rw [hF]
    have HF := Lib.hid hF
    have Hz7 := Lib.hid hz7
    have Hdf := Lib.hid hdf
    clear hF hz7 hdf
    clear m0 m1 m2 m3
    cases F with
    | none =>
      obtain rfl : v = .slice none 0 0 := hv
      obtain ⟨c1, c2⟩ := (Ext.refl W5).box kr
      have heq : (binOp .eql 24 (.slice none 0 0) (.slice none 0 0)).run Try.prog W5 = .ok (.bool true) W5 := by
        have := Go.Lib.run_eql_slice_nil (P := Try.prog) W5 24 3 none 0 0 0 0 Try.underlying24
        simpa using this
      have Kr := Lib.hid kr
      have Hext := Lib.hid hext
      clear kr hext
      go_wp2_with fail
      rw [HF.out]
      exact best_leave (T := chosen none) (p := none) (n := 0) (c := 0) (.slice none 0 0) Kr.out Hdf.out (by have := hx7.size; have := heap_lt hrcb; omega) Hext.out (by omega) (by have := hx7.size; have := hxw1.size; have := hst1.size; omega) rfl rfl rfl (by omega) ⟨rfl, fun h => absurd h (by omega)⟩ (fun b o s e => by cases e) _ (.inl rfl)
    | some x =>
      obtain ⟨xl, xu⟩ := x
      obtain ⟨b, o, c, rfl, hi, _, hb1, hb2, hb3, hb4⟩ := hv
      simp only at hi
      have heq : (binOp .eql 24 (.slice (some ⟨b, o, none⟩) xl.length c) (.slice none 0 0)).run Try.prog W5 = .ok (.bool false) W5 := by
        have := Go.Lib.run_eql_slice_nil (P := Try.prog) W5 24 3 (some ⟨b, o, none⟩) xl.length c 0 0 Try.underlying24
        simpa using this
      obtain ⟨c1, c2⟩ := (Ext.refl W5).box kr
      rw [show (Found.most (some (xl, xu))) = xu from rfl] at hbf
      have Hi := Lib.hid hi
      have Hext := Lib.hid hext
      clear hi hext
      go_wp2_with fail
      clear c1 c2
      refine wp_region_tree (.take [0, 1, 2] (.one 3 (.take [4, 5] .done))) ((fun W => W.heap[w.heap.size + 1]? = some (.cells #[.slice (some ⟨b, o, none⟩) xl.length c] 24 (0, 0)) ∧ W.heap[w1.heap.size + 1]? = some (.cells #[.int .i64 want, .int .i64 xu] 120 (0, 0)))) _ (by kernel_rfl) (by kernel_rfl) rfl (⟨kr, hbf⟩) ?_
      intro ι _ f hf hs
      have f0 := fun q => ((Ext.refl _).box (hf q).1).1
      have f1 := fun q => ((Ext.refl _).box (hf q).2).1
      have HS := Lib.hid hs
      clear hf hs
      simp only [treeOf, oneOp, twoOp, opsOf, consOp, List.getElem?_toArray, List.getElem?_cons_succ, List.getElem?_cons_zero]
      refine wpOT_take ?_
      repeat (go_big_quiet_step (fail))
      refine wpQuiet_nil ?_
      obtain ⟨c1, c2⟩ := (Ext.refl W5).box kr
      refine wpOT_one ?_
      go_wp2_with fail
      have hk2 : (W5.setCell ⟨w.heap.size + 1, 0, none⟩ (.slice (some ⟨b, o, none⟩) xl.length c)).drew.heap[w.heap.size + 1]? = some (.cells #[.slice (some ⟨b, o, none⟩) xl.length c] 24 (0, 0)) := by
        show (W5.setCell ⟨w.heap.size + 1, 0, none⟩ (.slice (some ⟨b, o, none⟩) xl.length c)).heap[w.heap.size + 1]? = _
        rw [heap_setCell_box, kr]
        rfl
      refine ⟨HS.out _ ⟨hk2, (heap_setCell_other _ _ _ _ (by simp; omega)).trans hbf⟩, ?_⟩
      refine wpOT_take ?_
      repeat (go_big_quiet_step (fail))
      refine wpQuiet_nil ?_
      refine wpOT_done ?_
      clear f0 f1 HS
      go_wp2_with fail
      rw [HF.out]
      exact best_leave (T := chosen (some (xl, xu))) _ kr Hdf.out (by have := hx7.size; have := heap_lt hrcb; omega) Hext.out (by omega) (by have := hx7.size; have := hxw1.size; have := hst1.size; omega) rfl rfl rfl (by have := hfok.1; simp only at this; omega) Hi.out (fun b o s e => by cases e; have := heap_lt hrcb; omega) _ (.inr rfl)
/-- market.Best -/
theorem mBest_any (a : Option Addr) (n cap : Nat) (l : List Offer) (fa : Option Addr) (fn fc : Nat) (fs : List Fair) (g0 u0 want : Int) (w : World)
    (hl : OffersAt w a n l) (hf : FairsAt w fa fn fs) (hn : n ≤ 1000000) (hfn : fn ≤ 1000000) :
    Calls Try.prog 28 #[.slice a n cap, .slice fa fn fc, .int .i64 g0, .int .i64 u0, .int .i64 want] w (BestPost (bestOf l fs g0 u0 want) w) := by
  by_cases hc : checkOf l fs = 0
  · cases hao : argsOk g0 u0 want with
    | false => exact best_args a n cap l fa fn fc fs g0 u0 want w hl hf hc hao
    | true => exact best_ok a n cap l fa fn fc fs g0 u0 want w hl hf hc hao
  · exact best_bad a n cap l fa fn fc fs g0 u0 want w hl hf hn hfn hc
end Go.Proofs.Ytkbhmajcddmhnaa
