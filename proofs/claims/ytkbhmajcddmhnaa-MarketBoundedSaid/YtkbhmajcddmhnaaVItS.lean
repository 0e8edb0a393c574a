/- Contract: trip.chains' iterator: it yields all chains, in ascending order. -/
import Derived.Test.YtkbhmajcddmhnaaVGr8
import Derived.Test.YtkbhmajcddmhnaaVGr3
import Derived.Deep.CutRange
namespace Go.Proofs.Ytkbhmajcddmhnaa
open Go.RowKit
set_option linter.unusedVariables false
set_option linter.unusedSimpArgs false

theorem made_one (w : World) (k : Int) : Owns (w.alloc (.cells #[.int .i64 k] 3)) w.heap.size 3 1 (.slice (some ⟨w.heap.size, 0, none⟩) 1 1) (intRows .i64 [k]) :=
  ⟨⟨by simp [intRows], .inr ⟨w.heap.size, 1, _, rfl, Nat.le_refl _, heap_alloc_new w _, Nat.le_refl _, by unfold maxLen; omega, by simp, by simp [intRows]⟩⟩, intRows_row _ _ |> fun h r hr => (h r hr).1⟩
/-- the iterator's contract, where m fairs are left -/
def ChainsAt {σ : Type} (add : σ → List Int × Hand → σ) (a : Option Addr) (n cap : Nat) (l : List Offer) (mp : Nat) (fa : Option Addr) (fn fc : Nat) (fs : List Fair) (m : Nat) : Prop :=
  ∀ (i : Nat), i + m = fn → ∀ {ly : Nat} {J : CellSet → σ → World → Prop}, Takes fn ly J add → (∀ O s W, J O s W → OffersAt W a n l ∧ FairsAt W fa fn fs ∧ MarketAt 0 W mp a n cap l) →
    ∀ (O : CellSet) (s : σ) (W : World) (h : Hand) (ch : List Int) (v : Value) (bi bt bc bh : Nat), J O s W → HandOk i h → ChainAt O W v ch → (∀ g, v.ownBlock = some g → ∀ j, j < ch.length → ¬O g j) → ch.length = i →
      Boxes O W bi bt bc bh i mp fa fn fc v h → Fit O W →
      Calls Try.prog 82 #[.func (.yield ly) #[] #[], .pointer (some ⟨bi, 0, none⟩), .pointer (some ⟨bt, 0, none⟩), .pointer (some ⟨bc, 0, none⟩), .pointer (some ⟨bh, 0, none⟩)] W
        (ItPost J O ((enum l fs m i h ch).foldl add s))
/-- the blocks of a level -/
def lvlBlocks (bi bt bc bh yb ly i mp : Nat) (fa : Option Addr) (fn fc : Nat) (v : Value) (h : Hand) : List (Nat × Obj) :=
  [(bi, .cells #[.int .i64 i] 3 (0, 0)), (bt, .cells #[.pointer (some ⟨mp, 0, none⟩), .slice fa fn fc] 103 (0, 0)), (bc, .cells #[v] 24 (0, 0)), (bh, .cells #[.int .i64 h.good, .int .i64 h.units] 120 (0, 0)), (yb, .cells #[.func (.yield ly) #[] #[]] 151 (0, 0))]
def marksOf (Ds : List Nat) : List (Nat × Obj) := Ds.map fun D => (D, .deferred (some []))
def defersOf (Ds : List Nat) : List Deferred := Ds.map fun D => { target := .collected D, args := #[] }
theorem Lvl.start {σ : Type} {nn l : Nat} {J : CellSet → σ → World → Prop} {add : σ → List Int × Hand → σ} (T : Takes nn l J add) {O : CellSet} {s : σ} {W w5 : World} {bi bt bc bh yb i mp : Nat} {fa : Option Addr} {fn fc : Nat} {v : Value} {h : Hand} {ch : List Int}
    (hj : J O s W) (hc : ChainAt O W v ch) (hpre : ∀ g, v.ownBlock = some g → ∀ j, j < ch.length → ¬O g j) (hb : Boxes O W bi bt bc bh i mp fa fn fc v h) (hfit : Fit O W) (hx : Ext W w5) (hyb : w5.heap[yb]? = some (.cells #[.func (.yield l) #[] #[]] 151 (0, 0))) (hy0 : W.heap.size ≤ yb)
    {la : Option Addr} {nl : Nat} {opts : List Int} (hli : IntsAt .i64 w5 la nl opts) (hfr : ∀ x, la = some x → W.heap.size ≤ x.block) :
    ∃ O1, (∀ b j, O b j → O1 b j) ∧ J O1 s w5 ∧ Lvl O1 w5 (lvlBlocks bi bt bc bh yb l i mp fa fn fc v h) la nl opts v ch := by
  have hlt := hc.lt
  refine ⟨fun b j => O b j ∨ (W.heap.size ≤ b ∧ b < w5.heap.size), fun b j e => .inl e, T.stable _ _ _ _ _ hj (Priv.ext hx) ⟨fun b j e => .inl e, fun b j e => e⟩, fun x hx' => ?_, ⟨hli, fun b off s e i hi => ?_⟩, fun b off s e g => ?_, (hc.ext hx).mono fun g hg j hj e => .inl e, fun g hg j hj e => ?_, fun b j e => ?_⟩
  · simp only [lvlBlocks, List.mem_cons, List.not_mem_nil, or_false] at hx'
    rcases hx' with rfl | rfl | rfl | rfl | rfl
    · exact ⟨hx.heap hb.i, fun j => .inl (hb.oi j), hb.ni⟩
    · exact ⟨hx.heap hb.t, fun j => .inl (hb.ot j), hb.nt⟩
    · exact ⟨hx.heap hb.c, fun j => .inl (hb.oc j), hb.nc⟩
    · exact ⟨hx.heap hb.h, fun j => .inl (hb.oh j), hb.nh⟩
    · exact ⟨hyb, fun j => .inr ⟨hy0, heap_lt hyb⟩, fun e => by have := (hlt _ e).1; simp only at this; omega⟩
  · obtain ⟨b', off', e', hk⟩ := hli.2 (by omega)
    rw [e] at e'
    cases e'
    have h0 := hk i hi 0 _ rfl
    obtain ⟨o, ho, _⟩ := cells_of_cell h0
    simp only at ho
    exact .inr ⟨hfr _ e, heap_lt ho⟩
  · have := (hlt _ g).1
    have := hfr _ e
    simp only at this
    omega
  · rcases e with e | e
    · exact hpre g hg j hj e
    · have := (hlt _ hg).1
      omega
  · rcases e with e | e
    · exact Nat.lt_of_lt_of_le (hfit b j e) hx.size
    · exact e.2
theorem HandOk.next {l : List Offer} {fs : List Fair} {i : Nat} {k : Int} {h h' : Hand} (ho : offersOk l = true) (ht : tripOk fs = true) (hi : i < fs.length) (hk : k < l.length) (hh : HandOk i h) (hs : nextHand l fs i k h = some h') : HandOk (i + 1) h' := by
  unfold nextHand at hs
  split at hs
  · split at hs
    · cases hs
      obtain ⟨o, hoo⟩ : ∃ o, l[k.toNat]? = some o := ⟨_, List.getElem?_eq_getElem (by omega)⟩
      have e : offerAt l k = o := by simp [offerAt, List.getD, hoo]
      obtain ⟨gi, ge, hgi, hge, hgi5, hge5, _, hu1, _, hl1, hl2, hh2, _⟩ := offer_bounds ho hoo
      rw [e]
      exact (hh.take ⟨ge, hge, hge5⟩ hu1 hl1 (by omega)).road ht hi
    · cases hs
  · cases hs
    exact hh.up.road ht hi
theorem opts_mem {l : List Offer} {fs : List Fair} {i : Nat} {k : Int} (h : k ∈ optsAt l fs i) : k = -1 ∨ ∃ z : Nat, k = z ∧ z < l.length := by
  unfold optsAt at h
  rcases List.mem_cons.1 h with h | h
  · exact .inl h
  · rw [here_filter] at h
    obtain ⟨z, hz, rfl⟩ := List.mem_map.1 (List.mem_filter.1 h).1
    exact .inr ⟨z, rfl, List.mem_range.1 hz⟩
theorem lvl_boxes {O : CellSet} {W : World} {Ds : List Nat} {bi bt bc bh yb ly i mp : Nat} {fa : Option Addr} {fn fc : Nat} {v : Value} {h : Hand} {la : Option Addr} {nl : Nat} {opts : List Int} {ch : List Int}
    (hl : Lvl O W (marksOf Ds ++ lvlBlocks bi bt bc bh yb ly i mp fa fn fc v h) la nl opts v ch) :
    W.heap[bi]? = some (.cells #[.int .i64 i] 3 (0, 0)) ∧ W.heap[bt]? = some (.cells #[.pointer (some ⟨mp, 0, none⟩), .slice fa fn fc] 103 (0, 0)) ∧ W.heap[bc]? = some (.cells #[v] 24 (0, 0)) ∧
    W.heap[bh]? = some (.cells #[.int .i64 h.good, .int .i64 h.units] 120 (0, 0)) ∧ W.heap[yb]? = some (.cells #[.func (.yield ly) #[] #[]] 151 (0, 0)) ∧ v.ownBlock ≠ some bi ∧ v.ownBlock ≠ some bt ∧ v.ownBlock ≠ some bc := by
  have m := fun x (hx : x ∈ lvlBlocks bi bt bc bh yb ly i mp fa fn fc v h) => hl.blocks x (List.mem_append_right _ hx)
  unfold lvlBlocks at m
  have m0 := m _ (.head _)
  have m1 := m _ (.tail _ (.head _))
  have m2 := m _ (.tail _ (.tail _ (.head _)))
  have m3 := m _ (.tail _ (.tail _ (.tail _ (.head _))))
  have m4 := m _ (.tail _ (.tail _ (.tail _ (.tail _ (.head _)))))
  exact ⟨m0.1, m1.1, m2.1, m3.1, m4.1, m0.2.2, m1.2.2, m2.2.2⟩
def chainsOf (l : List Offer) (fs : List Fair) (m i : Nat) (h : Hand) (ch : List Int) (k : Int) : List (List Int × Hand) := match nextHand l fs i k h with | some h' => enum l fs m (i + 1) h' (ch ++ [k]) | none => []
def doneTo {σ : Type} (add : σ → List Int × Hand → σ) (s : σ) (l : List Offer) (fs : List Fair) (m i : Nat) (h : Hand) (ch : List Int) (opts : List Int) (q : Nat) : σ := ((opts.take q).flatMap (chainsOf l fs m i h ch)).foldl add s
theorem doneTo_succ {σ : Type} (add : σ → List Int × Hand → σ) (s : σ) (l : List Offer) (fs : List Fair) (m i : Nat) (h : Hand) (ch : List Int) {opts : List Int} {q : Nat} {k : Int} (hk : opts[q]? = some k) :
    doneTo add s l fs m i h ch opts (q + 1) = (chainsOf l fs m i h ch k).foldl add (doneTo add s l fs m i h ch opts q) := by
  unfold doneTo
  rw [List.take_add_one, hk, Option.toList_some, List.flatMap_append, List.foldl_append]
  simp
theorem set_pair {W : World} {nb : Nat} {x y a b : Value} {t : TypeId} (h : W.heap[nb]? = some (.cells #[x, y] t (0, 0))) : ((W.setCell ⟨nb, 0, none⟩ a).setCell ⟨nb, 1, none⟩ b).heap[nb]? = some (.cells #[a, b] t (0, 0)) := by
  rw [heap_setCell_box, heap_setCell_box, h]
  rfl
structure Pre2 (l : List Offer) (fs : List Fair) (i : Nat) (k : Int) (h : Hand) (wr wx : World) (g2 : Nat) (u2 : Int) : Prop where
  x : Ext wr wx
  b : wx.heap[wr.heap.size]? = some (.cells #[.int .i64 g2, .int .i64 u2] 120 (0, 0))
  n : nextHand l fs i k h = some ⟨g2, u2⟩
theorem set_second {W : World} {nb : Nat} {x y b : Value} {t : TypeId} (h : W.heap[nb]? = some (.cells #[x, y] t (0, 0))) : (W.setCell ⟨nb, 1, none⟩ b).heap[nb]? = some (.cells #[x, b] t (0, 0)) := by
  rw [heap_setCell_box, h]
  rfl
/-- the hand behind the choice, ahead of the road -/
structure Pre1 (l : List Offer) (fs : List Fair) (i : Nat) (k : Int) (h : Hand) (wr wx : World) (g1 : Nat) (u1 : Int) : Prop where
  x : Ext wr wx
  b : wx.heap[wr.heap.size]? = some (.cells #[.int .i64 g1, .int .i64 u1] 120 (0, 0))
  g : g1 < 5
  u : 0 ≤ u1
  v : u1 ≤ 312500000000000
  n : nextHand l fs i k h = some (roadHand fs i ⟨g1, u1⟩)
def slotNat (n : Nat) (A : Act) : Nat := (intOf (A.tmps.getD n undef)).toNat
/-- at the loop's head -/
structure Head {σ : Type} (J : CellSet → σ → World → Prop) (O O1 : CellSet) (s : σ) (w : World) (L : List (Nat × Obj)) (la : Option Addr) (nl : Nat) (opts : List Int) (v : Value) (ch : List Int) (Ds : List Nat) : Prop where
  sub : ∀ b j, O b j → O1 b j
  nodup : Ds.Nodup
  j : J O1 s w
  lvl : Lvl O1 w (marksOf Ds ++ L) la nl opts v ch
theorem Head.next {σ : Type} {nn l : Nat} {J : CellSet → σ → World → Prop} {add : σ → List Int × Hand → σ} (T : Takes nn l J add) {O O1 : CellSet} {s s' : σ} {w w' : World} {L : List (Nat × Obj)} {la : Option Addr} {nl : Nat} {opts : List Int} {v : Value} {ch : List Int} {Ds : List Nat}
    (hs : ∀ b j, O b j → O1 b j) (hn : Ds.Nodup) (hj : J O1 s w) (hl : Lvl O1 w (marksOf Ds ++ L) la nl opts v ch) (hx : Ext w w') (e : s' = s) : Head J O O1 s' w' L la nl opts v ch Ds :=
  ⟨hs, hn, by rw [e]; exact T.stable _ _ _ _ _ hj (Priv.ext hx) (Grew.same _ _ _), hl.ext hx⟩
theorem zip_two (s t : Tmp) (u v : Value) (A : Array Value) : ((#[s, t] : Array Tmp).zip #[u, v]).foldl (fun tmps (x : Tmp × Value) => tmps.setIfInBounds x.1 x.2) A = (A.setIfInBounds s u).setIfInBounds t v := by simp
theorem leave_marks {σ : Type} {nn l : Nat} {J : CellSet → σ → World → Prop} {add : σ → List Int × Hand → σ} (T : Takes nn l J add) {O O1 : CellSet} {s : σ} (hs : ∀ b j, O b j → O1 b j) (tmps : Array Value) :
    ∀ (Ds : List Nat) (W : World), Ds.Nodup → (∀ D ∈ Ds, W.heap[D]? = some (.deferred (some [])) ∧ O1 D 0) → J O1 s W → Fit O1 W → LeavesInM Fence.wide 0 Try.prog Try.f82 tmps (ItPost J O s) (defersOf Ds) .returning W
  | [], W, _, _, hj, hf => ⟨_, results_none rfl _ _ _, ⟨_, rfl⟩, O1, hs, hf, hj⟩
  | D :: Ds, W, hn, hD, hj, hf => by
    obtain ⟨h1, h2⟩ := hD D (List.mem_cons_self ..)
    obtain ⟨n1, n2⟩ := List.nodup_cons.1 hn
    refine ⟨by simp, .inl ⟨D, _, rfl, run_takeDeferred h1, leave_marks T hs tmps Ds _ n2 (fun D' hD' => ?_) (T.stable _ _ _ _ _ hj (Priv.putObj _ h1 rfl h2) (Grew.same _ _ _)) (fun b j e => by rw [World.putObj_size]; exact hf b j e)⟩⟩
    obtain ⟨h3, h4⟩ := hD D' (List.mem_cons_of_mem _ hD')
    exact ⟨(World.putObj_heap_other (fun e => n1 (by rw [← e]; exact hD'))).trans h3, h4⟩
/-- the range over the next level's iterator -/
theorem range_level {σ : Type} {add : σ → List Int × Hand → σ} {a : Option Addr} {n cap : Nat} {l : List Offer} {mp : Nat} {fa : Option Addr} {fn fc : Nat} {fs : List Fair} {m : Nat} (IH : ChainsAt add a n cap l mp fa fn fc fs m) {i : Nat} (him : i + 1 + m = fn)
    {ly : Nat} {J : CellSet → σ → World → Prop} (T : Takes fn ly J add) (hmem : ∀ O s W, J O s W → OffersAt W a n l ∧ FairsAt W fa fn fs ∧ MarketAt 0 W mp a n cap l)
    {O1 : CellSet} {s : σ} {wB w6 w7 : World} {L : List (Nat × Obj)} {la : Option Addr} {nl : Nat} {opts : List Int} {v v' : Value} {ch : List Int} {k : Int} {h' : Hand} (hj : J O1 s wB) (hl : Lvl O1 wB L la nl opts v ch) (hp : Priv (spareOf v ch.length) wB w6)
    (hor : (v'.ownBlock = v.ownBlock ∧ w6.heap.size = wB.heap.size) ∨ (v'.ownBlock = some wB.heap.size ∧ wB.heap.size < w6.heap.size)) (hc' : ChainAt (fun b j => spareOf v ch.length b j ∨ b = wB.heap.size) w6 v' (ch ++ [k]))
    (hx : Ext w6 w7) (hs3 : w7.heap.size = w6.heap.size + 4)
    (m0 : w7.heap[w6.heap.size]? = some (.cells #[.pointer (some ⟨mp, 0, none⟩), .slice fa fn fc] 103 (0, 0))) (m1 : w7.heap[w6.heap.size + 1]? = some (.cells #[.int .i64 (i + 1 : Nat)] 3 (0, 0)))
    (m2 : w7.heap[w6.heap.size + 2]? = some (.cells #[.int .i64 h'.good, .int .i64 h'.units] 120 (0, 0))) (m3 : w7.heap[w6.heap.size + 3]? = some (.cells #[v'] 24 (0, 0)))
    (hh : HandOk (i + 1) h') (hch : ch.length = i) (yb : Nat) (oy : Obj) (hy : (yb, oy) ∈ L) {g : Operand} {ps : Array Tmp} {assign body : Code} {Q : Exit → Act → World → Prop} {A : Act}
    (hg : A.eval g = .func (.func 82) #[] #[.pointer (some ⟨w6.heap.size + 1, 0, none⟩), .pointer (some ⟨w6.heap.size, 0, none⟩), .pointer (some ⟨w6.heap.size + 3, 0, none⟩), .pointer (some ⟨w6.heap.size + 2, 0, none⟩)]) (hps : ps.size = 2)
    (hw : ∀ f, Walked f A.tmps ps assign body w7.heap.size ly (w7.heap.size + 1) (fun W' => W'.heap[yb]? = some oy ∧ w7.heap.size + 1 < W'.heap.size))
    (hcont : ∀ O3 W5, (∀ b j, O1 b j → O3 b j) → J O3 ((enum l fs m (i + 1) h' (ch ++ [k])).foldl add s) W5 → Lvl O3 W5 ((w7.heap.size, .deferred (some [])) :: L) la nl opts v ch → Q .normal { A with defers := { target := .collected w7.heap.size, args := #[] } :: A.defers } W5) :
    (Code.rangeFunc g ps assign body).wp Try.prog Q A w7 := by
  refine wp_range hg (enters_of Try.func82 (by kernel_rfl) rfl) fun f => ?_
  obtain ⟨J', O', hT', hj', hm', hb', hc2, hpre2, hfit2, hafter⟩ := hl.enter T s hj hp hor hc' hx hs3 (i := i + 1) m0 m1 m2 m3 (f := f) (tmps := A.tmps) (assign := assign) (body := body) hps yb oy hy (hw f) rfl
  have hcall := IH (i + 1) him hT' (fun O s W e => let ⟨O3, e3⟩ := hm' O s W e; hmem O3 s W e3) O' s _ h' (ch ++ [k]) v' _ _ _ _ hj' hh hc2 hpre2 (by simp [hch]) hb' hfit2
  refine Calls.mono hcall ?_
  rintro e W3 ⟨⟨r, rfl⟩, O'', hsub, hfit, hj3⟩
  obtain ⟨hl3, hnx⟩ := hafter O'' _ W3 hsub hfit hj3
  obtain ⟨O3, h1, h2, h3⟩ := hnx (.loop (recOf f A.tmps ps assign body w7.heap.size .exhausted none))
  exact ⟨⟨_, rfl⟩, hl3, hcont O3 _ h1 h2 h3⟩
set_option maxRecDepth 100000 in
set_option maxHeartbeats 4000000 in
theorem chains_succ {σ : Type} (add : σ → List Int × Hand → σ) (a : Option Addr) (n cap : Nat) (l : List Offer) (mp : Nat) (fa : Option Addr) (fn fc : Nat) (fs : List Fair) (ho : offersOk l = true) (ht : tripOk fs = true) (hfn : fn ≤ 5) (m : Nat)
    (IH : ChainsAt add a n cap l mp fa fn fc fs m) : ChainsAt add a n cap l mp fa fn fc fs (m + 1) := by
  intro i him ly J T hmem O s W h ch v bi bt bc bh hj hh hc hpre hch hb hfit
  obtain ⟨gz, u⟩ := h
  have hh' := hh
  obtain ⟨⟨g, hg, hg5⟩, hu0, _⟩ := hh'
  simp only at hg hu0
  subst hg
  refine (callsIn_wide (n := 0)).1 ?_
  have hx1 : Ext W (W.alloc (.cells #[.func (.yield ly) #[] #[]] 151)) := (Ext.refl W).alloc _
  have ci := (hx1.box hb.i).1
  have ct := (hx1.box hb.t).1
  have lti := heap_lt hb.i
  have ltt := heap_lt hb.t
  obtain ⟨hl, hf, hm⟩ := hmem O s W hj
  have hfn2 := hf.1
  obtain ⟨f, hfi⟩ : ∃ f, fs[i]? = some f := ⟨_, List.getElem?_eq_getElem (by omega)⟩
  have hnl := hl.1
  have hol := offers_len ho
  have hx2 : Ext W ((W.alloc (.cells #[.func (.yield ly) #[] #[]] 151)).alloc (.cells #[.int .i64 (-1)] 3)) := hx1.alloc _
  have hhe := here_any mp a n cap l fa fn fc fs i f _ (hl.ext hx2) (by omega) 0 (hm.ext hx2) (hf.ext hx2) (by omega) hfi
  have hown := made_one (W.alloc (.cells #[.func (.yield ly) #[] #[]] 151)) (-1)
  rw [show (W.alloc (.cells #[.func (.yield ly) #[] #[]] 151)).heap.size = W.heap.size + 1 by simp] at hown
  have Hhe := Lib.hid hhe
  have Hown := Lib.hid hown
  clear hhe hown
  have ne : ((i : Int) == (fn : Int)) = false := by simp; omega
  refine callsIn_of_wp_marks Try.func82 rfl trivial ?_ rfl
  simp only [Try.ntmps82, List.size_toArray, List.length_cons, List.length_nil, Nat.reduceAdd, Nat.reduceSub, Array.replicate_succ, Array.replicate_zero, List.push_toArray, List.append_toArray, List.nil_append, List.cons_append]
  refine wpIn_wide.2 ?_
  go_wp2_with (first | (go_at_call 53; refine Hhe.out.mono ?_; rintro e w3 ⟨ha, hn, hcp, rfl, hx3, hfr, hnc, hcm, hint⟩; have hown3 := Hown.out.ext hx3; have hsrc := hint.src; have hhl := hint.1) | (at_builtin; refine wpList_app elem24 _ rfl (.tmp 21) (.tmp 24) rfl _ _ _ rfl hown3 ha hn hcp (intRows .i64 (hereOf l f.place f.day)) rfl (by simp [intRows, hhl]) hsrc (intRows_row _ _) ?_ ?_ ?_))
  · have := hereOf_len l f.place f.day
    simp [intRows]
    omega
  · have := hx3.size
    simp at this
    omega
  · intro v' w5 ho5 hg5 hor5
    have hfa : fairAt fs i = f := by simp [fairAt, List.getD, hfi]
    have hop : optsAt l fs i = -1 :: hereOf l f.place f.day := by rw [optsAt, hfa]
    rw [← intRows_append, List.singleton_append, ← hop] at ho5
    obtain ⟨la, lc, rfl, hfr5, hlc5, hlm5, hli5⟩ := ints_of_owns ho5
    have e1 : Ext (W.alloc (.cells #[.func (.yield ly) #[] #[]] 151)) w3 := ((Ext.refl _).alloc _).trans hx3
    have e2 : Ext (W.alloc (.cells #[.func (.yield ly) #[] #[]] 151)) w5 := e1.app (by rw [show (W.alloc (.cells #[.func (.yield ly) #[] #[]] 151)).heap.size = W.heap.size + 1 by simp]; exact hown3) hg5
    have hx5 : Ext W w5 := hx1.trans e2
    have hyb := e2.heap (heap_alloc_new W (.cells #[.func (.yield ly) #[] #[]] 151))
    obtain ⟨O0, hsub0, hj0, hlv0⟩ := Lvl.start T hj hc hpre hb hfit hx5 hyb (Nat.le_refl _) hli5 (fun x hx => by have := hfr5 x hx; omega)
    have hlen : (optsAt l fs i).length = hn + 1 := by rw [hop]; simp [hhl]
    have hn10 : hn ≤ 10 := by have := hereOf_len l f.place f.day; omega
    have hoz : ∀ (q : Nat) (k : Int), (optsAt l fs i)[q]? = some k → k = -1 ∨ ∃ z : Nat, k = z ∧ z < l.length := fun q k e => opts_mem (List.mem_of_getElem? e)
    have hen : enum l fs (m + 1) i ⟨g, u⟩ ch = (optsAt l fs i).flatMap (chainsOf l fs m i ⟨g, u⟩ ch) := rfl
    rw [hlen] at hlv0 hli5
    rw [hlen]
    generalize optsAt l fs i = opts at *
    have Hj0 := Lib.hid hj0
    have Hlv0 := Lib.hid hlv0
    have Hen := Lib.hid hen
    have Hop := Lib.hid hop
    have Hsub0 := Lib.hid hsub0
    have Hoz := Lib.hid hoz
    have Hlen := Lib.hid hlen
    have Hch := Lib.hid hch
    clear hj0 hlv0 hen hop hsub0 hoz hlen hch
    clear hj hc hpre hb hfit hx1 hx2 ci ct Hhe Hown hown3 hsrc hint hfr hx3 hg5 ho5 hor5 hfr5 hli5 e1 e2 hx5 hyb hhl hnc hcm
    clear hl hf hm
    go_wp2_with fail
    refine wp_loop_step (fun A w => ∃ (u7 u8 u9 u10 u11 u27 u28 u29 u30 u31 u32 u33 u34 u35 u36 u37 u38 u39 u40 u41 u42 u43 u44 u45 u46 u47 u48 u49 u50 u51 u52 u53 u54 u55 u56 u57 u58 u59 u60 u61 u62 u63 u64 u65 u66 u67 u68 u69 u70 u71 u72 u73 u74 u75 u76 u77 u78 u79 u80 u81 u82 u83 u84 u85 u86 u87 u88 u89 u90 u91 u92 u93 u94 u95 u96 : Value) (q : Nat) (Ds : List Nat) (O1 : CellSet), q ≤ hn + 1 ∧ u27 = .int .i64 q ∧ Head J O O1 (doneTo add s l fs m i ⟨g, u⟩ ch opts q) w (lvlBlocks bi bt bc bh W.heap.size ly i mp fa fn fc v ⟨g, u⟩) la (hn + 1) opts v ch Ds ∧
      A = ⟨#[.func (.yield ly) #[] #[], .pointer (some ⟨bi, 0, none⟩), .pointer (some ⟨bt, 0, none⟩), .pointer (some ⟨bc, 0, none⟩), .pointer (some ⟨bh, 0, none⟩), .pointer (some ⟨W.heap.size, 0, none⟩), undef, u7, u8, u9, u10, u11, .int .i64 i, .pointer (some ⟨bt, 1, none⟩), .slice fa fn fc, .int .i64 fn, .bool false, undef, undef, undef, undef, .slice (some ⟨W.heap.size + 1, 0, none⟩) 1 1, .agg #[.pointer (some ⟨mp, 0, none⟩), .slice fa fn fc], .int .i64 i, .slice ha hn hcp, .slice la (hn + 1) lc, .int .i64 (hn + 1), u27, u28, u29, u30, u31, u32, u33, u34, u35, u36, u37, u38, u39, u40, u41, u42, u43, u44, u45, u46, u47, u48, u49, u50, u51, u52, u53, u54, u55, u56, u57, u58, u59, u60, u61, u62, u63, u64, u65, u66, u67, u68, u69, u70, u71, u72, u73, u74, u75, u76, u77, u78, u79, u80, u81, u82, u83, u84, u85, u86, u87, u88, u89, u90, u91, u92, u93, u94, u95, u96], defersOf Ds⟩)
      (fun A _ => hn + 1 - slotNat 27 A) ?_ ?_
    · refine ⟨undef, undef, undef, undef, undef, .int .i64 0, undef, undef, undef, undef, undef, undef, undef, undef, undef, undef, undef, undef, undef, undef, undef, undef, undef, undef, undef, undef, undef, undef, undef, undef, undef, undef, undef, undef, undef, undef, undef, undef, undef, undef, undef, undef, undef, undef, undef, undef, undef, undef, undef, undef, undef, undef, undef, undef, undef, undef, undef, undef, undef, undef, undef, undef, undef, undef, undef, undef, undef, undef, undef, undef, undef, undef, undef, undef, undef, 0, [], O0, Nat.zero_le _, ?_, ?_, ?_⟩
      · rfl
      · exact ⟨Hsub0.out, List.nodup_nil, by unfold doneTo; rw [List.take_zero]; exact Hj0.out, Hlv0.out⟩
      · rfl
    · intro A wr hI K hK
      obtain ⟨u7, hI⟩ := hI
      obtain ⟨u8, hI⟩ := hI
      obtain ⟨u9, hI⟩ := hI
      obtain ⟨u10, hI⟩ := hI
      obtain ⟨u11, hI⟩ := hI
      obtain ⟨u27, hI⟩ := hI
      obtain ⟨u28, hI⟩ := hI
      obtain ⟨u29, hI⟩ := hI
      obtain ⟨u30, hI⟩ := hI
      obtain ⟨u31, hI⟩ := hI
      obtain ⟨u32, hI⟩ := hI
      obtain ⟨u33, hI⟩ := hI
      obtain ⟨u34, hI⟩ := hI
      obtain ⟨u35, hI⟩ := hI
      obtain ⟨u36, hI⟩ := hI
      obtain ⟨u37, hI⟩ := hI
      obtain ⟨u38, hI⟩ := hI
      obtain ⟨u39, hI⟩ := hI
      obtain ⟨u40, hI⟩ := hI
      obtain ⟨u41, hI⟩ := hI
      obtain ⟨u42, hI⟩ := hI
      obtain ⟨u43, hI⟩ := hI
      obtain ⟨u44, hI⟩ := hI
      obtain ⟨u45, hI⟩ := hI
      obtain ⟨u46, hI⟩ := hI
      obtain ⟨u47, hI⟩ := hI
      obtain ⟨u48, hI⟩ := hI
      obtain ⟨u49, hI⟩ := hI
      obtain ⟨u50, hI⟩ := hI
      obtain ⟨u51, hI⟩ := hI
      obtain ⟨u52, hI⟩ := hI
      obtain ⟨u53, hI⟩ := hI
      obtain ⟨u54, hI⟩ := hI
      obtain ⟨u55, hI⟩ := hI
      obtain ⟨u56, hI⟩ := hI
      obtain ⟨u57, hI⟩ := hI
      obtain ⟨u58, hI⟩ := hI
      obtain ⟨u59, hI⟩ := hI
      obtain ⟨u60, hI⟩ := hI
      obtain ⟨u61, hI⟩ := hI
      obtain ⟨u62, hI⟩ := hI
      obtain ⟨u63, hI⟩ := hI
      obtain ⟨u64, hI⟩ := hI
      obtain ⟨u65, hI⟩ := hI
      obtain ⟨u66, hI⟩ := hI
      obtain ⟨u67, hI⟩ := hI
      obtain ⟨u68, hI⟩ := hI
      obtain ⟨u69, hI⟩ := hI
      obtain ⟨u70, hI⟩ := hI
      obtain ⟨u71, hI⟩ := hI
      obtain ⟨u72, hI⟩ := hI
      obtain ⟨u73, hI⟩ := hI
      obtain ⟨u74, hI⟩ := hI
      obtain ⟨u75, hI⟩ := hI
      obtain ⟨u76, hI⟩ := hI
      obtain ⟨u77, hI⟩ := hI
      obtain ⟨u78, hI⟩ := hI
      obtain ⟨u79, hI⟩ := hI
      obtain ⟨u80, hI⟩ := hI
      obtain ⟨u81, hI⟩ := hI
      obtain ⟨u82, hI⟩ := hI
      obtain ⟨u83, hI⟩ := hI
      obtain ⟨u84, hI⟩ := hI
      obtain ⟨u85, hI⟩ := hI
      obtain ⟨u86, hI⟩ := hI
      obtain ⟨u87, hI⟩ := hI
      obtain ⟨u88, hI⟩ := hI
      obtain ⟨u89, hI⟩ := hI
      obtain ⟨u90, hI⟩ := hI
      obtain ⟨u91, hI⟩ := hI
      obtain ⟨u92, hI⟩ := hI
      obtain ⟨u93, hI⟩ := hI
      obtain ⟨u94, hI⟩ := hI
      obtain ⟨u95, hI⟩ := hI
      obtain ⟨u96, hI⟩ := hI
      obtain ⟨q, Ds, O1, hq, rfl, hd, rfl⟩ := hI
      obtain ⟨hsub, hnd, hj, hlv⟩ := hd
      obtain ⟨b1, b2, b3, b4, b5, b6, b7, b8⟩ := lvl_boxes hlv
      obtain ⟨va, vc, rfl, hvc1, hvc2, hvi⟩ := hlv.chain.ints
      have hule := hh.le4 (by omega)
      simp only at hule
      have hvlt := hlv.chain.lt
      obtain ⟨hl, hf, hm⟩ := hmem O1 _ wr hj
      have c1 := ((Ext.refl wr).box b1).1
      have c2 := ((Ext.refl wr).box b2).1
      have c3 := ((Ext.refl wr).box b3).1
      have c4 := ((Ext.refl wr).box b4).1
      have cm := hm.2.1
      by_cases hlt : q < hn + 1
      · have hlt' : decide ((q : Int) < (hn : Int) + 1) = true := by simp; omega
        obtain ⟨cb, co, k, rfl, hk, hcb, e0⟩ := hlv.list.1.get q hlt
        have hkz := Hoz.out q k hk
        have hdone := doneTo_succ add s l fs m i ⟨g, u⟩ ch hk
        have Hsub := Lib.hid hsub
        have Hnd := Lib.hid hnd
        have Hj := Lib.hid hj
        have Hlv := Lib.hid hlv
        have HK := Lib.hid hK
        have Hk := Lib.hid hk
        have Hl := Lib.hid hl
        have Hf := Lib.hid hf
        have Hm := Lib.hid hm
        have Hdone := Lib.hid hdone
        clear hsub hnd hj hlv hK hk hl hf hm hdone
        clear c3 b6 b7 b8 hvi hlc5
        go_upto_if 33 with fail
        have hnb := heap_alloc_new wr (.cells #[.int .i64 g, .int .i64 u] 120)
        have hx1 : Ext wr (wr.alloc (.cells #[.int .i64 g, .int .i64 u] 120)) := (Ext.refl _).alloc _
        obtain ⟨W1, hW1⟩ : ∃ W1, wr.alloc (.cells #[.int .i64 g, .int .i64 u] 120) = W1 := ⟨_, rfl⟩
        rw [hW1] at hnb hx1
        rw [hW1]
        clear hW1 c1 c2 c4 cm e0
        go_cut [8] from 28 to 96 (fun s8 wx => ∃ (g1 : Nat) (u1 : Int), s8 = .pointer (some ⟨wr.heap.size, 0, none⟩) ∧ Pre1 l fs i k ⟨g, u⟩ wr wx g1 u1)
        case first =>
          rcases hkz with rfl | ⟨z, rfl, hzn⟩
          · have hk0 : decide ((0 : Int) ≤ -1) = false := rfl
            go_wp2_with fail
            go_meet
            case rel => exact ⟨g, u, rfl, hx1, hnb, hg5, hu0, by omega, by simp [nextHand]⟩
          · obtain ⟨ob, oo, o, rfl, hoj, hob, q0, q1, q2, q3, q4, q5, q6, q7⟩ := (Hl.out.ext hx1).get z (by omega)
            obtain ⟨gi, ge, hgi, hge, hgi5, hge5, hgne, hu1, hu2, hlo1, hlo2, hhi, _⟩ := offer_bounds ho hoj
            have hoat : offerAt l (z : Int) = o := by simp [offerAt, List.getD, hoj]
            have hzn' : (z : Int) < (n : Int) := by omega
            have hz0 : decide ((0 : Int) ≤ (z : Int)) = true := by simp
            have Hoat := Lib.hid hoat
            have Hoj := Lib.hid hoj
            clear hoat hoj
            obtain ⟨pl, og, oe, un, lo, hi, fr, tu⟩ := o
            simp only at hgi hge q0 q1 q2 q3 q4 q5 q6 q7 hu1 hu2 hlo1 hlo2 hhi
            subst hgi hge
            have r2 := (hx1.box b2).1
            have r4 := (hx1.box b4).1
            have rm := hx1.cell Hm.out.2.1
            have lt2 := heap_lt (hx1.heap b2)
            have lt4 := heap_lt (hx1.heap b4)
            have ltn := heap_lt hnb
            have k2 := hx1.heap b2
            have k4 := hx1.heap b4
            have Hx1 := Lib.hid hx1
            have K2 := Lib.hid k2
            have K4 := Lib.hid k4
            clear hx1 k2 k4
            by_cases hgg : gi = g
            · subst hgg
              have hggB : ((gi : Int) != (gi : Int)) = false := by simp
              go_wp2_with fail
              have hbx := heap_alloc_new W1 (.cells #[.int .i64 pl, .int .i64 gi, .int .i64 ge, .int .i64 un, .int .i64 lo, .int .i64 hi, .int .i64 fr, .int .i64 tu] 81)
              have hx2 : Ext W1 (W1.alloc (.cells #[.int .i64 pl, .int .i64 gi, .int .i64 ge, .int .i64 un, .int .i64 lo, .int .i64 hi, .int .i64 fr, .int .i64 tu] 81)) := (Ext.refl _).alloc _
              obtain ⟨W2, hW2⟩ : ∃ W2, W1.alloc (.cells #[.int .i64 pl, .int .i64 gi, .int .i64 ge, .int .i64 un, .int .i64 lo, .int .i64 hi, .int .i64 fr, .int .i64 tu] 81) = W2 := ⟨_, rfl⟩
              rw [hW2] at hbx hx2
              rw [hW2]
              have k24 := hx2.heap K4.out
              have knb := hx2.heap hnb
              have hxw2 := Hx1.out.trans hx2
              obtain ⟨dv1, dv2⟩ := div_bd hu0 hu1
              obtain ⟨D, hD⟩ : ∃ D, u / un = D := ⟨_, rfl⟩
              rw [hD] at dv1 dv2
              obtain ⟨m1, m2⟩ := mul_bd dv1 (show D ≤ 6250000000000 by omega) (show 0 ≤ lo by omega) (show lo ≤ 50 by omega)
              simp only [Int.reduceMul] at m2
              obtain ⟨P, hP⟩ : ∃ P, D * lo = P := ⟨_, rfl⟩
              rw [hP] at m1 m2
              clear hW2 r2 r4 rm q0 q1 q2 q3 q4 q5 q6 q7 hx2
              have Hxw2 := Lib.hid hxw2
              clear hxw2
              refine wp_region_mix [0, 1, 2, 3, 4, 5, 6, 7, 8, 9, 10, 11] [(12, true)] (Ext W2) _ _ (by kernel_rfl) (by kernel_rfl) (by kernel_rfl) rfl rfl ((Ext.refl _).drew) ?_
              intro ι _ f hf
              have f0 := fun q => ((hf q).box hbx).1
              have f1 := fun q => ((hf q).box k24).1
              clear hf
              simp only [opsOf, opsOfT, consOp, consOpT, List.getElem?_toArray, List.getElem?_cons_succ, List.getElem?_cons_zero]
              repeat (go_big_quiet_step (fail))
              refine wpQuiet_nil ?_
              clear f0 f1
              obtain ⟨kn1, kn2⟩ := (Ext.refl W2).box knb
              refine wpListS_last ?_
              go_wp2_with fail
              refine wpListS_nil ?_
              go_wp2_with fail
              go_meet
              case rel => exact ⟨ge, P, rfl, ((Hxw2.out.setCell (Nat.le_refl _) _).setCell (Nat.le_refl _) _).drew, set_pair knb, hge5, m1, by omega, by simp [nextHand, Hoat.out, takeHand, hD, hP]⟩
            · have hggB : ((gi : Int) != (g : Int)) = true := by rw [bne_iff_ne]; omega
              go_wp2_with fail
              refine HK.out _ _ ⟨_, _, _, _, _, _, _, _, _, _, _, _, _, _, _, _, _, _, _, _, _, _, _, _, _, _, _, _, _, _, _, _, _, _, _, _, _, _, _, _, _, _, _, _, _, _, _, _, _, _, _, _, _, _, _, _, _, _, _, _, _, _, _, _, _, _, _, _, _, _, _, _, _, _, _, q + 1, Ds, O1, by omega, ?_, Head.next T Hsub.out Hnd.out Hj.out Hlv.out (Hx1.out.trans ((Ext.refl _).alloc _)) ?_, rfl⟩ ?_
              · go_num
              · have hgi' : ¬((gi : Int) = (g : Int)) := by omega
                rw [Hdone.out]; simp [chainsOf, nextHand, Hoat.out, hgi']
              · show hn + 1 - (intOf (.int .i64 ((q : Int) + 1))).toNat < hn + 1 - (intOf (.int .i64 (q : Int))).toNat
                simp [intOf]
                omega
        case rest =>
          obtain ⟨g1, u1, rfl, hx1, hnb, hg1, hu1, hu1', hne⟩ := hcut
          have r1 := (hx1.box b1).1
          have r2 := (hx1.box b2).1
          have lt1 := heap_lt (hx1.heap b1)
          have k1 := hx1.heap b1
          have k2 := hx1.heap b2
          have hfx := Hf.out.ext hx1
          have Hne := Lib.hid hne
          have Hx1 := Lib.hid hx1
          have K1 := Lib.hid k1
          have K2 := Lib.hid k2
          have Hfx := Lib.hid hfx
          clear hne hx1 k1 k2 hfx
          go_upto_if 64 with fail
          clear r1 r2
          go_cut [8] from 28 to 96 (fun s8 wx => ∃ (g2 : Nat) (u2 : Int), s8 = .pointer (some ⟨wr.heap.size, 0, none⟩) ∧ Pre2 l fs i k ⟨g, u⟩ wr wx g2 u2)
          case first =>
            by_cases hlast : i + 1 < fn
            · have hlastB : decide ((i : Int) < (fn : Int) - 1) = true := by simp; omega
              obtain ⟨fb, fo, f', ka, kn, kc, rfl, hfk, hfb, d0, d1, d2, _, _, d3⟩ := Hfx.out.get i (by omega)
              have hfk5 := (fair_bounds ht hfk).1
              obtain rfl : kn = 5 := by rw [← d3.1]; exact hfk5
              have hke : keepsOf fs i = f'.keeps := by simp [keepsOf, List.getD, hfk]
              have hfb2 := (fair_bounds ht hfk).2.2.2.2.2
              obtain ⟨kb, ko, sp, rfl, hs, hkb, z0c, z1c⟩ := d3.get g1 hg1
              obtain ⟨s0, s1, s2⟩ := hfb2 g1 sp hs
              have hroad : roadHand fs i ⟨g1, u1⟩ = ⟨g1, lf u1 sp.lo⟩ := by
                simp only [roadHand, hke, Int.toNat_natCast, List.getD, hs, Option.getD_some]
                rw [if_pos (by omega)]
              rw [hroad] at Hne
              have hleft := fun W => left_any u1 sp.lo W hu1 (by omega) s0 (by omega)
              obtain ⟨L, hL⟩ : ∃ L, lf u1 sp.lo = L := ⟨_, rfl⟩
              rw [hL] at Hne hleft
              have Hleft := Lib.hid hleft
              clear hleft
              clear hfk hfk5 hke hfb2 hs hroad hL d3
              go_wp2_with fail
              refine wp_region_mix [0, 1, 2, 3, 4, 5, 6, 7, 8, 9, 10, 11, 12] [(13, false), (14, false), (15, true)] (Ext wc) _ _ (by kernel_rfl) (by kernel_rfl) (by kernel_rfl) rfl rfl ((Ext.refl _).drew) ?_
              intro ι _ f hf
              have f0 := fun q => ((hf q).box hnb).1
              have f1 := fun q => ((hf q).box K1.out).1
              have f2 := fun q => ((hf q).box K2.out).1
              have f3 := fun q => (hf q).cell d2
              have f4 := fun q => (hf q).cell z0c
              clear hf
              simp only [opsOf, opsOfT, consOp, consOpT, List.getElem?_toArray, List.getElem?_cons_succ, List.getElem?_cons_zero]
              repeat (go_big_quiet_step (fail))
              refine wpQuiet_nil ?_
              clear f0 f1 f2 f3 f4
              refine wpListS_step ?_
              go_wp2_with (go_at_call 81; refine (Hleft.out _).mono ?_; rintro e w6 ⟨rfl, rfl⟩)
              refine ⟨(Ext.refl _).drew, ?_⟩
              refine wpListS_step ?_
              go_wp2_with fail
              refine ⟨(Ext.refl _).drew, ?_⟩
              obtain ⟨kn1, kn2⟩ := (Ext.refl wc).box hnb
              refine wpListS_last ?_
              go_wp2_with fail
              refine wpListS_nil ?_
              go_wp2_with fail
              go_meet
              case rel => exact ⟨g1, L, rfl, (Hx1.out.setCell (Nat.le_refl _) _).drew, set_second hnb, Hne.out⟩
            · have hlastB : decide ((i : Int) < (fn : Int) - 1) = false := by simp; omega
              have hroad : roadHand fs i ⟨g1, u1⟩ = ⟨g1, u1⟩ := by
                simp only [roadHand]
                rw [if_neg (by omega)]
              rw [hroad] at Hne
              clear hroad
              go_wp2_with fail
              go_meet
              case rel => exact ⟨g1, u1, rfl, Hx1.out, hnb, Hne.out⟩
          case rest =>
            obtain ⟨g2, u2, rfl, hx2, hnb2, hne2⟩ := hcut
            have hlv2 := Hlv.out.ext hx2
            have hj2 := T.stable _ _ _ _ _ Hj.out (Priv.ext hx2) (Grew.same _ _ _)
            have k1 := hx2.heap b1
            have k2 := hx2.heap b2
            have k3 := hx2.heap b3
            have nvb : ∀ g, (Value.slice va ch.length vc).ownBlock = some g → g < wr.heap.size := fun g e => (hvlt g e).1
            have Hlv2 := Lib.hid hlv2
            have Hj2 := Lib.hid hj2
            have Hne2 := Lib.hid hne2
            have Nvb := Lib.hid nvb
            have Hx2 := Lib.hid hx2
            clear hlv2 hj2 hne2 nvb hx2
            clear Hfx Hx1 Hne K1 K2
            go_wp2_with fail
            refine wp_region_tree (.take [0, 1, 2, 3, 4, 5] (.one 6 (.one 7 (.one 8 .done)))) ((fun W => W.heap[bt]? = some (.cells #[.pointer (some ⟨mp, 0, none⟩), .slice fa fn fc] 103 (0, 0)) ∧ W.heap[bi]? = some (.cells #[.int .i64 i] 3 (0, 0)) ∧ W.heap[wr.heap.size]? = some (.cells #[.int .i64 g2, .int .i64 u2] 120 (0, 0)) ∧ W.heap[bc]? = some (.cells #[.slice va ch.length vc] 24 (0, 0)))) _ (by kernel_rfl) (by kernel_rfl) rfl (⟨k2, k1, hnb2, k3⟩) ?_
            intro ι _ f hf hs
            have f0 := fun q => ((Ext.refl _).box (hf q).1).1
            have f1 := fun q => ((Ext.refl _).box (hf q).2.1).1
            have f2 := fun q => ((Ext.refl _).box (hf q).2.2.1).1
            have f3 := fun q => ((Ext.refl _).box (hf q).2.2.2).1
            have HS := Lib.hid hs
            clear hf hs
            simp only [treeOf, oneOp, twoOp, opsOf, consOp, List.getElem?_toArray, List.getElem?_cons_succ, List.getElem?_cons_zero]
            refine wpOT_take ?_
            repeat (go_big_quiet_step (fail))
            refine wpQuiet_nil ?_
            refine wpOT_one ?_
            go_wp2_with fail
            have hxB : Ext wc (wc.alloc (.cells #[.int .i64 k] 3)).drew := ((Ext.refl _).alloc _).drew
            have hgs : (wc.alloc (.cells #[.int .i64 k] 3)).drew.cell? ⟨wc.heap.size, 0, none⟩ = some (.int .i64 k) := by simp [go_sem]
            refine ⟨HS.out _ ⟨hxB.heap k2, hxB.heap k1, hxB.heap hnb2, hxB.heap k3⟩, ?_⟩
            obtain ⟨wB, hwB⟩ : ∃ wB, (wc.alloc (.cells #[.int .i64 k] 3)).drew = wB := ⟨_, rfl⟩
            rw [hwB] at hxB hgs
            rw [hwB]
            have hlvB := Hlv2.out.ext hxB
            have hjB := T.stable _ _ _ _ _ Hj2.out (Priv.ext hxB) (Grew.same _ _ _)
            obtain ⟨v', w6, hrun, hp6, hor6, hc6⟩ := hlvB.app (P := Try.prog) 24 elem24 wc.heap.size k hgs (by have := Hch.out; omega)
            obtain ⟨a6, c6, hv6, _, _, _⟩ := hc6.ints
            subst hv6
            obtain ⟨n6, hn6⟩ : ∃ n6, (ch ++ [k]).length = n6 := ⟨_, rfl⟩
            rw [hn6] at hor6 hc6 hrun
            clear hwB
            have HlvB := Lib.hid hlvB
            have HjB := Lib.hid hjB
            have Hp6 := Lib.hid hp6
            have Hor6 := Lib.hid hor6
            have Hc6 := Lib.hid hc6
            have Hn6 := Lib.hid hn6
            clear hlvB hjB hp6 hor6 hc6 hn6
            refine wpOT_one ?_
            refine wpList_append_run (u := .slice va ch.length vc) (v := .slice (some ⟨wc.heap.size, 0, none⟩) 1 1) rfl (.tmp 84) (.tmp 86) rfl rfl rfl hrun ?_
            clear hrun
            go_wp2_with fail
            have bs6 : ∀ b o, wB.heap[b]? = some o → (Value.slice va ch.length vc).ownBlock ≠ some b → w6.heap[b]? = some o := fun b o hb hne => Hp6.out.block hb fun j e => hne e.1
            refine ⟨HS.out _ ⟨?_, ?_, ?_, ?_⟩, ?_⟩
            · exact bs6 _ _ (hxB.heap k2) (lvl_boxes Hlv.out).2.2.2.2.2.2.1
            · exact bs6 _ _ (hxB.heap k1) (lvl_boxes Hlv.out).2.2.2.2.2.1
            · exact bs6 _ _ (hxB.heap hnb2) (fun e => by have := Nvb.out _ e; omega)
            · exact bs6 _ _ (hxB.heap k3) (lvl_boxes Hlv.out).2.2.2.2.2.2.2
            have j2 := bs6 _ _ (hxB.heap k2) (lvl_boxes Hlv.out).2.2.2.2.2.2.1
            have j1 := bs6 _ _ (hxB.heap k1) (lvl_boxes Hlv.out).2.2.2.2.2.1
            have j0 := bs6 _ _ (hxB.heap hnb2) (fun e => by have := Nvb.out _ e; omega)
            have j3 := bs6 _ _ (hxB.heap k3) (lvl_boxes Hlv.out).2.2.2.2.2.2.2
            have hmk := mkIt_any w6 (i + 1) mp fa fn fc a6 n6 c6 ⟨g2, u2⟩
            simp only [handVal, Int.natCast_add, Int.natCast_one] at hmk
            have Hmk := Lib.hid hmk
            have Bs6 := Lib.hid bs6
            clear hmk bs6
            refine wpOT_one ?_
            go_wp2_with (go_at_call 59; refine Hmk.out.mono ?_; rintro e w7 ⟨s7, hs7, rfl, hx7, hz7, m0, m1, m2, m3⟩; have Hs7 := Lib.hid hs7; clear hs7)
            refine ⟨HS.out _ ⟨hx7.heap j2, hx7.heap j1, hx7.heap j0, hx7.heap j3⟩, ?_⟩
            refine wpOT_done ?_
            clear f0 f1 f2 f3 HS
            go_wp2_with fail
            obtain rfl := Hs7.out
            have hkl : k < l.length := by rcases hkz with rfl | ⟨z, rfl, hz⟩ <;> omega
            refine range_level IH (by omega) T hmem HjB.out HlvB.out Hp6.out Hor6.out Hc6.out hx7 hz7 m0 m1 m2 m3 (HandOk.next ho ht (by omega) hkl hh Hne2.out) Hch.out W.heap.size (.cells #[.func (.yield ly) #[] #[]] 151 (0, 0)) (List.mem_append_right _ (.tail _ (.tail _ (.tail _ (.tail _ (.head _)))))) rfl rfl ?_ ?_
            · rintro fid ⟨xl, xg, xu⟩ xa xc W' R hB hY
              obtain ⟨fn', tmps', assign', body', hy, hr⟩ := hY
              simp only [handVal] at hy hr ⊢
              obtain ⟨hB, hB2⟩ := hB
              have hyb : W.heap.size ≠ w7.heap.size + 1 := by
                have := heap_lt b5
                have := Hx2.out.size
                have := hxB.size
                have := Hp6.out.size
                have := hx7.size
                omega
              obtain ⟨l', hl'⟩ : ∃ l', w7.heap.size + 1 = l' := ⟨_, rfl⟩
              rw [hl'] at hy hr hyb hB2
              rw [hl']
              have hnx := heap_alloc_new W' (.cells #[.int .i64 xg, .int .i64 xu] 120)
              have hxx : Ext W' (W'.alloc (.cells #[.int .i64 xg, .int .i64 xu] 120)) := (Ext.refl _).alloc _
              have hyx := hxx.heap hB
              generalize (recOf fid _ _ _ _ _ _ _) = RR at *
              obtain ⟨Wn, hWn⟩ : ∃ Wn, W'.alloc (.cells #[.int .i64 xg, .int .i64 xu] 120) = Wn := ⟨_, rfl⟩
              obtain ⟨Wp, hWp⟩ : ∃ Wp, Wn.putObj l' (.loop RR) = Wp := ⟨_, rfl⟩
              rw [hWn] at hy hr hnx hxx hyx
              rw [hWp] at hy hr
              have hyp := (World.putObj_heap_other (w := Wn) (r := l') (o := .loop RR) hyb).trans hyx
              have hnp := (World.putObj_heap_other (w := Wn) (r := l') (k := W'.heap.size) (o := .loop RR) (by omega)).trans hnx
              rw [hWp] at hyp hnp
              have cyp := ((Ext.refl Wp).box hyp).1
              have cnp := ((Ext.refl Wp).box hnp).1
              have Hz7 := Lib.hid hz7
              have Hr := Lib.hid hr
              have Hl' := Lib.hid hl'
              clear hz7 hr hl'
              clear hB hB2 hyx hnx hxx hyp hnp m0 m1 m2 m3
              simp only [zip_two, List.setIfInBounds_toArray, List.set_cons_succ, List.set_cons_zero]
              gi_wp2_with ((rw [Oper.semAt_eq _ _ _ (fun c h => by cases h)]; go_simp; try go_bits))
              refine ⟨rfl, (show RoundIn (Fence.wide.inRound l') 0 Try.prog ly fn' tmps' assign' body' Wp _ from Hr.out).mono ?_⟩
              rintro e W8 ⟨rfl, hR⟩
              gi_wp2_with ((rw [Oper.semAt_eq _ _ _ (fun c h => by cases h)]; go_simp; try go_bits))
              exact ⟨trivial, hR⟩
            · intro O3 W5 h1 h2 h3
              have hnot : w7.heap.size ∉ Ds := fun e => by
                have h7 : w7.heap.size < wB.heap.size := heap_lt (HlvB.out.blocks (w7.heap.size, _) (List.mem_append_left _ (List.mem_map.2 ⟨_, e, rfl⟩))).1
                have := Hp6.out.size
                omega
              have H1 := Lib.hid h1
              have H2 := Lib.hid h2
              have H3 := Lib.hid h3
              have Hnot := Lib.hid hnot
              have Hz7 := Lib.hid hz7
              clear h1 h2 h3 hnot hz7
              go_wp2_with fail
              refine HK.out _ _ ⟨_, _, _, _, _, _, _, _, _, _, _, _, _, _, _, _, _, _, _, _, _, _, _, _, _, _, _, _, _, _, _, _, _, _, _, _, _, _, _, _, _, _, _, _, _, _, _, _, _, _, _, _, _, _, _, _, _, _, _, _, _, _, _, _, _, _, _, _, _, _, _, _, _, _, _, q + 1, w7.heap.size :: Ds, O3, by omega, ?_, ⟨fun b j e => H1.out b j (Hsub.out b j e), List.nodup_cons.2 ⟨Hnot.out, Hnd.out⟩, ?_, H3.out⟩, rfl⟩ ?_
              · go_num
              · rw [Hdone.out]; unfold chainsOf; rw [Hne2.out]; exact H2.out
              · show hn + 1 - (intOf (.int .i64 ((q : Int) + 1))).toNat < hn + 1 - (intOf (.int .i64 (q : Int))).toNat
                simp [intOf]
                omega
      · obtain rfl : q = hn + 1 := by omega
        have hlt' : decide (((hn + 1 : Nat) : Int) < (hn : Int) + 1) = false := by simp
        have Hsub := Lib.hid hsub
        have Hnd := Lib.hid hnd
        have Hj := Lib.hid hj
        have Hlv := Lib.hid hlv
        have HK := Lib.hid hK
        have Hl := Lib.hid hl
        have Hf := Lib.hid hf
        have Hm := Lib.hid hm
        clear hsub hnd hj hlv hK hl hf hm
        clear c3 b6 b7 b8 hvi hlc5
        go_wp2_with fail
        have e : (enum l fs (m + 1) i ⟨g, u⟩ ch).foldl add s = doneTo add s l fs m i ⟨g, u⟩ ch opts (hn + 1) := by
          rw [Hen.out, doneTo, List.take_of_length_le (by have := Hlen.out; omega)]
        rw [e]
        exact leave_marks T Hsub.out _ Ds wr Hnd.out (fun D hD => by
          obtain ⟨a1, a2, _⟩ := Hlv.out.blocks (D, .deferred (some [])) (List.mem_append_left _ (List.mem_map.2 ⟨D, hD, rfl⟩))
          exact ⟨a1, a2 0⟩) Hj.out Hlv.out.fit
theorem chains_all {σ : Type} (add : σ → List Int × Hand → σ) (a : Option Addr) (n cap : Nat) (l : List Offer) (mp : Nat) (fa : Option Addr) (fn fc : Nat) (fs : List Fair) (ho : offersOk l = true) (ht : tripOk fs = true) (hfn : fn ≤ 5) :
    ∀ m, ChainsAt add a n cap l mp fa fn fc fs m
  | 0 => by
    intro i him ly J T hmem O s W h ch v bi bt bc bh hj hh hc hpre hch hb hfit
    obtain rfl : i = fn := by omega
    exact chains_zero mp fa i fc T O s W h ch v bi bt bc bh hj hc hb hfn hfit hch
  | m + 1 => chains_succ add a n cap l mp fa fn fc fs ho ht hfn m (chains_all add a n cap l mp fa fn fc fs ho ht hfn m)
end Go.Proofs.Ytkbhmajcddmhnaa
