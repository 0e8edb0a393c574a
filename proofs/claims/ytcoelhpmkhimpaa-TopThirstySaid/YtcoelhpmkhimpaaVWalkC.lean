/- Contract of layer 3: Walk. -/
import Derived.Test.YtcoelhpmkhimpaaVGj
namespace Go.Proofs.Ytcoelhpmkhimpaa
open Go.RowKit
set_option linter.unusedVariables false
set_option linter.unusedSimpArgs false
def WalkPost (w : World) (r : List Stop × Int × Int) (e : Ending) (w' : World) : Prop := ∃ a c, e = .returned (.tuple #[.slice a r.1.length c, .int .i64 r.2.1, .int .i64 r.2.2]) ∧ From w.heap.size a ∧ r.1.length ≤ c ∧ c ≤ maxLen ∧ StopsAt w' a r.1.length r.1 ∧ Ext w w'
/-- the second loop: the blocks p13 (caravan) and p18 (where one is) -/
structure WkIn (W2 : World) (p18 : Nat) (a : Span) (ss : List Stop) (v : Value) (V : World) : Prop where
  but : But (fun b => b = p18) W2 V
  at' : V.heap[p18]? = some (.cells #[.int .i64 a.lo, .int .i64 a.hi] 114 (0, 0))
  own : Owns V W2.heap.size 44 6 v (stopRows ss)
theorem WkIn.next {W2 : World} {p18 : Nat} {a : Span} {ss : List Stop} {v : Value} {V V' : World} (h : WkIn W2 p18 a ss v V) (hx : Ext V V') : WkIn W2 p18 a ss v V' := ⟨h.but.trans (hx.but _), hx.heap h.at', h.own.ext hx⟩
theorem WkIn.put {W2 : World} {p18 : Nat} {a : Span} {ss : List Stop} {v : Value} {V : World} (h : WkIn W2 p18 a ss v V) (hp : p18 < W2.heap.size) (x y : Int) : WkIn W2 p18 ⟨x, y⟩ ss v ((V.setCell ⟨p18, 0, none⟩ (.int .i64 x)).setCell ⟨p18, 1, none⟩ (.int .i64 y)) := by
  refine ⟨h.but.trans ((But.setCell (O := fun b => b = p18) V _ rfl).trans (But.setCell (O := fun b => b = p18) _ _ rfl)), set2_box h.at' _ _, ?_⟩
  have hg : V.grownBy ((V.setCell ⟨p18, 0, none⟩ (.int .i64 x)).setCell ⟨p18, 1, none⟩ (.int .i64 y)) (some p18) := ⟨rfl, rfl, rfl, by simp [World.setCell], fun k _ hk => (Below.heap_setCell _ _ _ _ (fun e => hk (by simp only at e; rw [e]))).trans (Below.heap_setCell _ _ _ _ (fun e => hk (by simp only at e; rw [e])))⟩
  refine h.own.kept hg (.inr fun e => ?_)
  have := (h.own.lt _ e).1
  omega
theorem But.cell {O : Nat → Prop} {A B : World} (h : But O A B) {x : Addr} {v : Value} (hc : A.cell? x = some v) (hn : ¬O x.block) : B.cell? x = some v := by
  obtain ⟨o, ho, _⟩ := cells_of_cell hc
  exact (World.cell?_of_block ((h.block _ o ho hn).trans ho.symm)).trans hc
theorem stop_src (W : World) (s : Stop) : SlAt (W.alloc (.cells s.cells.toArray 44)) 6 (some ⟨W.heap.size, 0, none⟩) 1 (fun k => (stopRows [s]).getD k []) :=
  slAt_one (fun j v hv => by
    rw [cell_of_row _ _ _ _ 44 (0, 0) (heap_alloc_new W _), Nat.zero_add, List.getElem?_toArray]
    exact hv)
theorem one_src (W : World) (x : Int) (T : TypeId) : SlAt (W.alloc (.cells #[.int .i64 x] T)) 1 (some ⟨W.heap.size, 0, none⟩) 1 (fun k => (intRows .i64 [x]).getD k []) :=
  slAt_one (cells_one (by rw [cell_of_row _ _ _ _ T (0, 0) (heap_alloc_new W _)]; rfl))
set_option maxRecDepth 100000 in
set_option maxHeartbeats 1000000 in
theorem walk_any (wa : Option Addr) (wn wc : Nat) (la : Option Addr) (ln lc : Nat) (l : Land) (p : Span) (frw day : Int) (ga : Option Addr) (gn gc : Nat) (gs : List Int) (w : World) (h : LandAt w wa wn wc la ln lc l) (hg : IntsAt .i64 w ga gn gs) (hgc : gn ≤ gc) (hgm : gc ≤ maxLen) (hls : ∀ x, la = some x → x.block < w.heap.size) (hgs : ∀ x, ga = some x → x.block < w.heap.size) :
    Calls Try.prog 12 #[.agg #[.slice wa wn wc, .slice la ln lc], .int .i64 frw, .int .i64 day, p.val, .slice ga gn gc] w (WalkPost w (walkOf l p frw day gs)) := by
  have hop : ∀ W, Ext w W → Calls Try.prog 44 #[.agg #[.slice wa wn wc, .slice la ln lc], p.val] W fun e w' => e = .returned (.tuple #[openVal wa wn wc la ln lc l p, .int .i64 (openErr l p)]) ∧ Ext W w' := fun W hW => open_any wa wn wc la ln lc l p W (h.ext hW)
  have hov : openVal wa wn wc la ln lc l p = if openErr l p = 0 then .agg #[.slice wa wn wc, .slice la ln lc, .int .i64 p.lo, .int .i64 p.hi] else .agg #[.slice none 0 0, .slice none 0 0, .int .i64 0, .int .i64 0] := rfl
  have hdef : walkOf l p frw day gs = if openErr l p ≠ 0 then ([], 0, openErr l p) else if (inB frw 0 (l.wells.length - 1) && inB day 0 100000) = false then ([], 0, 2) else if 24 < gs.length then ([], 0, 4) else
    match endsOf l frw gs with
    | .error k => ([], (k : Int), 8)
    | .ok es => match stopsOf l p ⟨day, day⟩ gs es with
      | .error k => ([], (k : Int), 34)
      | .ok ss => (ss, 0, 0) := rfl
  have hgl := hg.1
  have hwl := h.wells.1
  have hn1 := h.n1
  have hn2 := h.n2
  unfold maxLen at hgm
  obtain ⟨Q, hQ⟩ : ∃ Q, WalkPost w (walkOf l p frw day gs) = Q := ⟨_, rfl⟩
  have hbad : ∀ k err, walkOf l p frw day gs = ([], k, err) → ∀ w', Ext w w' → Q (.returned (.tuple #[.slice none 0 0, .int .i64 k, .int .i64 err])) w' := fun k err hr w' hx => by
    rw [← hQ, hr]
    exact ⟨none, 0, rfl, From.none _, Nat.le_refl _, by decide, ⟨rfl, fun h => absurd h (Nat.lt_irrefl _)⟩, hx⟩
  have hok : ∀ ss, walkOf l p frw day gs = (ss, 0, 0) → ∀ w' a c, From w.heap.size a → ss.length ≤ c → c ≤ maxLen → StopsAt w' a ss.length ss → Ext w w' → Q (.returned (.tuple #[.slice a ss.length c, .int .i64 0, .int .i64 0])) w' := fun ss hr w' a c h1 h2 h3 h4 h5 => by
    rw [← hQ, hr]
    exact ⟨a, c, rfl, h1, h2, h3, h4, h5⟩
  rw [hQ]
  clear hQ
  generalize hres : walkOf l p frw day gs = R at *
  clear hres
  obtain ⟨B1, hB1⟩ : ∃ B, inB frw 0 (l.wells.length - 1) = B := ⟨_, rfl⟩
  obtain ⟨B2, hB2⟩ : ∃ B, inB day 0 100000 = B := ⟨_, rfl⟩
  obtain ⟨E, hE⟩ : ∃ E, openErr l p = E := ⟨_, rfl⟩
  rw [hB1, hB2, hE] at hdef
  rw [hE] at hov hop
  rw [hov] at hop
  rw [hwl] at hB1
  clear hov
  obtain ⟨p0, p1⟩ := p
  unfold Span.val at *
  simp only at *
  obtain ⟨W0, hW0⟩ : ∃ W0, (w.alloc (.cells #[.slice wa wn wc, .slice la ln lc] 33)).alloc (.cells #[.int .i64 p0, .int .i64 p1] 23) = W0 := ⟨_, rfl⟩
  have hx0 : Ext w W0 := by rw [← hW0]; exact ((Ext.refl w).alloc _).alloc _
  have hb0 : W0.heap[w.heap.size]? = some (.cells #[.slice wa wn wc, .slice la ln lc] 33 (0, 0)) := by rw [← hW0]; exact alloc_heap (heap_alloc_new w _) _
  have hb1 : W0.heap[w.heap.size + 1]? = some (.cells #[.int .i64 p0, .int .i64 p1] 23 (0, 0)) := by rw [← hW0]; exact alloc_at _ _ _ (by simp)
  obtain ⟨z0, _⟩ := (Ext.refl W0).box hb0
  obtain ⟨z1, _⟩ := (Ext.refl W0).box hb1
  by_cases hE0 : E ≠ 0
  · rw [if_pos hE0] at hdef
    rw [if_neg hE0] at hop
    have hf := hbad _ _ hdef
    have hEB : (E != 0) = true := by simpa using hE0
    have hEC : (E == 0) = false := by simpa using hE0
    have Hop := Lib.hid hop
    have Hx0 := Lib.hid hx0
    have Hb0 := Lib.hid hb0
    have Hb1 := Lib.hid hb1
    have Hf := Lib.hid hf
    clear hop hx0 hb0 hb1 hf
    clear hok hbad hdef hE0 hg h hgs hls
    go_enter Try.func12, Try.ntmps12
    go_wp2_with (go_at_call 44; refine (Hop.out _ Hx0.out).mono ?_; rintro e w1 ⟨rfl, hx1⟩; clear hW0 z0 z1)
    refine bodyPost_ret (results_tmp3 rfl _ _ _) rfl ?_
    exact Hf.out _ (Hx0.out.trans (hx1.alloc _))
  obtain rfl : E = 0 := by omega
  rw [if_neg (by simp)] at hdef
  rw [if_pos rfl] at hop
  have hopk := open_ok hE
  cases B1
  · simp only [Bool.false_and, if_true] at hdef
    have hf := hbad _ _ hdef
    have Hop := Lib.hid hop
    have Hx0 := Lib.hid hx0
    have Hb0 := Lib.hid hb0
    have Hb1 := Lib.hid hb1
    have Hf := Lib.hid hf
    have HB1 := Lib.hid hB1
    clear hop hx0 hb0 hb1 hf hB1
    clear hok hbad hdef hE0 hg h hgs hls hopk hE
    go_enter Try.func12, Try.ntmps12
    go_wp2_with (first | (go_at_call 44; refine (Hop.out _ Hx0.out).mono ?_; rintro e w1 ⟨rfl, hx1⟩; clear hW0 z0 z1; obtain ⟨z2, _⟩ := (Ext.refl w1).box (hx1.heap Hb0.out); have hzb := heap_lt (hx1.heap Hb0.out); have hzc := Nat.lt_succ_of_lt hzb) | (go_at_call 45; refine (fromW1 (alloc_at _ _ _ (by simp)) HB1.out).mono ?_; rintro e w2 ⟨rfl, hx2⟩; have hx12 := ((hx1.alloc _).alloc _).trans hx2; clear z2))
    refine bodyPost_ret (results_tmp3 rfl _ _ _) rfl ?_
    exact Hf.out _ (Hx0.out.trans hx12)
  cases B2
  · simp only [Bool.and_false, if_true] at hdef
    have hf := hbad _ _ hdef
    have Hop := Lib.hid hop
    have Hx0 := Lib.hid hx0
    have Hb0 := Lib.hid hb0
    have Hb1 := Lib.hid hb1
    have Hf := Lib.hid hf
    have HB1 := Lib.hid hB1
    have HB2 := Lib.hid hB2
    clear hop hx0 hb0 hb1 hf hB1 hB2
    clear hok hbad hdef hE0 hg h hgs hls hopk hE
    have gg1 := trivial
    go_enter Try.func12, Try.ntmps12
    go_wp2_with (first | (go_at_call 44; refine (Hop.out _ Hx0.out).mono ?_; rintro e w1 ⟨rfl, hx1⟩; clear hW0 z0 z1; obtain ⟨z2, _⟩ := (Ext.refl w1).box (hx1.heap Hb0.out); have hzb := heap_lt (hx1.heap Hb0.out); have hzc := Nat.lt_succ_of_lt hzb) | (go_at_call 45; first | (have q := gg1; clear q gg1; refine (fromW1 (alloc_at _ _ _ (by simp)) HB1.out).mono ?_; rintro e w2 ⟨rfl, hx2⟩; have hx12 := ((hx1.alloc _).alloc _).trans hx2; clear z2) | (refine (fromW1 (alloc_at _ _ _ (by simp)) HB2.out).mono ?_; rintro e w3 ⟨rfl, hx3⟩; have hx13 := (hx12.alloc _).trans hx3)))
    refine bodyPost_ret (results_tmp3 rfl _ _ _) rfl ?_
    exact Hf.out _ (Hx0.out.trans hx13)
  simp only [Bool.and_true, Bool.true_eq_false, if_false] at hdef
  rw [hgl] at hdef
  have gg1 := trivial
  by_cases hlen : 24 < gn
  · rw [if_pos hlen] at hdef
    have hf := hbad _ _ hdef
    have hlB : decide (24 < (gn : Int)) = true := by simp; omega
    have Hop := Lib.hid hop
    have Hx0 := Lib.hid hx0
    have Hb0 := Lib.hid hb0
    have Hb1 := Lib.hid hb1
    have Hf := Lib.hid hf
    have HB1 := Lib.hid hB1
    have HB2 := Lib.hid hB2
    clear hop hx0 hb0 hb1 hf hB1 hB2
    clear hok hbad hdef hE0 hg h hgs hls hopk hE
    go_enter Try.func12, Try.ntmps12
    go_wp2_with (first | (go_at_call 44; refine (Hop.out _ Hx0.out).mono ?_; rintro e w1 ⟨rfl, hx1⟩; clear hW0 z0 z1; obtain ⟨z2, _⟩ := (Ext.refl w1).box (hx1.heap Hb0.out); have hzb := heap_lt (hx1.heap Hb0.out); have hzc := Nat.lt_succ_of_lt hzb) | (go_at_call 45; first | (have q := gg1; clear q gg1; refine (fromW1 (alloc_at _ _ _ (by simp)) HB1.out).mono ?_; rintro e w2 ⟨rfl, hx2⟩; have hx12 := ((Ext.refl (w1.alloc (.cells #[.slice wa wn wc, .slice la ln lc, .int .i64 p0, .int .i64 p1] 108))).alloc _).trans hx2; clear z2) | (refine (fromW1 (alloc_at _ _ _ (by simp)) HB2.out).mono ?_; rintro e w3 ⟨rfl, hx3⟩; have hx13 := (hx12.alloc _).trans hx3)))
    refine bodyPost_ret (results_tmp3 rfl _ _ _) rfl ?_
    exact Hf.out _ (Hx0.out.trans ((hx1.alloc _).trans hx13))
  rw [if_neg hlen] at hdef
  have hlB : decide (24 < (gn : Int)) = false := by simp; omega
  have hall := fun es (he : endsOf l frw gs = .ok es) => ends_legs hopk.1 he
  have hend := fun (W : World) (hW : Ext w W) (g wl : Int) => end_any wa wn wc la ln lc l p0 p1 g wl W (h.ext hW).legs.cells h.n2 h.c3 h.c4 (fun x hx => Nat.lt_of_lt_of_le (hls x hx) hW.size)
  have hlv := fun (W : World) (hW : Ext w W) (a : Span) (g : Nat) (hx : l.legs[g]? = some (legAt l g)) (hL : LegOk l.wells.length (legAt l g)) (ha : SpanIs a 0 100000) => leave_any wa wn wc la ln lc l.legs ⟨p0, p1⟩ a g _ W (h.ext hW).legs hx hL hopk.2 ha h.c3 h.c4
  have hav := fun (W : World) (hW : Ext w W) (a : Span) (g : Nat) (hx : l.legs[g]? = some (legAt l g)) (hL : LegOk l.wells.length (legAt l g)) (ha : SpanIs a 0 100000) => arrive_any wa wn wc la ln lc l.legs ⟨p0, p1⟩ a g _ W (h.ext hW).legs hx hL hopk.2 ha h.c3 h.c4
  have hdy := inB_is hB2
  have hp := hopk.2
  have Hop := Lib.hid hop
  have Hx0 := Lib.hid hx0
  have Hb0 := Lib.hid hb0
  have Hb1 := Lib.hid hb1
  have Hok := Lib.hid hok
  have Hbad := Lib.hid hbad
  have Hdef := Lib.hid hdef
  have Hg := Lib.hid hg
  have Hall := Lib.hid hall
  have Hend := Lib.hid hend
  have Hlv := Lib.hid hlv
  have Hav := Lib.hid hav
  have HB1 := Lib.hid hB1
  have HB2 := Lib.hid hB2
  have Hgs := Lib.hid hgs
  have Hdy := Lib.hid hdy
  have Hp := Lib.hid hp
  clear hop hx0 hb0 hb1 hok hbad hdef hg hall hend hlv hav hB1 hB2 hgs hdy hp
  have hgn24 : gn ≤ 24 := by omega
  clear h hE hE0 hlen hopk hls
  go_enter Try.func12, Try.ntmps12
  go_upto_region 10 with (first | (go_at_call 44; refine (Hop.out _ Hx0.out).mono ?_; rintro e w1 ⟨rfl, hx1⟩; clear hW0 z0 z1; obtain ⟨z2, _⟩ := (Ext.refl w1).box (hx1.heap Hb0.out); have hzb := heap_lt (hx1.heap Hb0.out); have hzc := Nat.lt_succ_of_lt hzb) | (go_at_call 45; first | (have q := gg1; clear q gg1; refine (fromW1 (alloc_at _ _ _ (by simp)) HB1.out).mono ?_; rintro e w2 ⟨rfl, hx2⟩; have hx12 := ((Ext.refl (w1.alloc (.cells #[.slice wa wn wc, .slice la ln lc, .int .i64 p0, .int .i64 p1] 108))).alloc _).trans hx2; clear z2) | (refine (fromW1 (alloc_at _ _ _ (by simp)) HB2.out).mono ?_; rintro e w3 ⟨rfl, hx3⟩; have hx13 := (hx12.alloc _).trans hx3)))
  have hx2 : Ext w w3 := Hx0.out.trans ((hx1.alloc _).trans hx13)
  have hc2 := hx13.heap (heap_alloc_new w1 _)
  generalize w1.heap.size = p13 at *
  have Hx2 := Lib.hid hx2
  have Hc2 := Lib.hid hc2
  clear hx2 hc2
  clear hx1 hx12 hx13 hx3 hzb hzc Hop Hx0 Hb0 Hb1 hlB
  clear HB1 HB2
  go_wp2_with fail
  generalize w3 = W2 at *
  go_loopw [54, 14, 15, 10] (fun i v c r10 wr => ∃ (k : Nat) (es : List Int) (wl : Int), i = .int .i64 k ∧ r10 = .slice none 0 0 ∧ c = .int .i64 wl ∧ k ≤ gn ∧ es.length = k ∧ Ext W2 wr ∧ Owns wr W2.heap.size 3 1 v (intRows .i64 es) ∧ addE k es (endsOf l wl (gs.drop k)) = endsOf l frw gs) (fun i _ _ _ _ => gn - (intOf i).toNat)
  case atStart => exact ⟨0, [], frw, rfl, rfl, rfl, by omega, rfl, Ext.refl _, Owns.nil _ _ _ _, addE_zero _⟩
  case round =>
    obtain ⟨k, es, wl, rfl, rfl, rfl, hk, hel, hx, hown, hadd⟩ := hrel
    obtain ⟨va, vc, rfl, hfr, hvc, hvm, hia⟩ := ints_of_owns hown
    rw [hel] at hvc hia hown ⊢
    unfold maxLen at hvm
    by_cases hlt : k < gn
    · have hltB : decide ((k : Int) < (gn : Int)) = true := by simp; omega
      clear hia hfr
      obtain ⟨b, off, g, rfl, hgk, hb, c0⟩ := (Hg.out.ext (Hx2.out.trans hx)).get k hlt
      rw [ends_step hgk] at hadd
      have hcw := hx.heap Hc2.out
      have hpl := heap_lt hcw
      have hen := fun W (hW : Ext wr W) => Hend.out W (Hx2.out.trans (hx.trans hW)) g wl
      obtain ⟨E, hE⟩ : ∃ E, endOf l g wl = E := ⟨_, rfl⟩
      rw [hE] at hadd hen
      have Hen := Lib.hid hen
      have Hcw := Lib.hid hcw
      have Hown := Lib.hid hown
      have Hx := Lib.hid hx
      clear hen hcw hown hx
      by_cases hE0 : E < 0
      · rw [if_pos hE0] at hadd
        have hdf := Hdef.out
        rw [← hadd] at hdf
        have hf := Hbad.out _ _ hdf
        have hEB : decide (E < 0) = true := decide_eq_true hE0
        have Hf := Lib.hid hf
        clear hf
        clear hadd hdf hgk hE
        go_wp2_with (first | (refine wpList_load_row rfl 108 (.tmp 13) rfl p13 rfl 108 _ (0, 0) _ Hcw.out Try.underlying108 rfl (by kernel_rfl) ?_) | (go_at_call 46; refine (Hen.out _ (Ext.refl _)).mono ?_; rintro e w5 ⟨rfl, hx5⟩))
        refine bodyPost_ret (results_tmp3 rfl _ _ _) rfl ?_
        exact Hf.out _ (Hx2.out.trans (Hx.out.trans hx5))
      · rw [if_neg hE0] at hadd
        have hEB : decide (E < 0) = false := decide_eq_false hE0
        have Hadd := Lib.hid hadd
        clear hadd
        clear hgk hE
        go_wp2_with (first | (refine wpList_load_row rfl 108 (.tmp 13) rfl p13 rfl 108 _ (0, 0) _ Hcw.out Try.underlying108 rfl (by kernel_rfl) ?_) | (go_at_call 46; refine (Hen.out _ (Ext.refl _)).mono ?_; rintro e w5 ⟨rfl, hx5⟩) | (at_builtin; refine wpList_app elem34 _ rfl (.tmp 66) (.tmp 68) rfl W2.heap.size (.slice va k vc) (intRows .i64 es) rfl ((Hown.out.ext hx5).alloc _) (some ⟨w5.heap.size, 0, none⟩) 1 1 (intRows .i64 [E]) rfl rfl (one_src w5 E 3) (intRows_row _ _) (by simp [intRows]; omega) (by have := Hx.out.size; have := hx5.size; simp; omega) ?_; intro v6 w6 ho6 hg6 _; have hx6 := ((Hx.out.trans hx5).alloc (.cells #[.int .i64 E] 3)).app ((Hown.out.ext hx5).alloc _) hg6; rw [← intRows_append] at ho6; clear hg6; obtain ⟨va6, vc6, hv6, -⟩ := ints_of_owns ho6; rw [show (es ++ [E]).length = k + 1 from by simp; omega] at hv6; subst hv6; have Ho6 := Lib.hid ho6; have Hx6 := Lib.hid hx6; clear ho6 hx6))
        go_roundw
        case rel => exact ⟨k + 1, es ++ [E], E, by go_num, rfl, rfl, by omega, by simp; omega, Hx6.out, Ho6.out, Hadd.out⟩
        case measure => simp [intOf]; omega
    · have hltB : decide ((k : Int) < (gn : Int)) = false := by simp; omega
      obtain rfl : k = gn := by omega
      rw [List.drop_of_length_le (by omega)] at hadd
      have he : endsOf l frw gs = .ok es := by rw [← hadd, show endsOf l wl [] = .ok [] from rfl]; exact addE_end _ _
      have hdf := Hdef.out
      rw [he] at hdf
      obtain ⟨hal, hal2⟩ := Hall.out es he
      have hgt := Hg.out.ext (Hx2.out.trans hx)
      have hpw : p13 < W2.heap.size := heap_lt Hc2.out
      have hx3 := Hx2.out.trans hx
      have hc3 := hx.heap Hc2.out
      have hbase := hx3.size
      have Hdf := Lib.hid hdf
      have Hal2 := Lib.hid hal2
      have Hgt := Lib.hid hgt
      have Hx3 := Lib.hid hx3
      have Hc3 := Lib.hid hc3
      have Hia := Lib.hid hia
      have Hfr := Lib.hid hfr
      clear hdf hal2 hgt hx3 hc3 hia hfr
      clear hown hadd he hx Hdef Hall Hx2 Hc2 hlt
      go_upto_region 19 with fail
      have hx4 := Hx3.out.alloc (.cells #[.int .i64 day, .int .i64 day] 114)
      have hc4 := alloc_heap Hc3.out (.cells #[.int .i64 day, .int .i64 day] 114)
      have hat4 := heap_alloc_new wr (.cells #[.int .i64 day, .int .i64 day] 114)
      have hgt4 := Hgt.out.ext ((Ext.refl wr).alloc (.cells #[.int .i64 day, .int .i64 day] 114))
      have hia4 := Hia.out.ext ((Ext.refl wr).alloc (.cells #[.int .i64 day, .int .i64 day] 114))
      have hin : ∀ x, 0 < k → va = some x → x.block < wr.heap.size := fun x h0 hx => by
        obtain ⟨b, off, _, e, _, hb, _⟩ := Hia.out.get 0 h0
        rw [hx] at e
        cases e
        exact hb
      have hp13 : p13 < wr.heap.size := heap_lt Hc3.out
      generalize wr.alloc (.cells #[.int .i64 day, .int .i64 day] 114) = W3 at *
      generalize hp18 : wr.heap.size = p18 at *
      have hp83 := heap_lt hat4
      have hgb : ∀ x, ga = some x → ¬x.block = p18 := fun x hx => by have := Hgs.out x hx; omega
      have hst0 := addE_zero (stopsOf l ⟨p0, p1⟩ ⟨day, day⟩ gs es)
      have hD0 : WkIn W3 p18 ⟨day, day⟩ [] (.slice none 0 0) W3 := ⟨But.refl _ _, hat4, Owns.nil _ _ _ _⟩
      have hd0 : SpanIs ⟨day, day⟩ 0 100000 := ⟨Hdy.out.1, Int.le_refl _, Hdy.out.2⟩
      have Hx4 := Lib.hid hx4
      have Hc4 := Lib.hid hc4
      have Hgt4 := Lib.hid hgt4
      have Hia4 := Lib.hid hia4
      have Hin := Lib.hid hin
      have Hp18 := Lib.hid hp18
      have Hgb := Lib.hid hgb
      have Hst0 := Lib.hid hst0
      have HD0 := Lib.hid hD0
      have Hd0 := Lib.hid hd0
      clear hx4 hc4 hgt4 hia4 hin hp18 hgb hst0 hD0 hd0
      clear Hx3 Hc3 Hgt Hia hat4 Hend
      go_wp2_with fail
      go_loopw [76, 10] (fun i v wr => ∃ (k2 : Nat) (ss : List Stop) (a : Span), i = .int .i64 k2 ∧ k2 ≤ k ∧ ss.length = k2 ∧ SpanIs a 0 100000 ∧ WkIn W3 p18 a ss v wr ∧ addE k2 ss (stopsOf l ⟨p0, p1⟩ a (gs.drop k2) (es.drop k2)) = stopsOf l ⟨p0, p1⟩ ⟨day, day⟩ gs es) (fun i _ _ => k - (intOf i).toNat)
      case atStart => exact ⟨0, [], ⟨day, day⟩, rfl, by omega, rfl, Hd0.out, HD0.out, Hst0.out⟩
      case round =>
        clear HD0 Hd0 Hst0
        obtain ⟨k2, ss, a, rfl, hk2, hsl, hasp, hD, hadd⟩ := hrel
        obtain ⟨sa, sc, rfl, hsf, hsc, hsm, hsi⟩ := stops_of_owns hD.own
        rw [hsl] at hsc hsi hD ⊢
        unfold maxLen at hsm
        have hxV := But.ext Hx4.out hD.but (fun b hb => by have := Hx4.out.size; omega)
        by_cases hlt2 : k2 < k
        · have hltB : decide ((k2 : Int) < (k : Int)) = true := by simp; omega
          clear hsi hsf
          have hgw : IntsAt .i64 wr ga k gs := ⟨Hgt4.out.1, Hgt4.out.2.but hD.but Hgb.out⟩
          have hew : IntsAt .i64 wr va k es := ⟨Hia4.out.1, Hia4.out.2.but hD.but (fun x hx e => by have := Hin.out x (by omega) hx; omega)⟩
          obtain ⟨b, off, g, rfl, hgk, hb, c0⟩ := hgw.get k2 hlt2
          obtain ⟨b3, off3, e3, rfl, hek, hb3, c3⟩ := hew.get k2 hlt2
          obtain ⟨hgl2, hgL⟩ := Hal2.out g (List.mem_of_getElem? hgk)
          obtain ⟨gi, rfl⟩ := Int.eq_ofNat_of_zero_le hgl2.1
          have hgx : l.legs[gi]? = some (legAt l gi) := by
            unfold legAt
            rw [Int.toNat_natCast, List.getD_eq_getElem?_getD, List.getElem?_eq_getElem (show gi < l.legs.length by omega)]
            rfl
          rw [stops_step hgk hek] at hadd
          have hlw := fun W (hW : Ext wr W) => Hlv.out W (hxV.trans hW) a gi hgx hgL hasp
          have haw := fun W (hW : Ext wr W) => Hav.out W (hxV.trans hW) a gi hgx hgL hasp
          have har := fun h => (arrive_is hgL Hp.out hasp h).2.2
          generalize arriveOf (legAt l gi) ⟨p0, p1⟩ a = AR at *
          generalize leaveOf (legAt l gi) ⟨p0, p1⟩ a = LV at *
          obtain ⟨r0, r1⟩ := AR
          obtain ⟨l0, l1⟩ := LV
          obtain ⟨a0, a1⟩ := a
          unfold Span.val at hlw haw
          simp only at hlw haw har hadd
          have hcw := hD.but.block _ _ Hc4.out (by omega)
          have hpl := heap_lt hcw
          have hat' := hD.at'
          simp only at hat'
          obtain ⟨z3, _⟩ := (Ext.refl wr).box hat'
          have hatl := heap_lt hat'
          have Hlw := Lib.hid hlw
          have Haw := Lib.hid haw
          have Har := Lib.hid har
          have Hcw := Lib.hid hcw
          have Hat' := Lib.hid hat'
          have HD := Lib.hid hD
          have HxV := Lib.hid hxV
          have Hasp := Lib.hid hasp
          clear hlw haw har hcw hat' hD hxV hasp
          clear hgk hek hgl2 hgL hgx hgw hew
          go_upto_region 24 with (first | (refine wpList_load_row rfl 108 (.tmp 13) rfl p13 rfl 108 _ (0, 0) _ (by first | exact Hcw.out | exact Hcw5.out) Try.underlying108 rfl (by kernel_rfl) ?_) | (go_at_call 47; refine (Hlw.out _ (Ext.refl _)).mono ?_; rintro e w5 ⟨rfl, hx5⟩; clear z3; have hxb := hx5.alloc (.cells #[.int .i64 l0, .int .i64 l1] 114); have hc5 := hxb.heap Hcw.out; have Hcw5 := Lib.hid hc5; obtain ⟨z5, _⟩ := (Ext.refl _).box (hxb.heap Hat'.out); clear hc5; have h21 := heap_alloc_new w5 (.cells #[.int .i64 l0, .int .i64 l1] 114); have H21 := Lib.hid h21; clear h21) | (go_at_call 48; refine (Haw.out _ hxb).mono ?_; rintro e w6 ⟨rfl, hx6⟩; clear z5; have h618 := hx6.heap (hxb.heap Hat'.out); obtain ⟨z6, z7⟩ := (Ext.refl w6).box h618; have h6l := heap_lt h618; have H618 := Lib.hid h618; clear h618))
          have hDn := ((HD.out.next hxb).next hx6).put (by omega) r0 r1
          have hws : wr.heap.size ≤ w5.heap.size := hx5.size
          have h215 : ((w6.setCell ⟨p18, 0, none⟩ (.int .i64 r0)).setCell ⟨p18, 1, none⟩ (.int .i64 r1)).heap[w5.heap.size]? = some (.cells #[.int .i64 l0, .int .i64 l1] 114 (0, 0)) := set2_other (hx6.heap H21.out) (b := p18) (by omega) _ _
          have hbp : b3 ≠ p18 := by have := Hin.out ⟨b3, off3, none⟩ (by omega) rfl; simp only at this; omega
          have hc37 : ((w6.setCell ⟨p18, 0, none⟩ (.int .i64 r0)).setCell ⟨p18, 1, none⟩ (.int .i64 r1)).cell? ⟨b3, off3 + k2, none⟩ = some (.int .i64 e3) :=
            But.cell ((But.setCell (O := fun b => b = p18) w6 (.int .i64 r0) rfl).trans (But.setCell (O := fun b => b = p18) _ (.int .i64 r1) rfl)) ((hxb.trans hx6).cell c3) hbp
          have hxW := But.ext Hx4.out hDn.but (fun b hb => by have := Hx4.out.size; omega)
          have hov : ∀ q, (Value.slice sa k2 sc).ownBlock = some q → W3.heap.size ≤ q ∧ q < wr.heap.size := fun q hq => HD.out.own.lt q hq
          clear z6 z7 h6l hx5 hxb hx6 H21 H618 Hcw5 Hcw Hat' HD c3 c0 Hlw Haw
          generalize ((w6.setCell ⟨p18, 0, none⟩ (.int .i64 r0)).setCell ⟨p18, 1, none⟩ (.int .i64 r1)) = W7 at *
          generalize w5.heap.size = p21 at *
          have hat7 : W7.heap[p18]? = some (.cells #[.int .i64 r0, .int .i64 r1] 114 (0, 0)) := hDn.at'
          obtain ⟨z8, _⟩ := (Ext.refl W7).box hat7
          have h7l := heap_lt hat7
          by_cases hA : 100000 < r1
          · have hAB : decide (100000 < r1) = true := decide_eq_true hA
            rw [if_pos hA] at hadd
            have hdf := Hdf.out
            rw [← hadd] at hdf
            have hf := Hbad.out _ _ hdf
            have Hf := Lib.hid hf
            have HxW := Lib.hid hxW
            have HDn := Lib.hid hDn
            have Hat7 := Lib.hid hat7
            have Hov := Lib.hid hov
            have H215 := Lib.hid h215
            have Hc37 := Lib.hid hc37
            clear hf hxW hDn hat7 hov h215 hc37
            clear hadd hdf
            go_wp2_with fail
            refine bodyPost_ret (results_tmp3 rfl _ _ _) rfl ?_
            exact Hf.out _ HxW.out
          · have hAB : decide (100000 < r1) = false := decide_eq_false hA
            rw [if_neg hA] at hadd
            have hsp7 := Har.out (by omega)
            have HxW := Lib.hid hxW
            have HDn := Lib.hid hDn
            have Hat7 := Lib.hid hat7
            have Hov := Lib.hid hov
            have H215 := Lib.hid h215
            have Hc37 := Lib.hid hc37
            have Hadd := Lib.hid hadd
            have Hsp7 := Lib.hid hsp7
            clear hxW hDn hat7 hov h215 hc37 hadd hsp7
            go_upto_region 26 with fail
            clear z8 h7l hA hAB
            have hn18 : ¬(Value.slice sa k2 sc).ownBlock = some p18 := fun e => by have := Hov.out p18 e; omega
            have hn21 : ¬(Value.slice sa k2 sc).ownBlock = some p21 := fun e => by have := Hov.out p21 e; omega
            have hnb3 : ¬(Value.slice sa k2 sc).ownBlock = some b3 := fun e => by have := Hov.out b3 e; have := Hin.out ⟨b3, off3, none⟩ (by omega) rfl; have := Hp18.out; simp only at *; omega
            have Hn18 := Lib.hid hn18
            have Hn21 := Lib.hid hn21
            have Hnb3 := Lib.hid hnb3
            clear hn18 hn21 hnb3
            refine wp_region_tree (.take [0, 1, 2, 3, 4, 5, 6, 8] (.one 7 (.one 9 (.take [10] (.one 11 (.one 12 (.take [13] .done))))))) (But (fun b => (Value.slice sa k2 sc).ownBlock = some b) W7) _ (by kernel_rfl) (by kernel_rfl) rfl (((Ext.refl W7).drew).but _) ?_
            intro ι _ f hf hs
            have f0 := fun q => ((hf q).box Hat7.out Hn18.out).1
            have f1 := fun q => ((hf q).box H215.out Hn21.out).1
            have f2 := fun q => (hf q).cell Hc37.out Hnb3.out
            have HS := Lib.hid hs
            clear hf hs
            simp only [treeOf, oneOp, twoOp, opsOf, consOp, List.getElem?_toArray, List.getElem?_cons_succ, List.getElem?_cons_zero]
            refine wpOT_take ?_
            repeat (go_big_quiet_step (fail))
            refine wpQuiet_nil ?_
            clear f0 f1 f2
            refine wpOT_one ?_
            go_wp2_with (go_at_call 49; refine (bothSpan_any _ _ _).mono ?_; rintro e wa ⟨rfl, hxa⟩)
            refine ⟨HS.out _ ((((Ext.refl W7).drew).trans hxa).but _), ?_⟩
            refine wpOT_one ?_
            go_wp2_with (go_at_call 49; refine (bothSpan_any _ _ _).mono ?_; rintro e wb ⟨rfl, hxb⟩)
            have hx7b := (((Ext.refl W7).drew).trans hxa).trans hxb
            clear hxa hxb
            refine ⟨HS.out _ (hx7b.but _), ?_⟩
            refine wpOT_take ?_
            repeat (go_big_quiet_step (fail))
            refine wpQuiet_nil ?_
            refine wpOT_one ?_
            go_wp2_with fail
            have hx7c := hx7b.alloc (.cells #[.int .i64 gi, .int .i64 e3, .int .i64 l0, .int .i64 l1, .int .i64 r0, .int .i64 r1] 44)
            refine ⟨HS.out _ (hx7c.but _), ?_⟩
            refine wpOT_one ?_
            go_wp2_with (at_builtin; refine wpList_app elem39 _ rfl (.tmp 93) (.tmp 104) rfl W3.heap.size (.slice sa k2 sc) (stopRows ss) rfl (HDn.out.own.ext hx7c) (some ⟨wb.heap.size, 0, none⟩) 1 1 (stopRows [⟨gi, e3, ⟨l0, l1⟩, ⟨r0, r1⟩⟩]) rfl rfl (stop_src wb ⟨gi, e3, ⟨l0, l1⟩, ⟨r0, r1⟩⟩) (stopRows_row _) (by simp [stopRows]; omega) (by have := HDn.out.but.size; have := hx7c.size; omega) ?_; intro v8 w8 ho8 hg8 _; have hb8 := (hx7c.but (fun b => (Value.slice sa k2 sc).ownBlock = some b)).trans (but_grown hg8); rw [← stopRows_append] at ho8; clear hg8; obtain ⟨va8, vc8, hv8, -⟩ := stops_of_owns ho8; rw [show (ss ++ [(⟨gi, e3, ⟨l0, l1⟩, ⟨r0, r1⟩⟩ : Stop)]).length = k2 + 1 from by simp; omega] at hv8; subst hv8; have Ho8 := Lib.hid ho8; have Hb8 := Lib.hid hb8; clear ho8 hb8)
            refine ⟨HS.out _ Hb8.out, ?_⟩
            have hD8 : WkIn W3 p18 ⟨r0, r1⟩ (ss ++ [⟨gi, e3, ⟨l0, l1⟩, ⟨r0, r1⟩⟩]) (.slice va8 (k2 + 1) vc8) w8 := ⟨HDn.out.but.behind Hb8.out (fun q hq => (Hov.out q hq).1), Hb8.out.block _ _ Hat7.out Hn18.out, Ho8.out⟩
            have HD8 := Lib.hid hD8
            clear hD8
            clear hx7b hx7c
            refine wpOT_take ?_
            repeat (go_big_quiet_step (fail))
            refine wpQuiet_nil ?_
            refine wpOT_done ?_
            clear HS
            go_wp2_with fail
            go_roundw
            case rel => exact ⟨k2 + 1, _, ⟨r0, r1⟩, by go_num, by omega, by simp; omega, Hsp7.out, HD8.out, Hadd.out⟩
            case measure => simp [intOf]; omega
        · have hltB : decide ((k2 : Int) < (k : Int)) = false := by simp; omega
          obtain rfl : k2 = k := by omega
          rw [List.drop_of_length_le (show gs.length ≤ k2 by omega)] at hadd
          have he : stopsOf l ⟨p0, p1⟩ ⟨day, day⟩ gs es = .ok ss := by
            rw [← hadd, show stopsOf l ⟨p0, p1⟩ a [] (es.drop k2) = .ok [] from by unfold stopsOf; rfl]
            exact addE_end _ _
          have hdf := Hdf.out
          rw [he] at hdf
          have hf := Hok.out ss hdf wr sa sc (hsf.mono (by have := Hx4.out.size; omega)) (by omega) (by unfold maxLen; omega) (by rw [hsl]; exact hsi) hxV
          rw [hsl] at hf
          have Hf := Lib.hid hf
          clear hf
          clear hadd he hdf hsi hsf hD hlt2
          go_wp2_with fail
          refine bodyPost_ret (results_tmp3 rfl _ _ _) rfl ?_
          exact Hf.out
end Go.Proofs.Ytcoelhpmkhimpaa
