/- Contract: market.Run. -/
import Derived.Test.YtkbhmajcddmhnaaVGr5
import Derived.Test.YtkbhmajcddmhnaaVBound
namespace Go.Proofs.Ytkbhmajcddmhnaa
open Go.RowKit
set_option linter.unusedVariables false
set_option linter.unusedSimpArgs false

theorem index_any (a : Option Addr) (n cap : Nat) (l : List Int) (v : Int) (w : World) (hl : IntsAt .i64 w a n l) (hn : n ≤ 1000000) :
    Calls Try.prog 80 #[.slice a n cap, .int .i64 v] w fun e w' => e = .returned (.int .i64 (idxI (fun x => x == v) l)) ∧ Ext w w' := by
  have Hl := Lib.hid hl
  clear hl
  go_enter Try.func80, Try.ntmps80
  go_wp2_with fail
  go_loopw [8] (fun i wr => ∃ k : Nat, k ≤ n ∧ i = .int .i64 k ∧ Ext w wr ∧ ∀ (j : Nat) (x : Int), j < k → l[j]? = some x → (x == v) = false) (fun i _ => n - (intOf i).toNat)
  case atStart => exact ⟨0, Nat.zero_le _, rfl, Ext.refl _, fun j x h => by omega⟩
  case round =>
    obtain ⟨k, hk, rfl, hx, hall⟩ := hrel
    have Hall := Lib.hid hall
    clear hall
    by_cases hlt : k < n
    · obtain ⟨b, off, x, rfl, hxk, hb, e0⟩ := (Hl.out.ext hx).get k hlt
      have hlt' : decide ((k : Int) < (n : Int)) = true := by simp; omega
      have Hxk := Lib.hid hxk
      clear hxk
      by_cases hv : v = x
      · subst hv
        have Hx := Lib.hid hx
        clear hx
        go_wp2_with fail
        go_ret
        exact ⟨ret_int (idxI_some Hxk.out (by simp) Hall.out).symm, Hx.out⟩
      · have hvB : (v == x) = false := by simpa using hv
        have Hx := Lib.hid (And.intro hx (show (x == v) = false by simp; omega))
        clear hx
        go_wp2_with fail
        go_roundw
        case rel => exact ⟨k + 1, by omega, by go_num, Hx.out.1, fun j y hj hy => by
            rcases Nat.lt_or_ge j k with h | h
            · exact Hall.out j y h hy
            · have e : j = k := by omega
              subst e
              have := Hxk.out
              rw [hy] at this
              cases this
              exact Hx.out.2⟩
        case measure => simp [intOf]; omega
    · have hlt' : decide ((k : Int) < (n : Int)) = false := by simp; omega
      have Hx := Lib.hid hx
      clear hx
      go_wp2_with fail
      go_ret
      exact ⟨ret_int (idxI_none (fun j x hj => Hall.out j x (by have := (List.getElem?_eq_some_iff.1 hj).1; have := Hl.out.1; omega) hj)).symm, Hx.out⟩

theorem any_contains (l : List Int) (v : Int) : (l.any fun x => x == v) = l.contains v := by
  induction l with
  | nil => rfl
  | cons x l ih =>
    rw [List.any_cons, List.contains_cons, ih, Bool.beq_comm]

theorem contains_any (a : Option Addr) (n cap : Nat) (l : List Int) (v : Int) (w : World) (hl : IntsAt .i64 w a n l) (hn : n ≤ 1000000) :
    Calls Try.prog 52 #[.slice a n cap, .int .i64 v] w fun e w' => e = .returned (.bool (l.contains v)) ∧ Ext w w' := by
  have h := index_any a n cap l v w hl hn
  have hc : decide (0 ≤ idxI (fun x => x == v) l) = l.contains v := by
    rw [idxI_ge]
    exact any_contains l v
  obtain ⟨I, hI⟩ : ∃ I, idxI (fun x => x == v) l = I := ⟨_, rfl⟩
  rw [hI] at h hc
  have H := Lib.hid h
  have Hc := Lib.hid hc
  clear h hc hl hI
  go_enter Try.func52, Try.ntmps52
  go_wp2_with (go_at_call 80; refine H.out.mono ?_; rintro e w1 ⟨rfl, hx1⟩)
  go_ret
  exact ⟨ret_bool Hc.out, by assumption⟩

theorem results_tmp4 {fn : Func} {t u v x : Tmp} (h : fn.results = #[.tmp t, .tmp u, .tmp v, .tmp x]) (tmps : Array Value) (P : Program) (w : World) :
    (results fn tmps).run P w = .ok (.tuple #[tmps.getD t undef, tmps.getD u undef, tmps.getD v undef, tmps.getD x undef]) w := by
  simp [results, h]

theorem HeldAt.spans {w : World} {b : Nat} {held : List Span} (h : HeldAt w b held) : SpansAt w (some ⟨b, 0, none⟩) 5 held :=
  ⟨h.1, fun _ => ⟨b, 0, rfl, fun k hk => by
    obtain ⟨s, hs, c0, c1, _⟩ := h.get k hk
    intro j v hj
    simp only [List.getD, hs, Option.getD_some, Span.cells] at hj
    match j, hj with
    | 0, hj => simp at hj; subst hj; simpa using c0
    | 1, hj => simp at hj; subst hj; simpa using c1
    | j + 2, hj => simp at hj⟩⟩

/-- what a run tells -/
def RunPost (T : Told) (w : World) (e : Ending) (w' : World) : Prop :=
  ∃ ha hn hc la ln lc, e = .returned (.tuple #[.slice ha hn hc, .slice la ln lc, .int .i64 T.at_, .int .i64 T.err]) ∧ Ext w w' ∧ hn ≤ 1000 ∧ ln ≤ 1000 ∧ SpansAt w' ha hn T.held ∧ LossesAt w' la ln T.losses
theorem RunPost.bad {w w' : World} {i e : Int} (h : Ext w w') : RunPost ⟨[], [], i, e⟩ w (.returned (.tuple #[.slice none 0 0, .slice none 0 0, .int .i64 i, .int .i64 e])) w' :=
  ⟨none, 0, 0, none, 0, 0, rfl, h, by omega, by omega, ⟨rfl, fun h => by omega⟩, ⟨rfl, fun h => by omega⟩⟩

set_option maxRecDepth 100000 in
set_option maxHeartbeats 8000000 in
theorem run_any (a : Option Addr) (n cap : Nat) (l : List Offer) (fa : Option Addr) (fn fc : Nat) (fs : List Fair) (sa : Option Addr) (sn sc : Nat) (xs : List Int) (ba : Option Addr) (bn bc : Nat) (bs : List Barter) (w : World)
    (hl : OffersAt w a n l) (hf : FairsAt w fa fn fs) (hs : IntsAt .i64 w sa sn xs) (hp : BartersAt w ba bn bs) (hn : n ≤ 1000000) (hfn : fn ≤ 1000000) (hsn : sn ≤ 1000000) (hbn : bn ≤ 1000000) :
    Calls Try.prog 19 #[.slice a n cap, .slice fa fn fc, .slice sa sn sc, .slice ba bn bc] w (RunPost (runOf l fs xs bs) w) := by
  cases ho : offersOk l with
  | false =>
    have hb : runOf l fs xs bs = ⟨[], [], 0, 60⟩ := by unfold runOf checkOf; simp [ho]
    rw [hb]
    have htr := travel_offers a n cap l (.slice fa fn fc) w hl hn ho
    have Htr := Lib.hid htr
    clear hl hf hs hp ho htr hb
    go_enter Try.func19, Try.ntmps19
    go_wp2_with (go_at_call 46; refine Htr.out.mono ?_; rintro e w1 ⟨rfl, hx1⟩)
    refine bodyPost_ret (results_tmp4 rfl _ _ _) rfl ?_
    exact RunPost.bad (Ext.alloc (by assumption) _)
  | true =>
  cases ht : tripOk fs with
  | false =>
    have hb : runOf l fs xs bs = ⟨[], [], 0, 61⟩ := by unfold runOf checkOf; simp [ho, ht]
    rw [hb]
    have htr := travel_trip a n cap l fa fn fc fs w hl hf hfn ho ht
    have Htr := Lib.hid htr
    clear hl hf hs hp ho htr hb ht
    go_enter Try.func19, Try.ntmps19
    go_wp2_with (go_at_call 46; refine Htr.out.mono ?_; rintro e w1 ⟨rfl, hx1⟩)
    refine bodyPost_ret (results_tmp4 rfl _ _ _) rfl ?_
    exact RunPost.bad (Ext.alloc (by assumption) _)
  | true =>
  have hc0 : checkOf l fs = 0 := by unfold checkOf; simp [ho, ht]
  have htr := travel_ok a n cap l fa fn fc fs w hl hf ho ht
  have Htr := Lib.hid htr
  clear htr
  cases h1 : stocksOk xs with
  | false =>
    have hb : runOf l fs xs bs = ⟨[], [], 0, 2⟩ := by unfold runOf; rw [if_neg (by simp [hc0]), if_pos (by simp [h1])]
    rw [hb]
    have hst := fun W (hW : Ext w W) => filled_bad sa sn sc xs W (hs.ext hW) hsn h1
    have Hst := Lib.hid hst
    clear hst hb hl hf hs hp hc0 h1 ho ht
    go_enter Try.func19, Try.ntmps19
    go_wp2_with (first | (go_at_call 46; refine Htr.out.mono ?_; rintro e w1 ⟨mp, rfl, hx1, _⟩) | (go_at_call 47; refine (Hst.out _ (hx1.alloc _)).mono ?_; rintro e w2 ⟨rfl, hx2⟩))
    refine bodyPost_ret (results_tmp4 rfl _ _ _) rfl ?_
    exact RunPost.bad (((hx1.alloc _).trans hx2).alloc _)
  | true =>
  obtain ⟨hx5, hxb⟩ := stock_get h1
  obtain rfl : sn = 5 := by rw [← hs.1]; exact hx5
  obtain ⟨x0, x1, x2, x3, x4, rfl⟩ : ∃ x0 x1 x2 x3 x4, xs = [x0, x1, x2, x3, x4] := by
    match xs, hx5 with
    | [y0, y1, y2, y3, y4], _ => exact ⟨_, _, _, _, _, rfl⟩
  have hst := fun W (hW : Ext w W) => filled_ok sa sc x0 x1 x2 x3 x4 W (hs.ext hW) h1
  have Hst := Lib.hid hst
  clear hst
  have hbl := hp.1
  by_cases h60 : 60 < bn
  · have hb : runOf l fs [x0, x1, x2, x3, x4] bs = ⟨[], [], 0, 4⟩ := by unfold runOf; rw [if_neg (by simp [hc0]), if_neg (by simp [h1]), if_pos (by omega)]
    rw [hb]
    have h60' : decide ((60 : Int) < (bn : Int)) = true := by simp; omega
    clear hb hl hf hs hp hc0 h1 ho ht hxb hbl
    go_enter Try.func19, Try.ntmps19
    go_wp2_with (first | (go_at_call 46; refine Htr.out.mono ?_; rintro e w1 ⟨mp, rfl, hx1, _⟩) | (go_at_call 47; refine (Hst.out _ (hx1.alloc _)).mono ?_; rintro e w2 ⟨rfl, hx2⟩))
    refine bodyPost_ret (results_tmp4 rfl _ _ _) rfl ?_
    exact RunPost.bad (((hx1.alloc _).trans hx2).alloc _)
  have h60' : decide ((60 : Int) < (bn : Int)) = false := by simp; omega
  have hr1 := fun e h => runOf_inl (bs := bs) hc0 h1 (by omega) (e := e) h
  have hr2 := fun q h => runOf_inr (bs := bs) hc0 h1 (by omega) (s := q) h
  have Hr1 := Lib.hid hr1
  have Hr2 := Lib.hid hr2
  have hlen := trip_len ht
  have hfl := hf.1
  have hnl := hl.1
  have hol := offers_len ho
  have hsok := start_ok (fs := fs) ht h1
  have Hl := Lib.hid hl
  have Hf := Lib.hid hf
  have Hp := Lib.hid hp
  have Ho := Lib.hid ho
  have Ht := Lib.hid ht
  have Hfl := Lib.hid hfl
  have Hnl := Lib.hid hnl
  have Hbl := Lib.hid hbl
  have Hsok := Lib.hid hsok
  have hn10 : n ≤ 10 := by omega
  have hfn5 : fn ≤ 5 := by omega
  have hfn1 : 1 ≤ fn := by omega
  clear hr1 hr2 hl hf hs hp hc0 h1 ho ht hxb hbl hlen hfl hnl hol hsok hx5
  go_enter Try.func19, Try.ntmps19
  go_wp2_with (first | (go_at_call 46; refine Htr.out.mono ?_; rintro e w1 ⟨mp, rfl, hx1, hm1⟩; have Hm1 := Lib.hid hm1; clear hm1) | (go_at_call 47; refine (Hst.out _ (hx1.alloc _)).mono ?_; rintro e w2 ⟨rfl, hx2⟩; have hb2 := hx2.heap (heap_alloc_new w1 _)))
  have hxw : Ext w w2 := (hx1.alloc _).trans hx2
  have hmw : MarketAt w.heap.size w2 mp a n cap l := Hm1.out.ext (((Ext.refl _).alloc _).trans hx2)
  have Hxw := Lib.hid hxw
  have Hmw := Lib.hid hmw
  have Hb2 := Lib.hid hb2
  have hw12 : w1.heap.size < w2.heap.size := (Array.getElem?_eq_some_iff.1 hb2).1
  clear hxw hmw hb2 hx1 hx2 Hm1
  go_loopw [9, 15, 42] (fun v nw i wr => ∃ (k : Nat) (s : RS), k ≤ bn ∧ i = .int .i64 k ∧ nw = .int .i64 s.now ∧ runTo l fs [x0, x1, x2, x3, x4] bs k = .inr s ∧ s.Ok fs ∧ Ext w2 wr ∧ HeldAt wr w2.heap.size s.held ∧ Owns wr (w2.heap.size + 1) 73 4 v (lossRows s.losses)) (fun _ _ i _ => bn - (intOf i).toNat)
  case atStart =>
    refine ⟨0, startOf [x0, x1, x2, x3, x4], Nat.zero_le _, rfl, rfl, rfl, Hsok.out, (Ext.refl _).alloc _, ⟨rfl, _, _, heap_alloc_new w2 _, ?_⟩, Owns.nil _ _ _ _⟩
    intro g s hs
    have hg : g < 5 := by have := (List.getElem?_eq_some_iff.1 hs).1; simpa [startOf] using this
    have h5 : g = 0 ∨ g = 1 ∨ g = 2 ∨ g = 3 ∨ g = 4 := by omega
    rcases h5 with rfl | rfl | rfl | rfl | rfl <;> simp [startOf] at hs <;> subst hs <;> exact ⟨rfl, rfl⟩
  case round =>
    obtain ⟨k, s, hk, rfl, rfl, hrt, hok, hx, hheld, hown⟩ := hrel
    have Hrt := Lib.hid hrt
    have Hok := Lib.hid hok
    have Hheld := Lib.hid hheld
    have Hown := Lib.hid hown
    clear hrt hok hheld hown
    by_cases hlt : k < bn
    · obtain ⟨bb, bo, b, rfl, hbk, hbb, c0, c1, c2⟩ := (Hp.out.ext (Hxw.out.trans hx)).get k hlt
      have hlt' : decide ((k : Int) < (bn : Int)) = true := by simp; omega
      have Hbk := Lib.hid hbk
      have Hx := Lib.hid hx
      have hszx := hx.size
      clear hbk hx
      have hin := fun W => in_ext b.fair s.now ((fn : Int) - 1) W
      have hit := fun W => in_ext b.times 1 1000000000000000 W
      go_wp2_with fail
      have hbx : (wr.alloc (.cells #[.int .i64 b.fair, .int .i64 b.offer, .int .i64 b.times] 46)).heap[wr.heap.size]? = some (.cells #[.int .i64 b.fair, .int .i64 b.offer, .int .i64 b.times] 46 (0, 0)) := heap_alloc_new _ _
      have hx0 : Ext wr (wr.alloc (.cells #[.int .i64 b.fair, .int .i64 b.offer, .int .i64 b.times] 46)) := (Ext.refl _).alloc _
      generalize wr.alloc (.cells #[.int .i64 b.fair, .int .i64 b.offer, .int .i64 b.times] 46) = W0 at *
      have Hbx := Lib.hid hbx
      have Hx0 := Lib.hid hx0
      have hb2 := hx0.heap (Hx.out.heap Hb2.out)
      have Hb2' := Lib.hid hb2
      clear hbx hx0 hb2 c0 c1 c2
      cases hA : inB b.fair s.now ((fn : Int) - 1) with
      | false =>
        have hbad : stepOf l fs s b = .inl 62 := by
          unfold stepOf barterBad
          rw [if_pos]
          rw [Hfl.out, hA]
          rfl
        have hres := Hr1.out _ (runTo_stop Hrt.out Hbk.out hbad)
        have Hres := Lib.hid hres
        rw [hA] at hin
        have Hin := Lib.hid hin
        clear hin hit hbad hres hA
        refine wp_region_tree (.take [0, 1, 2, 3, 4, 5] (.one 6 (.take [7, 8, 9, 10, 11, 13, 14] (.one 12 (.one 15 (.take [16, 17, 18, 19, 20] (.one 21 (.take [22, 23] .done)))))))) (Ext W0) _ (by kernel_rfl) (by kernel_rfl) rfl (Ext.refl _).drew ?_
        intro ι _ f hf hs
        have f0 := fun q => ((hf q).box Hbx.out).1
        have f1 := fun q => ((hf q).box Hb2'.out).1
        have HS := Lib.hid hs
        clear hf hs
        simp only [treeOf, oneOp, twoOp, opsOf, consOp, List.getElem?_toArray, List.getElem?_cons_succ, List.getElem?_cons_zero]
        refine wpOT_take ?_
        repeat (go_big_quiet_step (fail))
        refine wpQuiet_nil ?_
        refine wpOT_one ?_
        go_wp2_with (go_at_call 51; refine (Hin.out _).mono ?_; rintro e w' ⟨rfl, hxa⟩)
        have hxa' : Ext W0 w' := (Ext.refl _).drew.trans hxa
        refine ⟨HS.out _ hxa', ?_⟩
        refine wpOT_take ?_
        repeat (go_big_quiet_step (fail))
        refine wpQuiet_nil ?_
        refine wpOT_one ?_
        go_wp2_with fail
        refine ⟨HS.out _ hxa', ?_⟩
        refine wpOT_one ?_
        go_wp2_with fail
        refine ⟨HS.out _ hxa', ?_⟩
        refine wpOT_take ?_
        repeat (go_big_quiet_step (fail))
        refine wpQuiet_nil ?_
        refine wpOT_one ?_
        go_wp2_with fail
        refine ⟨HS.out _ hxa', ?_⟩
        refine wpOT_take ?_
        repeat (go_big_quiet_step (fail))
        refine wpQuiet_nil ?_
        refine wpOT_done ?_
        clear f0 f1 HS
        go_wp2_with fail
        refine bodyPost_ret (results_tmp4 rfl _ _ _) rfl ?_
        rw [Hres.out]
        exact RunPost.bad (Hxw.out.trans (Hx.out.trans (Hx0.out.trans hxa')))
      | true =>
        have hAb : (s.now : Int) ≤ b.fair ∧ b.fair ≤ (fn : Int) - 1 := by simpa [inB] using hA
        obtain ⟨fi, hfi⟩ : ∃ fi : Nat, b.fair = fi := ⟨b.fair.toNat, by omega⟩
        obtain ⟨x, hxf⟩ : ∃ x, fs[fi]? = some x := ⟨_, List.getElem?_eq_getElem (by have := Hfl.out; omega)⟩
        have hfifn : fi < fn := by omega
        have hnowfi : s.now ≤ fi := by omega
        have hhere := fun W (hW : Ext w2 W) => here_any mp a n cap l fa fn fc fs fi x W (Hl.out.ext (Hxw.out.trans hW)) hn10 w.heap.size (Hmw.out.ext hW) (Hf.out.ext (Hxw.out.trans hW)) (by omega) hxf
        have hcon := contains_here l x b.offer
        have hbo : offerOpen l (fs.getD b.fair.toNat ⟨0, 0, []⟩) b.offer = offerOpen l x b.offer := by
          rw [hfi, Int.toNat_natCast]; simp [List.getD, hxf]
        have hLl := hereOf_len l x.place x.day
        rw [hfi] at hin hA
        rw [hA] at hin
        have Hin := Lib.hid hin
        have Hhere := Lib.hid hhere
        have Hxf := Lib.hid hxf
        have Hbo := Lib.hid hbo
        have HA := Lib.hid hA
        clear hin hhere hxf hbo hA
        obtain ⟨L, hL⟩ : ∃ L, hereOf l x.place x.day = L := ⟨_, rfl⟩
        have hw2r := Hx.out.trans Hx0.out
        have Hw2r := Lib.hid hw2r
        have hL10 : L.length ≤ 10 := by rw [← hL]; have := Hnl.out; omega
        rw [hL] at hcon Hhere
        clear hL hLl hw2r
        obtain ⟨bf0, bo0, bt0⟩ := b
        simp only at hfi hit hcon Hbx Hbo Hbk hAb
        subst hfi
        cases hop : offerOpen l x bo0 with
        | false =>
          have hbad : stepOf l fs s ⟨fi, bo0, bt0⟩ = .inl 62 := by
            unfold stepOf barterBad
            rw [if_pos]
            rw [Hbo.out, hop]
            simp
          have hres := Hr1.out _ (runTo_stop Hrt.out Hbk.out hbad)
          have Hres := Lib.hid hres
          rw [hop] at hcon
          have Hcon := Lib.hid hcon
          clear hcon hbad hres hop hit
          refine wp_region_tree (.take [0, 1, 2, 3, 4, 5] (.one 6 (.take [7, 8, 9, 10, 11, 13, 14] (.one 12 (.one 15 (.take [16, 17, 18, 19, 20] (.one 21 (.take [22, 23] .done)))))))) (Ext W0) _ (by kernel_rfl) (by kernel_rfl) rfl (Ext.refl _).drew ?_
          intro ι _ f hf hs
          have f0 := fun q => ((hf q).box Hbx.out).1
          have f1 := fun q => ((hf q).box Hb2'.out).1
          have HS := Lib.hid hs
          clear hf hs
          simp only [treeOf, oneOp, twoOp, opsOf, consOp, List.getElem?_toArray, List.getElem?_cons_succ, List.getElem?_cons_zero]
          refine wpOT_take ?_
          repeat (go_big_quiet_step (fail))
          refine wpQuiet_nil ?_
          refine wpOT_one ?_
          go_wp2_with (go_at_call 51; refine (Hin.out _).mono ?_; rintro e w3 ⟨rfl, hxa⟩)
          have hxa' : Ext W0 w3 := (Ext.refl _).drew.trans hxa
          refine ⟨HS.out _ hxa', ?_⟩
          refine wpOT_take ?_
          repeat (go_big_quiet_step (fail))
          refine wpQuiet_nil ?_
          refine wpOT_one ?_
          go_wp2_with (go_at_call 53; refine (Hhere.out _ (Hw2r.out.trans hxa')).mono ?_; rintro e w4 ⟨a2, n2, k2, rfl, hxb, _, hnk2, hkm2, hi2⟩; obtain ⟨rfl⟩ : L.length = n2 := hi2.1)
          have hxb' : Ext W0 w4 := hxa'.trans hxb
          have Hi2 := Lib.hid hi2
          clear hi2
          refine ⟨HS.out _ hxb', ?_⟩
          refine wpOT_one ?_
          go_wp2_with (go_at_call 52; refine (contains_any a2 L.length k2 L bo0 _ Hi2.out (by omega)).mono ?_; rintro e w5 ⟨he5, hxc⟩; rw [Hcon.out] at he5; subst he5)
          have hxc' : Ext W0 w5 := hxb'.trans hxc
          refine ⟨HS.out _ hxc', ?_⟩
          refine wpOT_take ?_
          repeat (go_big_quiet_step (fail))
          refine wpQuiet_nil ?_
          refine wpOT_one ?_
          go_wp2_with fail
          have hxd' := hxc'
          refine ⟨HS.out _ hxd', ?_⟩
          refine wpOT_take ?_
          repeat (go_big_quiet_step (fail))
          refine wpQuiet_nil ?_
          refine wpOT_done ?_
          clear f0 f1 HS
          go_wp2_with fail
          refine bodyPost_ret (results_tmp4 rfl _ _ _) rfl ?_
          rw [Hres.out]
          exact RunPost.bad (Hxw.out.trans (Hw2r.out.trans hxd'))
        | true =>
          cases htm : inB bt0 1 1000000000000000 with
          | false =>
            have hbad : stepOf l fs s ⟨fi, bo0, bt0⟩ = .inl 62 := by
              unfold stepOf barterBad
              rw [if_pos]
              simp [htm]
            have hres := Hr1.out _ (runTo_stop Hrt.out Hbk.out hbad)
            have Hres := Lib.hid hres
            rw [hop] at hcon
            have Hcon := Lib.hid hcon
            rw [htm] at hit
            have Hit := Lib.hid hit
            clear hcon hbad hres hop hit htm
            refine wp_region_tree (.take [0, 1, 2, 3, 4, 5] (.one 6 (.take [7, 8, 9, 10, 11, 13, 14] (.one 12 (.one 15 (.take [16, 17, 18, 19, 20] (.one 21 (.take [22, 23] .done)))))))) (Ext W0) _ (by kernel_rfl) (by kernel_rfl) rfl (Ext.refl _).drew ?_
            intro ι _ f hf hs
            have f0 := fun q => ((hf q).box Hbx.out).1
            have f1 := fun q => ((hf q).box Hb2'.out).1
            have HS := Lib.hid hs
            clear hf hs
            simp only [treeOf, oneOp, twoOp, opsOf, consOp, List.getElem?_toArray, List.getElem?_cons_succ, List.getElem?_cons_zero]
            refine wpOT_take ?_
            repeat (go_big_quiet_step (fail))
            refine wpQuiet_nil ?_
            refine wpOT_one ?_
            go_wp2_with (go_at_call 51; refine (Hin.out _).mono ?_; rintro e w3 ⟨rfl, hxa⟩)
            have hxa' : Ext W0 w3 := (Ext.refl _).drew.trans hxa
            refine ⟨HS.out _ hxa', ?_⟩
            refine wpOT_take ?_
            repeat (go_big_quiet_step (fail))
            refine wpQuiet_nil ?_
            refine wpOT_one ?_
            go_wp2_with (go_at_call 53; refine (Hhere.out _ (Hw2r.out.trans hxa')).mono ?_; rintro e w4 ⟨a2, n2, k2, rfl, hxb, _, hnk2, hkm2, hi2⟩; obtain ⟨rfl⟩ : L.length = n2 := hi2.1)
            have hxb' : Ext W0 w4 := hxa'.trans hxb
            have Hi2 := Lib.hid hi2
            clear hi2
            refine ⟨HS.out _ hxb', ?_⟩
            refine wpOT_one ?_
            go_wp2_with (go_at_call 52; refine (contains_any a2 L.length k2 L bo0 _ Hi2.out (by omega)).mono ?_; rintro e w5 ⟨he5, hxc⟩; rw [Hcon.out] at he5; subst he5)
            have hxc' : Ext W0 w5 := hxb'.trans hxc
            refine ⟨HS.out _ hxc', ?_⟩
            refine wpOT_take ?_
            repeat (go_big_quiet_step (fail))
            refine wpQuiet_nil ?_
            refine wpOT_one ?_
            go_wp2_with (go_at_call 51; refine (Hit.out _).mono ?_; rintro e w6 ⟨rfl, hxd⟩)
            have hxd' : Ext W0 w6 := hxc'.trans hxd
            refine ⟨HS.out _ hxd', ?_⟩
            refine wpOT_take ?_
            repeat (go_big_quiet_step (fail))
            refine wpQuiet_nil ?_
            refine wpOT_done ?_
            clear f0 f1 HS
            go_wp2_with fail
            refine bodyPost_ret (results_tmp4 rfl _ _ _) rfl ?_
            rw [Hres.out]
            exact RunPost.bad (Hxw.out.trans (Hw2r.out.trans hxd'))
          | true =>
            have hgood : barterBad l fs s.now ⟨fi, bo0, bt0⟩ = false := by
              unfold barterBad
              rw [Hbo.out, hop, htm, Hfl.out, HA.out]
              rfl
            have Hgood := Lib.hid hgood
            rw [hop] at hcon
            have Hcon := Lib.hid hcon
            rw [htm] at hit
            have Hit := Lib.hid hit
            clear hcon hgood hop hit htm
            refine wp_region_tree (.take [0, 1, 2, 3, 4, 5] (.one 6 (.take [7, 8, 9, 10, 11, 13, 14] (.one 12 (.one 15 (.take [16, 17, 18, 19, 20] (.one 21 (.take [22, 23] .done)))))))) (Ext W0) _ (by kernel_rfl) (by kernel_rfl) rfl (Ext.refl _).drew ?_
            intro ι _ f hf hs
            have f0 := fun q => ((hf q).box Hbx.out).1
            have f1 := fun q => ((hf q).box Hb2'.out).1
            have HS := Lib.hid hs
            clear hf hs
            simp only [treeOf, oneOp, twoOp, opsOf, consOp, List.getElem?_toArray, List.getElem?_cons_succ, List.getElem?_cons_zero]
            refine wpOT_take ?_
            repeat (go_big_quiet_step (fail))
            refine wpQuiet_nil ?_
            refine wpOT_one ?_
            go_wp2_with (go_at_call 51; refine (Hin.out _).mono ?_; rintro e w3 ⟨rfl, hxa⟩)
            have hxa' : Ext W0 w3 := (Ext.refl _).drew.trans hxa
            refine ⟨HS.out _ hxa', ?_⟩
            refine wpOT_take ?_
            repeat (go_big_quiet_step (fail))
            refine wpQuiet_nil ?_
            refine wpOT_one ?_
            go_wp2_with (go_at_call 53; refine (Hhere.out _ (Hw2r.out.trans hxa')).mono ?_; rintro e w4 ⟨a2, n2, k2, rfl, hxb, _, hnk2, hkm2, hi2⟩; obtain ⟨rfl⟩ : L.length = n2 := hi2.1)
            have hxb' : Ext W0 w4 := hxa'.trans hxb
            have Hi2 := Lib.hid hi2
            clear hi2
            refine ⟨HS.out _ hxb', ?_⟩
            refine wpOT_one ?_
            go_wp2_with (go_at_call 52; refine (contains_any a2 L.length k2 L bo0 _ Hi2.out (by omega)).mono ?_; rintro e w5 ⟨he5, hxc⟩; rw [Hcon.out] at he5; subst he5)
            have hxc' : Ext W0 w5 := hxb'.trans hxc
            refine ⟨HS.out _ hxc', ?_⟩
            refine wpOT_take ?_
            repeat (go_big_quiet_step (fail))
            refine wpQuiet_nil ?_
            refine wpOT_one ?_
            go_wp2_with (go_at_call 51; refine (Hit.out _).mono ?_; rintro e w6 ⟨rfl, hxd⟩)
            have hxd' : Ext W0 w6 := hxc'.trans hxd
            refine ⟨HS.out _ hxd', ?_⟩
            refine wpOT_take ?_
            repeat (go_big_quiet_step (fail))
            refine wpQuiet_nil ?_
            refine wpOT_done ?_
            clear f0 f1 HS
            have hpb : w2.heap.size < wr.heap.size := Hheld.out.lt
            have hpne : wr.heap.size ≠ w2.heap.size := by omega
            have hx26 : Ext w2 w6 := Hw2r.out.trans hxd'
            have hb6 : w6.heap[wr.heap.size]? = some (.cells #[.int .i64 fi, .int .i64 bo0, .int .i64 bt0] 46 (0, 0)) := hxd'.heap Hbx.out
            have hh6 : HeldAt w6 w2.heap.size s.held := Hheld.out.ext (Hx0.out.trans hxd')
            have ho6 := Hown.out.ext (Hx0.out.trans hxd')
            have hnob : u9.ownBlock ≠ some wr.heap.size := fun e => by have := (Hown.out.lt _ e).2; omega
            have Hnob := Lib.hid hnob
            clear hnob
            have Hx26 := Lib.hid hx26
            have Hb6 := Lib.hid hb6
            have H6 := Lib.hid (And.intro hh6 ho6)
            have hs6 := hxd'.size
            clear hx26 hb6 hh6 ho6 hxa hxa' hxb hxb' hxc hxc' hxd hxd' Hi2 Hw2r hnk2 hkm2
            have hfl1 : fi + 1 ≤ fs.length := by have := Hfl.out; omega
            have hpb6 : w2.heap.size < w6.heap.size := H6.out.1.lt
            obtain ⟨Wr, hWr⟩ : ∃ W : World, W = wr := ⟨_, rfl⟩
            subst hWr
            go_wp2_with fail
            go_loopw [9, 15] (fun v nw wi => ∃ j : Nat, s.now + j ≤ fi ∧ nw = .int .i64 ((s.now + j : Nat) : Int) ∧ Ext w2 wi ∧ wi.heap[Wr.heap.size]? = some (.cells #[.int .i64 fi, .int .i64 bo0, .int .i64 bt0] 46 (0, 0)) ∧ v.ownBlock ≠ some Wr.heap.size ∧ HeldAt wi w2.heap.size (s.go fs j).held ∧ Owns wi (w2.heap.size + 1) 73 4 v (lossRows (s.go fs j).losses)) (fun _ nw _ => fi - (intOf nw).toNat)
            case atStart => exact ⟨0, by omega, rfl, Hx26.out, Hb6.out, Hnob.out, H6.out.1, H6.out.2⟩
            case' round =>
              obtain ⟨j, hj, rfl, hxi, hbxi, hnbi, hhj, hoj⟩ := hrel
              have hokj := Hok.out.go Ht.out j (by omega)
              obtain ⟨bxc, bxf⟩ := (Ext.refl wr).box hbxi
              have hbxl : Wr.heap.size < wr.heap.size := (Array.getElem?_eq_some_iff.1 hbxi).1
              have Hbxi := Lib.hid hbxi
              have Hnbi := Lib.hid hnbi
              have Hhj := Lib.hid hhj
              have Hoj := Lib.hid hoj
              have Hokj := Lib.hid hokj
              have Hnow := Lib.hid (RS.go_now fs s j)
              clear hhj hoj hokj hbxi hnbi
              obtain ⟨m, hm⟩ : ∃ m, s.now + j = m := ⟨_, rfl⟩
              rw [hm] at hj Hnow
              rw [hm]
              have Hm := Lib.hid hm
              clear hm
              by_cases hjl : m < fi
              · obtain ⟨bf, off, y, ka', kn', kc', rfl, hy, hbf, d0', d1', d2', _, _, d3'⟩ := (Hf.out.ext Hxw.out).get m (by omega)
                have d0 := hxi.cell d0'
                have d1 := hxi.cell d1'
                have d2 := hxi.cell d2'
                have d3 := d3'.ext hxi
                have hyk := (fair_bounds Ht.out hy)
                obtain rfl : kn' = 5 := by rw [← d3.1]; exact hyk.1
                have hkeq : keepsOf fs m = y.keeps := by simp [keepsOf, List.getD, hy]
                have hkab : ∀ z, ka' = some z → z.block ≠ w2.heap.size := fun z hz => by
                  obtain ⟨_, _, _, e, _, h, _⟩ := d3'.get 0 (by omega)
                  rw [hz] at e
                  cases e
                  simp only
                  omega
                have hroad := road_any w2.heap.size m y.place y.day ka' kc' (s.go fs j).held y.keeps wr Hhj.out d3 hkab Hokj.out.1 ⟨hyk.1, hyk.2.2.2.2.2⟩
                have Hroad := Lib.hid hroad
                have hstep : s.go fs (j + 1) = ⟨roadTo (s.go fs j).held y.keeps 5, (s.go fs j).losses ++ roadLosses m (s.go fs j).held y.keeps 5, m + 1⟩ := by
                  have h1 := Hnow.out
                  simp only [RS.go, RS.step, h1, hkeq]
                have Hstep := Lib.hid hstep
                have hlj := Hokj.out.2.2
                have hrl5 := roadLosses_len m (s.go fs j).held y.keeps 5
                have hnowj := Hnow.out
                have hxiw := hxi.size
                have Hxi := Lib.hid hxi
                have hml : decide ((m : Int) < (fi : Int)) = true := by simp; omega
                have hm5 : m ≤ 5 := by omega
                have hll : (s.go fs j).losses.length ≤ 25 := by rw [hnowj] at hlj; omega
                clear hroad hstep hyk hkeq hkab d3 d3' hy d0' d1' d2' hlj hnowj hxi
                go_wp2_with (first | (go_at_call 54; refine Hroad.out.mono ?_; rintro e w7 ⟨al, nl, cl, rfl, hox, hfr, hlc, hlm, hls, hh7⟩; have Ho7 := Lib.hid (Hoj.out.only hox (by omega)); have Hls := Lib.hid hls; have Hh7 := Lib.hid hh7; have Hox := Lib.hid hox; have hsz7 := hox.size; clear hls hh7 hox) | (at_builtin; refine wpList_app elem36 _ rfl (.tmp 78) (.tmp 84) rfl (w2.heap.size + 1) _ _ rfl Ho7.out al nl cl (lossRows (roadLosses m (s.go fs j).held y.keeps 5)) rfl ?_ Hls.out.src (lossRows_row _) ?_ ?_ ?_))
                · have := Hls.out.1; simpa [lossRows] using this
                · have := Hls.out.1; simp only [lossRows, List.length_map]; omega
                · omega
                · intro v' w8 ho8 hg8 hob
                  have hx7 : Ext w2 w7 := Hxi.out.only_trans Hox.out (Nat.le_refl _)
                  have hx8 : Ext w2 w8 := Below.grown hx7 hg8 hx7.size (fun q hq => by have := (Ho7.out.lt q hq).1; omega)
                  have hh8 := Hh7.out.app Ho7.out hg8 (Nat.lt_succ_self _)
                  have hbx7 := Hox.out.heap Hbxi.out hpne
                  have hbx8 : w8.heap[Wr.heap.size]? = some (.cells #[.int .i64 fi, .int .i64 bo0, .int .i64 bt0] 46 (0, 0)) := (hg8.block _ (by omega) (fun e => Hnbi.out e.symm)).trans hbx7
                  have hnb8 : v'.ownBlock ≠ some Wr.heap.size := by
                    rcases hob with e | e
                    · rw [e]; exact Hnbi.out
                    · rw [e]; intro e'; have := Option.some.inj e'; omega
                  have Hx8 := Lib.hid (And.intro hx8 (And.intro hbx8 (And.intro hnb8 (And.intro hh8 ho8))))
                  clear bxc bxf d0 d1 d2 hx7 hx8 hh8 hbx7 hbx8 hnb8 ho8 hg8 hob
                  go_wp2_with fail
                  go_roundw
                  case rel =>
                    refine ⟨j + 1, by have := Hm.out; omega, by have := Hm.out; rw [← this]; go_num, Hx8.out.1, Hx8.out.2.1, Hx8.out.2.2.1, ?_, ?_⟩
                    · rw [Hstep.out]; exact Hx8.out.2.2.2.1
                    · rw [Hstep.out]; simp only [lossRows_append]; exact Hx8.out.2.2.2.2
                  case measure => simp [intOf]; omega
              · have hml : decide ((m : Int) < (fi : Int)) = false := by simp; omega
                obtain rfl : m = fi := by omega
                have hto : s.to fs m = s.go fs j := by
                  have := Hm.out
                  unfold RS.to
                  rw [show m - s.now = j by omega]
                obtain ⟨_, jo, _, o, _, _, _, _, hjo, ho, _, ht1, ht2⟩ := bad_false (by omega) Hgood.out
                simp only at hjo ht1 ht2
                subst hjo
                obtain ⟨ob, oo, o', rfl, ho', hob, e0, e1, e2, e3, e4, e5, e6, e7⟩ := (Hl.out.ext Hxw.out).get jo (by have := getElem?_lt ho; have := Hnl.out; omega)
                obtain rfl : o = o' := by rw [ho] at ho'; cases ho'; rfl
                have hjn : jo < n := by have := getElem?_lt ho; have := Hnl.out; omega
                have hva : o.valid = true := by
                  have := Ho.out
                  simp only [offersOk, Bool.and_eq_true] at this
                  exact List.all_eq_true.1 this.2 o (List.mem_of_getElem? ho)
                have hoat : offerAt l (jo : Int) = o := by simp [offerAt, List.getD, ho]
                obtain ⟨gi, ge, hgi, hge, hgi5, hge5, hgne, hu1, hu2, hlo1, hlo2, hhi, _⟩ := offer_bounds Ho.out ho
                have hoff : Hid (stepOf l fs s ⟨m, jo, bt0⟩ = if barterErr (s.go fs j).held o bt0 ≠ 0 then .inl (barterErr (s.go fs j).held o bt0) else .inr ⟨barterHeld (s.go fs j).held o bt0, (s.go fs j).losses, (s.go fs j).now⟩) := Lib.hid (by
                  unfold stepOf
                  rw [Hgood.out, if_neg (by simp)]
                  simp only [Int.toNat_natCast]
                  rw [hto, hoat])
                have Hva := Lib.hid hva
                obtain ⟨pl, og, oe, un, lo, hi, fr, to⟩ := o
                simp only at hgi hge e0 e1 e2 e3 e4 e5 e6 e7 hu1 hu2 hlo1 hlo2 hhi
                subst hgi hge
                have hbt := barter_any w2.heap.size (s.go fs j).held pl lo hi fr to bt0 un gi ge wr.drew (Hhj.out.ext (Ext.refl _).drew) Hokj.out.1 hgi5 hge5 (fun h => hgne (by rw [h])) hu1 hu2 hlo1 hlo2 hhi ht1 ht2
                have Hbt := Lib.hid hbt
                have Hxi := Lib.hid hxi
                have hobne : ob ≠ w2.heap.size := by omega
                have q0 := hxi.cell e0
                have q1 := hxi.cell e1
                have q2 := hxi.cell e2
                have q3 := hxi.cell e3
                have q4 := hxi.cell e4
                have q5 := hxi.cell e5
                have q6 := hxi.cell e6
                have q7 := hxi.cell e7
                clear hbt hoat hva ho ho' hto hxi e0 e1 e2 e3 e4 e5 e6 e7
                obtain ⟨E, hE⟩ : ∃ E, barterErr (s.go fs j).held ⟨pl, gi, ge, un, lo, hi, fr, to⟩ bt0 = E := ⟨_, rfl⟩
                unfold BarterPost at Hbt
                rw [hE] at Hbt hoff
                have HE := Lib.hid hE
                clear hE
                go_wp2_with fail
                refine wp_region_tree (.take [0, 1, 2, 3, 4, 5, 6] (.one 7 (.take [8] .done))) (Only w2.heap.size wr) _ (by kernel_rfl) (by kernel_rfl) rfl (Only.refl _ _).drew ?_
                intro ι _ f hf hs
                have f0 := fun q => ((hf q).box Hbxi.out hpne).1
                have r0 := fun q => (hf q).cell q0 hobne
                have r1 := fun q => (hf q).cell q1 hobne
                have r2 := fun q => (hf q).cell q2 hobne
                have r3 := fun q => (hf q).cell q3 hobne
                have r4 := fun q => (hf q).cell q4 hobne
                have r5 := fun q => (hf q).cell q5 hobne
                have r6 := fun q => (hf q).cell q6 hobne
                have r7 := fun q => (hf q).cell q7 hobne
                have HS := Lib.hid hs
                clear hf hs
                simp only [treeOf, oneOp, twoOp, opsOf, consOp, List.getElem?_toArray, List.getElem?_cons_succ, List.getElem?_cons_zero]
                refine wpOT_take ?_
                repeat (go_big_quiet_step (fail))
                refine wpQuiet_nil ?_
                clear f0 r0 r1 r2 r3 r4 r5 r6 r7
                refine wpOT_one ?_
                go_wp2_with (go_at_call 55; refine Hbt.out.mono ?_; rintro e w7 ⟨rfl, hoy, hzero⟩)
                have hoy' : Only w2.heap.size wr w7 := ((Only.refl _ _).drew).trans hoy
                have Hzero := Lib.hid hzero
                have Hoy := Lib.hid hoy'
                clear hzero hoy
                refine ⟨HS.out _ hoy', ?_⟩
                refine wpOT_take ?_
                repeat (go_big_quiet_step (fail))
                refine wpQuiet_nil ?_
                refine wpOT_done ?_
                clear HS hoy' q0 q1 q2 q3 q4 q5 q6 q7 bxc bxf
                have hx7 : Ext w2 w7 := Hxi.out.only_trans Hoy.out (Nat.le_refl _)
                have Hx7 := Lib.hid hx7
                clear hx7
                by_cases hE0 : E = 0
                · subst hE0
                  have hst := hoff.out
                  rw [if_neg (by simp)] at hst
                  have hnext := runTo_next Hrt.out Hbk.out hst
                  have Hnext := Lib.hid hnext
                  clear hst hnext hoff
                  go_wp2_with fail
                  go_roundw
                  case rel =>
                    refine ⟨k + 1, _, by omega, by go_num, by rw [Hnow.out]; congr 1; omega, Hnext.out, RS.Ok.barter (l := l) Hokj.out Hva.out ht1 HE.out, Hx7.out, Hzero.out rfl, Hoj.out.only Hoy.out (Nat.lt_succ_self _)⟩
                  case measure => simp [intOf]; omega
                · have hEB : (E != 0) = true := by rw [bne_iff_ne]; exact hE0
                  have hst := hoff.out
                  rw [if_pos hE0] at hst
                  have hres := Hr1.out _ (runTo_stop Hrt.out Hbk.out hst)
                  have Hres := Lib.hid hres
                  clear hst hres hoff hE0
                  go_wp2_with fail
                  refine bodyPost_ret (results_tmp4 rfl _ _ _) rfl ?_
                  rw [Hres.out]
                  exact RunPost.bad (Hxw.out.trans Hx7.out)
    · obtain rfl : k = bn := by omega
      have hlt' : decide ((k : Int) < (k : Int)) = false := by simp
      have hpb : w2.heap.size < wr.heap.size := Hheld.out.lt
      have hfin := Hr2.out s (by rw [Hbl.out]; exact Hrt.out)
      have Hfin := Lib.hid hfin
      have hnow := Hok.out.2.1
      rw [Hfl.out] at hnow
      obtain ⟨Wr, hWr⟩ : ∃ W : World, W = wr := ⟨_, rfl⟩
      subst hWr
      have Hx := Lib.hid hx
      clear hfin hx
      go_wp2_with fail
      have hh6 := Hheld.out
      go_loopw [9, 15] (fun v nw wi => ∃ j : Nat, s.now + j ≤ fn - 1 ∧ nw = .int .i64 ((s.now + j : Nat) : Int) ∧ Ext w2 wi ∧ HeldAt wi w2.heap.size (s.go fs j).held ∧ Owns wi (w2.heap.size + 1) 73 4 v (lossRows (s.go fs j).losses)) (fun _ nw _ => fn - (intOf nw).toNat)
      case atStart => exact ⟨0, by omega, rfl, Hx.out, Hheld.out, Hown.out⟩
      case round =>
        obtain ⟨j, hj, rfl, hxi, hhj, hoj⟩ := hrel
        have hokj := Hok.out.go Ht.out j (by have := Hfl.out; omega)
        have hpbi : w2.heap.size < wr.heap.size := hhj.lt
        have Hhj := Lib.hid hhj
        have Hoj := Lib.hid hoj
        have Hokj := Lib.hid hokj
        have Hnow := Lib.hid (RS.go_now fs s j)
        clear hhj hoj hokj hh6
        obtain ⟨m, hm⟩ : ∃ m, s.now + j = m := ⟨_, rfl⟩
        rw [hm] at hj Hnow
        rw [hm]
        have Hm := Lib.hid hm
        clear hm
        by_cases hjl : m < fn - 1
        · skip
          obtain ⟨bf, off, y, ka', kn', kc', rfl, hy, hbf, d0', d1', d2', _, _, d3'⟩ := (Hf.out.ext Hxw.out).get m (by omega)
          have d0 := hxi.cell d0'
          have d1 := hxi.cell d1'
          have d2 := hxi.cell d2'
          have d3 := d3'.ext hxi
          have hyk := (fair_bounds Ht.out hy)
          obtain rfl : kn' = 5 := by rw [← d3.1]; exact hyk.1
          have hkeq : keepsOf fs m = y.keeps := by simp [keepsOf, List.getD, hy]
          have hkab : ∀ z, ka' = some z → z.block ≠ w2.heap.size := fun z hz => by
            obtain ⟨_, _, _, e, _, h, _⟩ := d3'.get 0 (by omega)
            rw [hz] at e
            cases e
            simp only
            omega
          have hroad := road_any w2.heap.size m y.place y.day ka' kc' (s.go fs j).held y.keeps wr Hhj.out d3 hkab Hokj.out.1 ⟨hyk.1, hyk.2.2.2.2.2⟩
          have Hroad := Lib.hid hroad
          have hstep : s.go fs (j + 1) = ⟨roadTo (s.go fs j).held y.keeps 5, (s.go fs j).losses ++ roadLosses m (s.go fs j).held y.keeps 5, m + 1⟩ := by
            have h1 := Hnow.out
            simp only [RS.go, RS.step, h1, hkeq]
          have Hstep := Lib.hid hstep
          have hlj := Hokj.out.2.2
          have hrl5 := roadLosses_len m (s.go fs j).held y.keeps 5
          have hnowj := Hnow.out
          have hxiw := hxi.size
          have Hxi := Lib.hid hxi
          have hml : decide ((m : Int) < (fn : Int) - 1) = true := by simp; omega
          have hm5 : m ≤ 5 := by omega
          have hll : (s.go fs j).losses.length ≤ 25 := by rw [hnowj] at hlj; omega
          clear hroad hstep hyk hkeq hkab d3 d3' hy d0' d1' d2' hlj hnowj hxi
          go_wp2_with (first | (go_at_call 54; refine Hroad.out.mono ?_; rintro e w7 ⟨al, nl, cl, rfl, hox, hfr, hlc, hlm, hls, hh7⟩; have Ho7 := Lib.hid (Hoj.out.only hox (by omega)); have Hls := Lib.hid hls; have Hh7 := Lib.hid hh7; have Hox := Lib.hid hox; have hsz7 := hox.size; clear hls hh7 hox) | (at_builtin; refine wpList_app elem36 _ rfl (.tmp 106) (.tmp 112) rfl (w2.heap.size + 1) _ _ rfl Ho7.out al nl cl (lossRows (roadLosses m (s.go fs j).held y.keeps 5)) rfl ?_ Hls.out.src (lossRows_row _) ?_ ?_ ?_))
          · have := Hls.out.1; simpa [lossRows] using this
          · have := Hls.out.1; simp only [lossRows, List.length_map]; omega
          · omega
          · intro v' w8 ho8 hg8 hob
            have hx7 : Ext w2 w7 := Hxi.out.only_trans Hox.out (Nat.le_refl _)
            have hx8 : Ext w2 w8 := Below.grown hx7 hg8 hx7.size (fun q hq => by have := (Ho7.out.lt q hq).1; omega)
            have hh8 := Hh7.out.app Ho7.out hg8 (Nat.lt_succ_self _)
            have Hx8 := Lib.hid (And.intro hx8 (And.intro hh8 ho8))
            clear d0 d1 d2 hx7 hx8 hh8 ho8 hg8 hob
            go_wp2_with fail
            go_roundw
            case rel =>
              refine ⟨j + 1, by have := Hm.out; omega, by have := Hm.out; rw [← this]; go_num, Hx8.out.1, ?_, ?_⟩
              · rw [Hstep.out]; exact Hx8.out.2.1
              · rw [Hstep.out]; simp only [lossRows_append]; exact Hx8.out.2.2
            case measure => simp [intOf]; omega
        · have hml : decide ((m : Int) < (fn : Int) - 1) = false := by simp; omega
          have hme : m = fn - 1 := by omega
          have hto : s.to fs (fs.length - 1) = s.go fs j := by
            have := Hm.out
            have := Hfl.out
            unfold RS.to
            rw [show fs.length - 1 - s.now = j by omega]
          have Hto := Lib.hid hto
          have Hxi := Lib.hid hxi
          clear hto hxi
          go_wp2_with fail
          refine bodyPost_ret (results_tmp4 rfl _ _ _) rfl ?_
          rw [Hfin.out, Hto.out]
          obtain ⟨la, lc, rfl, _, _, _, hls⟩ := losses_of_owns Hoj.out
          have hl5 := Hokj.out.2.2
          have hn5 := Hnow.out
          exact ⟨some ⟨w2.heap.size, 0, none⟩, 5, 5, la, _, lc, rfl, Hxw.out.trans Hxi.out, by omega, by omega, Hhj.out.spans, hls⟩
end Go.Proofs.Ytkbhmajcddmhnaa
