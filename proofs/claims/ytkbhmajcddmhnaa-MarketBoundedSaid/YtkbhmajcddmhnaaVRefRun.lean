/- Contract of the reference: Run. -/
import Derived.Test.YtkbhmajcddmhnaaVRun
import Derived.Test.YtkbhmajcddmhnaaVRefRoad
import Derived.Test.YtkbhmajcddmhnaaVGr11
namespace Go.Proofs.Ytkbhmajcddmhnaa
open Go.RowKit
set_option linter.unusedVariables false
set_option linter.unusedSimpArgs false

theorem held_of_owns {w : World} {B : Nat} {v : Value} {l : List Span} (h : Owns w B 70 2 v (spanRows l)) (hl : l.length = 5) : ∃ b c, v = .slice (some ⟨b, 0, none⟩) 5 c ∧ B ≤ b ∧ HeldAt w b l := by
  obtain ⟨⟨hx, ho⟩, hr⟩ := h
  have h5 : (spanRows l).length = 5 := by simp [spanRows, hl]
  rcases ho with ⟨rfl, h0⟩ | ⟨g, cap, cur, rfl, hb, hg, hn, hm, hs, ht⟩
  · omega
  · refine ⟨g, cap, by rw [h5], hb, hl, cur, _, hg, fun i s hi => ?_⟩
    have hri : (spanRows l)[i]? = some s.cells := by simp [spanRows, hi]
    have key : ∀ j u, j < 2 → s.cells[j]? = some u → cur[i * 2 + j]? = some u := fun j u hj hu => by
      have := flatten_get hr i j _ hri hj
      rw [hu, ← ht, List.getElem?_take] at this
      split at this
      · simpa using this
      · cases this
    exact ⟨by simpa using key 0 _ (by omega) rfl, key 1 _ (by omega) rfl⟩

set_option maxRecDepth 100000 in
set_option maxHeartbeats 8000000 in
theorem refRun_any (a : Option Addr) (n cap : Nat) (l : List Offer) (fa : Option Addr) (fn fc : Nat) (fs : List Fair) (sa : Option Addr) (sn sc : Nat) (xs : List Int) (ba : Option Addr) (bn bc : Nat) (bs : List Barter) (w : World)
    (hl : OffersAt w a n l) (hf : FairsAt w fa fn fs) (hs : IntsAt .i64 w sa sn xs) (hp : BartersAt w ba bn bs) (hn : n ≤ 1000000) (hfn : fn ≤ 1000000) (hsn : sn ≤ 1000000) (hbn : bn ≤ 1000000) :
    Calls Try.prog 20 #[.slice a n cap, .slice fa fn fc, .slice sa sn sc, .slice ba bn bc] w (RunPost (runOf l fs xs bs) w) := by
  have hck := refCheck_any a n cap l fa fn fc fs w (fun W hW => refOffers_any a n cap l W (hl.ext hW) hn) hf hfn
  by_cases hc0 : checkOf l fs = 0
  case neg =>
    have hb : runOf l fs xs bs = ⟨[], [], 0, checkOf l fs⟩ := by unfold runOf; rw [if_pos hc0]
    rw [hb]
    have Hck := Lib.hid hck
    obtain ⟨r1, r2⟩ := checkOf_range l fs
    have hne : (checkOf l fs != 0) = true := by rw [bne_iff_ne]; exact hc0
    clear hck hc0 hb hl hf hs hp
    generalize checkOf l fs = C at *
    go_enter Try.func20, Try.ntmps20
    go_wp2_with (go_at_call 24; refine Hck.out.mono ?_; rintro e w1 ⟨rfl, hx1⟩)
    refine bodyPost_ret (results_tmp4 rfl _ _ _) rfl ?_
    exact RunPost.bad (by assumption)
  obtain ⟨ho, ht⟩ := checkOf_zero hc0
  rw [hc0] at hck
  have Hck := Lib.hid hck
  have hst := fun W (hW : Ext w W) => stocks_any sa sn sc xs W (hs.ext hW) hsn
  clear hck
  cases h1 : stocksOk xs with
  | false =>
    have hb : runOf l fs xs bs = ⟨[], [], 0, 2⟩ := by unfold runOf; rw [if_neg (by simp [hc0]), if_pos (by simp [h1])]
    rw [hb]
    rw [h1] at hst
    have Hst := Lib.hid hst
    clear hst hb hl hf hs hp hc0 h1 ho ht
    go_enter Try.func20, Try.ntmps20
    go_wp2_with (first | (go_at_call 24; refine Hck.out.mono ?_; rintro e w1 ⟨rfl, hx1⟩) | (go_at_call 34; refine (Hst.out _ (by assumption)).mono ?_; rintro e w2 ⟨rfl, hx2⟩))
    refine bodyPost_ret (results_tmp4 rfl _ _ _) rfl ?_
    exact RunPost.bad (Ext.trans (by assumption) (by assumption))
  | true =>
  rw [h1] at hst
  have Hst := Lib.hid hst
  clear hst
  have hbl := hp.1
  by_cases h60 : 60 < bn
  · have hb : runOf l fs xs bs = ⟨[], [], 0, 4⟩ := by unfold runOf; rw [if_neg (by simp [hc0]), if_neg (by simp [h1]), if_pos (by omega)]
    rw [hb]
    have h60' : decide ((60 : Int) < (bn : Int)) = true := by simp; omega
    clear hb hl hf hs hp hc0 h1 ho ht hbl
    go_enter Try.func20, Try.ntmps20
    go_wp2_with (first | (go_at_call 24; refine Hck.out.mono ?_; rintro e w1 ⟨rfl, hx1⟩) | (go_at_call 34; refine (Hst.out _ (by assumption)).mono ?_; rintro e w2 ⟨rfl, hx2⟩))
    refine bodyPost_ret (results_tmp4 rfl _ _ _) rfl ?_
    exact RunPost.bad (Ext.trans (by assumption) (by assumption))
  have h60' : decide ((60 : Int) < (bn : Int)) = false := by simp; omega
  obtain ⟨hx5, hxb⟩ := stock_get h1
  obtain rfl : sn = 5 := by rw [← hs.1]; exact hx5
  have hr1 := fun e h => runOf_inl (bs := bs) hc0 h1 (by omega) (e := e) h
  have hr2 := fun q h => runOf_inr (bs := bs) hc0 h1 (by omega) (s := q) h
  have Hr1 := Lib.hid hr1
  have Hr2 := Lib.hid hr2
  have hlen := trip_len ht
  have hfl := hf.1
  have hnl := hl.1
  have hol := offers_len ho
  have hsok := start_ok (fs := fs) ht h1
  have Hl := Lib.hid hl
  have Hf := Lib.hid hf
  have Hp := Lib.hid hp
  have Hs := Lib.hid hs
  have Ho := Lib.hid ho
  have Ht := Lib.hid ht
  have Hfl := Lib.hid hfl
  have Hnl := Lib.hid hnl
  have Hbl := Lib.hid hbl
  have Hsok := Lib.hid hsok
  have Hx5 := Lib.hid hx5
  have hn10 : n ≤ 10 := by omega
  have hfn5 : fn ≤ 5 := by omega
  have hfn1 : 1 ≤ fn := by omega
  clear hr1 hr2 hl hf hs hp hc0 h1 ho ht hxb hbl hlen hfl hnl hol hsok hx5
  go_enter Try.func20, Try.ntmps20
  go_wp2_with (first | (go_at_call 24; refine Hck.out.mono ?_; rintro e w1 ⟨rfl, hx1⟩) | (go_at_call 34; refine (Hst.out _ hx1).mono ?_; rintro e w2 ⟨rfl, hx2⟩))
  have hxw : Ext w w2 := hx1.trans hx2
  have Hxw := Lib.hid hxw
  clear hxw hx1 hx2
  go_loopw [13, 14] (fun v i wr => ∃ k : Nat, k ≤ 5 ∧ i = .int .i64 k ∧ Ext w2 wr ∧ Owns wr w2.heap.size 70 2 v (spanRows ((startOf xs).held.take k))) (fun _ i _ => 5 - (intOf i).toNat)
  case atStart => exact ⟨0, by omega, rfl, Ext.refl _, Owns.nil _ _ _ _⟩
  case round =>
    obtain ⟨k, hk, rfl, hx, hown⟩ := hrel
    have Hx := Lib.hid hx
    have Hown := Lib.hid hown
    clear hown
    by_cases hlt : k < 5
    · obtain ⟨sb, so, x, rfl, hxk, hsb, e0⟩ := (Hs.out.ext Hxw.out).get k hlt
      have hlt' : decide ((k : Int) < 5) = true := by simp; omega
      have htk : (startOf xs).held.take (k + 1) = (startOf xs).held.take k ++ [⟨x, x⟩] := by
        rw [List.take_add_one]; simp [startOf, hxk]
      have hwsz := hx.size
      have Hxk := Lib.hid hxk
      have Htk := Lib.hid htk
      have Hx := Lib.hid hx
      clear hxk htk hx
      go_wp2_with fail
      refine wp_region_tree (.take [0, 1, 2, 3, 4, 5, 6, 7, 8, 9] (.one 10 (.one 11 (.take [12] .done)))) (Ext w2) _ (by kernel_rfl) (by kernel_rfl) rfl (Hx.out.drew) ?_
      intro ι _ f hf hs
      have f0 := fun q => (hf q).cell e0
      have HS := Lib.hid hs
      clear hf hs
      simp only [treeOf, oneOp, twoOp, opsOf, consOp, List.getElem?_toArray, List.getElem?_cons_succ, List.getElem?_cons_zero]
      refine wpOT_take ?_
      repeat (go_big_quiet_step (fail))
      refine wpQuiet_nil ?_
      clear f0
      refine wpOT_one ?_
      go_wp2_with fail
      refine ⟨HS.out _ ((Hx.out.alloc _).drew), ?_⟩
      refine wpOT_one ?_
      have hown1 := (Hown.out.alloc (.cells #[.int .i64 x, .int .i64 x] 70)).drew
      have hcl := fun j => cell_of_row _ _ j _ 70 (0, 0) (heap_alloc_new wr (.cells #[.int .i64 x, .int .i64 x] 70))
      have Hown1 := Lib.hid hown1
      have Hcl := Lib.hid hcl
      clear hown1 hcl
      have hkl : ((startOf xs).held.take k).length ≤ 5 := by simp; omega
      have Hkl := Lib.hid hkl
      clear hkl
      go_wp2_with (at_builtin; refine wpList_app elem35 _ rfl (.tmp 36) (.tmp 46) rfl w2.heap.size _ _ rfl Hown1.out (some ⟨wr.heap.size, 0, none⟩) 1 1 (spanRows [⟨x, x⟩]) rfl rfl (slAt_one ?_) (spanRows_row _) ?_ ?_ ?_)
      · intro j u hj
        simp only [Nat.zero_add]
        have := Hcl.out j
        rw [show ((wr.alloc (.cells #[.int .i64 x, .int .i64 x] 70)).drew).cell? = (wr.alloc (.cells #[.int .i64 x, .int .i64 x] 70)).cell? from rfl, this]
        simpa [Span.cells] using hj
      · have := Hkl.out; simp only [spanRows, List.length_map] at this ⊢; omega
      · simp; omega
      · intro v' w3 ho3 hg3 _
        have hx3 : Ext w2 w3 := ((Hx.out.alloc _).drew).app Hown1.out hg3
        have Ho3 := Lib.hid ho3
        have Hx3 := Lib.hid hx3
        have Hg3 := Lib.hid hg3
        clear ho3 hx3 hg3
        go_wp2_with fail
        refine ⟨HS.out _ Hx3.out, ?_⟩
        refine wpOT_take ?_
        repeat (go_big_quiet_step (fail))
        refine wpQuiet_nil ?_
        refine wpOT_done ?_
        clear HS
        go_wp2_with fail
        go_roundw
        case rel => exact ⟨k + 1, by omega, by go_num, Hx3.out, by rw [Htk.out, spanRows_append]; exact Ho3.out⟩
        case measure => simp [intOf]; omega
    · obtain rfl : k = 5 := by omega
      rw [show ((5 : Nat) : Int) = 5 from rfl]
      have hown5 := Hown.out
      rw [List.take_of_length_le (by have := Hsok.out.1.1; omega)] at hown5
      obtain ⟨hb, hc, rfl, hbw, hheld⟩ := held_of_owns hown5 Hsok.out.1.1
      have hbl3 := hheld.lt
      clear hown5 Hown
      have Hheld := Lib.hid hheld
      clear hheld
      obtain ⟨w3, hw3⟩ : ∃ W : World, W = wr := ⟨_, rfl⟩
      subst hw3
      clear hx
      go_wp2_with fail
      go_loopw [15, 16, 17] (fun v nw i wr => ∃ (k : Nat) (s : RS), k ≤ bn ∧ i = .int .i64 k ∧ nw = .int .i64 s.now ∧ runTo l fs xs bs k = .inr s ∧ s.Ok fs ∧ Only hb w3 wr ∧ HeldAt wr hb s.held ∧ Owns wr w3.heap.size 73 4 v (lossRows s.losses)) (fun _ _ i _ => bn - (intOf i).toNat)
      case atStart => exact ⟨0, startOf xs, Nat.zero_le _, rfl, rfl, rfl, Hsok.out, Only.refl _ _, Hheld.out, Owns.nil _ _ _ _⟩
      case round =>
        obtain ⟨k, s, hk, rfl, rfl, hrt, hok, hxo, hheld, hown⟩ := hrel
        have hx : Ext w2 wr := Hx.out.only_trans hxo hbw
        have hbl4 := hheld.lt
        have hsz3 := hxo.size
        have Hx3 := Hx
        clear Hx
        clear Hheld
        have Hxo := Lib.hid hxo
        clear hxo
        have Hrt := Lib.hid hrt
        have Hok := Lib.hid hok
        have Hheld := Lib.hid hheld
        have Hown := Lib.hid hown
        clear hrt hok hheld hown
        by_cases hlt : k < bn
        · obtain ⟨bb, bo, b, rfl, hbk, hbb, c0, c1, c2⟩ := (Hp.out.ext (Hxw.out.trans hx)).get k hlt
          have hlt' : decide ((k : Int) < (bn : Int)) = true := by simp; omega
          have hszx := hx.size
          have Hbk := Lib.hid hbk
          have Hx := Lib.hid hx
          clear hbk hx
          have hin := fun W => within_ext b.fair s.now ((fn : Int) - 1) W
          have hio := fun W => within_ext b.offer 0 ((n : Int) - 1) W
          have hit := fun W => within_ext b.times 1 1000000000000000 W
          go_wp2_with fail
          have hbx : (wr.alloc (.cells #[.int .i64 b.fair, .int .i64 b.offer, .int .i64 b.times] 46)).heap[wr.heap.size]? = some (.cells #[.int .i64 b.fair, .int .i64 b.offer, .int .i64 b.times] 46 (0, 0)) := heap_alloc_new _ _
          have hx0 : Ext wr (wr.alloc (.cells #[.int .i64 b.fair, .int .i64 b.offer, .int .i64 b.times] 46)) := (Ext.refl _).alloc _
          generalize wr.alloc (.cells #[.int .i64 b.fair, .int .i64 b.offer, .int .i64 b.times] 46) = W0 at *
          have Hbx := Lib.hid hbx
          have Hx0 := Lib.hid hx0
          clear hbx hx0
          clear c0 c1 c2
          cases hA : inB b.fair s.now ((fn : Int) - 1) with
          | false =>
            have hbad : stepOf l fs s b = .inl 62 := by
              unfold stepOf barterBad
              rw [if_pos]
              rw [Hfl.out, hA]
              rfl
            have hres := Hr1.out _ (runTo_stop Hrt.out Hbk.out hbad)
            rw [hA] at hin
            have Hin := Lib.hid hin
            have Hres := Lib.hid hres
            clear hin hres
            clear hio hit hbad hA
            refine wp_region_tree (.take [0, 1, 2, 3, 4, 5] (.one 6 (.take [7, 8, 9, 10, 11, 12, 13] (.one 14 (.take [15, 16, 17, 18, 19, 20, 21, 22, 23, 24, 25, 26, 27, 28, 29, 30, 31, 32, 33, 34] (.one 35 (.take [36, 37, 38, 39, 40] (.one 41 (.take [42, 43] .done))))))))) (Ext W0) _ (by kernel_rfl) (by kernel_rfl) rfl ((Ext.refl _).drew) ?_
            intro ι _ f hf hs
            have f0 := fun q => ((hf q).box Hbx.out).1
            have HS := Lib.hid hs
            clear hf hs
            simp only [treeOf, oneOp, twoOp, opsOf, consOp, List.getElem?_toArray, List.getElem?_cons_succ, List.getElem?_cons_zero]
            refine wpOT_take ?_
            repeat (go_big_quiet_step (fail))
            refine wpQuiet_nil ?_
            refine wpOT_one ?_
            go_wp2_with (go_at_call 50; refine (Hin.out _).mono ?_; rintro e w4 ⟨rfl, hxa⟩)
            refine ⟨HS.out _ ((Ext.refl _).drew.trans hxa), ?_⟩
            refine wpOT_take ?_
            repeat (go_big_quiet_step (fail))
            refine wpQuiet_nil ?_
            refine wpOT_one ?_
            go_wp2_with fail
            refine ⟨HS.out _ ((Ext.refl _).drew.trans hxa), ?_⟩
            refine wpOT_take ?_
            repeat (go_big_quiet_step (fail))
            refine wpQuiet_nil ?_
            refine wpOT_one ?_
            go_wp2_with fail
            refine ⟨HS.out _ ((Ext.refl _).drew.trans hxa), ?_⟩
            refine wpOT_take ?_
            repeat (go_big_quiet_step (fail))
            refine wpQuiet_nil ?_
            refine wpOT_one ?_
            go_wp2_with fail
            refine ⟨HS.out _ ((Ext.refl _).drew.trans hxa), ?_⟩
            refine wpOT_take ?_
            repeat (go_big_quiet_step (fail))
            refine wpQuiet_nil ?_
            refine wpOT_done ?_
            clear f0 HS
            go_wp2_with fail
            refine bodyPost_ret (results_tmp4 rfl _ _ _) rfl ?_
            rw [Hres.out]
            exact RunPost.bad (Hxw.out.trans (Hx.out.trans (Hx0.out.trans ((Ext.refl _).drew.trans hxa))))
          | true =>
            have hAb : (s.now : Int) ≤ b.fair ∧ b.fair ≤ (fn : Int) - 1 := by simpa [inB] using hA
            obtain ⟨fi, hfi⟩ : ∃ fi : Nat, b.fair = fi := ⟨b.fair.toNat, by omega⟩
            obtain ⟨x, hxf⟩ : ∃ x, fs[fi]? = some x := ⟨_, List.getElem?_eq_getElem (by have := Hfl.out; omega)⟩
            have hfifn : fi < fn := by omega
            have hnowfi : s.now ≤ fi := by omega
            have hbo : offerOpen l (fs.getD b.fair.toNat ⟨0, 0, []⟩) b.offer = offerOpen l x b.offer := by
              rw [hfi, Int.toNat_natCast]; simp [List.getD, hxf]
            rw [hfi] at hin hA
            rw [hA] at hin
            have Hin := Lib.hid hin
            have Hbo := Lib.hid hbo
            have HA := Lib.hid hA
            clear hin hbo hA
            obtain ⟨bf0, bo0, bt0⟩ := b
            simp only at hfi hio hit Hbx Hbo Hbk hAb
            subst hfi
            cases hI : inB bo0 0 ((n : Int) - 1) with
            | false =>
              have hof : offerOpen l x bo0 = false := by
                unfold offerOpen
                by_cases h0 : 0 ≤ bo0
                · have : l[bo0.toNat]? = none := by
                    rw [List.getElem?_eq_none]
                    have := Hnl.out
                    simp [inB] at hI
                    omega
                  rw [this]; simp
                · simp [h0]
              have hbad : stepOf l fs s ⟨fi, bo0, bt0⟩ = .inl 62 := by
                unfold stepOf barterBad
                rw [if_pos]
                rw [Hbo.out, hof]
                simp
              have hres := Hr1.out _ (runTo_stop Hrt.out Hbk.out hbad)
              rw [hI] at hio
              have Hio := Lib.hid hio
              have Hres := Lib.hid hres
              clear hio hres
              clear hbad hit hof hI hxf
              refine wp_region_tree (.take [0, 1, 2, 3, 4, 5] (.one 6 (.take [7, 8, 9, 10, 11, 12, 13] (.one 14 (.take [15, 16, 17, 18, 19, 20, 21, 22, 23, 24, 25, 26, 27, 28, 29, 30, 31, 32, 33, 34] (.one 35 (.take [36, 37, 38, 39, 40] (.one 41 (.take [42, 43] .done))))))))) (Ext W0) _ (by kernel_rfl) (by kernel_rfl) rfl ((Ext.refl _).drew) ?_
              intro ι _ f hf hs
              have f0 := fun q => ((hf q).box Hbx.out).1
              have HS := Lib.hid hs
              clear hf hs
              simp only [treeOf, oneOp, twoOp, opsOf, consOp, List.getElem?_toArray, List.getElem?_cons_succ, List.getElem?_cons_zero]
              refine wpOT_take ?_
              repeat (go_big_quiet_step (fail))
              refine wpQuiet_nil ?_
              refine wpOT_one ?_
              go_wp2_with (go_at_call 50; refine (Hin.out _).mono ?_; rintro e w4 ⟨rfl, hxa⟩)
              refine ⟨HS.out _ ((Ext.refl _).drew.trans hxa), ?_⟩
              refine wpOT_take ?_
              repeat (go_big_quiet_step (fail))
              refine wpQuiet_nil ?_
              refine wpOT_one ?_
              go_wp2_with (go_at_call 50; refine (Hio.out _).mono ?_; rintro e w5 ⟨rfl, hxb⟩)
              refine ⟨HS.out _ (((Ext.refl _).drew.trans hxa).trans hxb), ?_⟩
              refine wpOT_take ?_
              repeat (go_big_quiet_step (fail))
              refine wpQuiet_nil ?_
              refine wpOT_one ?_
              go_wp2_with fail
              refine ⟨HS.out _ (((Ext.refl _).drew.trans hxa).trans hxb), ?_⟩
              refine wpOT_take ?_
              repeat (go_big_quiet_step (fail))
              refine wpQuiet_nil ?_
              refine wpOT_one ?_
              go_wp2_with fail
              refine ⟨HS.out _ (((Ext.refl _).drew.trans hxa).trans hxb), ?_⟩
              refine wpOT_take ?_
              repeat (go_big_quiet_step (fail))
              refine wpQuiet_nil ?_
              refine wpOT_done ?_
              clear f0 HS
              go_wp2_with fail
              refine bodyPost_ret (results_tmp4 rfl _ _ _) rfl ?_
              rw [Hres.out]
              exact RunPost.bad (Hxw.out.trans (Hx.out.trans (Hx0.out.trans (((Ext.refl _).drew.trans hxa).trans hxb))))
            | true =>
              obtain ⟨jo, rfl⟩ : ∃ jo : Nat, bo0 = jo := ⟨bo0.toNat, by simp [inB] at hI; omega⟩
              have hjn : jo < n := by simp [inB] at hI; omega
              obtain ⟨ob, oo, o, rfl, ho', hob, e0, e1, e2, e3, e4, e5, e6, e7⟩ := (Hl.out.ext Hxw.out).get jo hjn
              obtain ⟨fb, fo, x', ka0, kn0, kc0, rfl, hx', hfb, d0', d1', _, _, _, _⟩ := (Hf.out.ext Hxw.out).get fi hfifn
              obtain rfl : x = x' := by rw [hxf] at hx'; cases hx'; rfl
              have hof : offerOpen l x jo = openB o x := by simp [offerOpen, ho']
              obtain ⟨gi, ge, hgi, hge, hgi5, hge5, hgne, hu1, hu2, hlo1, hlo2, hhi, _⟩ := offer_bounds Ho.out ho'
              have hopn := fun W => open_any o x.place x.day W
              have hopq : (o.place == x.place && inB x.day o.from_ o.to) = openB o x := rfl
              rw [hopq] at hopn
              rw [hI] at hio
              have hva : o.valid = true := by
                have := Ho.out
                simp only [offersOk, Bool.and_eq_true] at this
                exact List.all_eq_true.1 this.2 o (List.mem_of_getElem? ho')
              have hoat : offerAt l (jo : Int) = o := by simp [offerAt, List.getD, ho']
              have Hio := Lib.hid hio
              have Hof := Lib.hid hof
              have Hva := Lib.hid hva
              have Hoat := Lib.hid hoat
              have Hgi := Lib.hid hgi
              have Hge := Lib.hid hge
              clear hio hof hva hoat hgi hge
              clear hI hopq hxf hx' ho'
              have hx20 := Hx.out.trans Hx0.out
              have r0 := hx20.cell e0
              have r1 := hx20.cell e1
              have r2 := hx20.cell e2
              have r3 := hx20.cell e3
              have r4 := hx20.cell e4
              have r5 := hx20.cell e5
              have r6 := hx20.cell e6
              have r7 := hx20.cell e7
              have s0 := hx20.cell d0'
              have s1 := hx20.cell d1'
              clear d0' d1'
              cases hop : openB o x with
              | false =>
                have hbad : stepOf l fs s ⟨fi, jo, bt0⟩ = .inl 62 := by
                  unfold stepOf barterBad
                  rw [if_pos]
                  rw [Hbo.out, Hof.out, hop]
                  simp
                have hres := Hr1.out _ (runTo_stop Hrt.out Hbk.out hbad)
                rw [hop] at hopn
                unfold Offer.val at hopn
                have Hopn := Lib.hid hopn
                have Hres := Lib.hid hres
                clear hopn hres
                clear hbad hit hop
                refine wp_region_tree (.take [0, 1, 2, 3, 4, 5] (.one 6 (.take [7, 8, 9, 10, 11, 12, 13] (.one 14 (.take [15, 16, 17, 18, 19, 20, 21, 22, 23, 24, 25, 26, 27, 28, 29, 30, 31, 32, 33, 34] (.one 35 (.take [36, 37, 38, 39, 40] (.one 41 (.take [42, 43] .done))))))))) (Ext W0) _ (by kernel_rfl) (by kernel_rfl) rfl ((Ext.refl _).drew) ?_
                intro ι _ f hf hs
                have f0 := fun q => ((hf q).box Hbx.out).1
                have g0 := fun q => (hf q).cell r0
                have g1 := fun q => (hf q).cell r1
                have g2 := fun q => (hf q).cell r2
                have g3 := fun q => (hf q).cell r3
                have g4 := fun q => (hf q).cell r4
                have g5 := fun q => (hf q).cell r5
                have g6 := fun q => (hf q).cell r6
                have g7 := fun q => (hf q).cell r7
                have k0 := fun q => (hf q).cell s0
                have k1 := fun q => (hf q).cell s1
                have HS := Lib.hid hs
                clear hf hs
                simp only [treeOf, oneOp, twoOp, opsOf, consOp, List.getElem?_toArray, List.getElem?_cons_succ, List.getElem?_cons_zero]
                clear r0 r1 r2 r3 r4 r5 r6 r7 s0 s1
                refine wpOT_take ?_
                repeat (go_big_quiet_step (fail))
                refine wpQuiet_nil ?_
                refine wpOT_one ?_
                go_wp2_with (go_at_call 50; refine (Hin.out _).mono ?_; rintro e w4 ⟨rfl, hxa⟩)
                refine ⟨HS.out _ ((Ext.refl _).drew.trans hxa), ?_⟩
                refine wpOT_take ?_
                repeat (go_big_quiet_step (fail))
                refine wpQuiet_nil ?_
                refine wpOT_one ?_
                go_wp2_with (go_at_call 50; refine (Hio.out _).mono ?_; rintro e w5 ⟨rfl, hxb⟩)
                refine ⟨HS.out _ (((Ext.refl _).drew.trans hxa).trans hxb), ?_⟩
                refine wpOT_take ?_
                repeat (go_big_quiet_step (fail))
                refine wpQuiet_nil ?_
                refine wpOT_one ?_
                go_wp2_with (go_at_call 56; refine (Hopn.out _).mono ?_; rintro e w6 ⟨rfl, hxc⟩)
                refine ⟨HS.out _ ((((Ext.refl _).drew.trans hxa).trans hxb).trans hxc), ?_⟩
                refine wpOT_take ?_
                repeat (go_big_quiet_step (fail))
                refine wpQuiet_nil ?_
                refine wpOT_one ?_
                go_wp2_with fail
                refine ⟨HS.out _ ((((Ext.refl _).drew.trans hxa).trans hxb).trans hxc), ?_⟩
                refine wpOT_take ?_
                repeat (go_big_quiet_step (fail))
                refine wpQuiet_nil ?_
                refine wpOT_done ?_
                clear f0 g0 g1 g2 g3 g4 g5 g6 g7 k0 k1 HS
                go_wp2_with fail
                refine bodyPost_ret (results_tmp4 rfl _ _ _) rfl ?_
                rw [Hres.out]
                exact RunPost.bad (Hxw.out.trans (Hx.out.trans (Hx0.out.trans ((((Ext.refl _).drew.trans hxa).trans hxb).trans hxc))))
              | true =>
                cases htm : inB bt0 1 1000000000000000 with
                | false =>
                  have hbad : stepOf l fs s ⟨fi, jo, bt0⟩ = .inl 62 := by
                    unfold stepOf barterBad
                    rw [if_pos]
                    simp [htm]
                  have hres := Hr1.out _ (runTo_stop Hrt.out Hbk.out hbad)
                  rw [hop] at hopn
                  rw [htm] at hit
                  unfold Offer.val at hopn
                  have Hopn := Lib.hid hopn
                  have Hres := Lib.hid hres
                  have Hit := Lib.hid hit
                  clear hopn hres hit
                  clear hbad hop htm
                  refine wp_region_tree (.take [0, 1, 2, 3, 4, 5] (.one 6 (.take [7, 8, 9, 10, 11, 12, 13] (.one 14 (.take [15, 16, 17, 18, 19, 20, 21, 22, 23, 24, 25, 26, 27, 28, 29, 30, 31, 32, 33, 34] (.one 35 (.take [36, 37, 38, 39, 40] (.one 41 (.take [42, 43] .done))))))))) (Ext W0) _ (by kernel_rfl) (by kernel_rfl) rfl ((Ext.refl _).drew) ?_
                  intro ι _ f hf hs
                  have f0 := fun q => ((hf q).box Hbx.out).1
                  have g0 := fun q => (hf q).cell r0
                  have g1 := fun q => (hf q).cell r1
                  have g2 := fun q => (hf q).cell r2
                  have g3 := fun q => (hf q).cell r3
                  have g4 := fun q => (hf q).cell r4
                  have g5 := fun q => (hf q).cell r5
                  have g6 := fun q => (hf q).cell r6
                  have g7 := fun q => (hf q).cell r7
                  have k0 := fun q => (hf q).cell s0
                  have k1 := fun q => (hf q).cell s1
                  have HS := Lib.hid hs
                  clear hf hs
                  simp only [treeOf, oneOp, twoOp, opsOf, consOp, List.getElem?_toArray, List.getElem?_cons_succ, List.getElem?_cons_zero]
                  clear r0 r1 r2 r3 r4 r5 r6 r7 s0 s1
                  refine wpOT_take ?_
                  repeat (go_big_quiet_step (fail))
                  refine wpQuiet_nil ?_
                  refine wpOT_one ?_
                  go_wp2_with (go_at_call 50; refine (Hin.out _).mono ?_; rintro e w4 ⟨rfl, hxa⟩)
                  refine ⟨HS.out _ ((Ext.refl _).drew.trans hxa), ?_⟩
                  refine wpOT_take ?_
                  repeat (go_big_quiet_step (fail))
                  refine wpQuiet_nil ?_
                  refine wpOT_one ?_
                  go_wp2_with (go_at_call 50; refine (Hio.out _).mono ?_; rintro e w5 ⟨rfl, hxb⟩)
                  refine ⟨HS.out _ (((Ext.refl _).drew.trans hxa).trans hxb), ?_⟩
                  refine wpOT_take ?_
                  repeat (go_big_quiet_step (fail))
                  refine wpQuiet_nil ?_
                  refine wpOT_one ?_
                  go_wp2_with (go_at_call 56; refine (Hopn.out _).mono ?_; rintro e w6 ⟨rfl, hxc⟩)
                  refine ⟨HS.out _ ((((Ext.refl _).drew.trans hxa).trans hxb).trans hxc), ?_⟩
                  refine wpOT_take ?_
                  repeat (go_big_quiet_step (fail))
                  refine wpQuiet_nil ?_
                  refine wpOT_one ?_
                  go_wp2_with (go_at_call 50; refine (Hit.out _).mono ?_; rintro e w7 ⟨rfl, hxd⟩)
                  refine ⟨HS.out _ (((((Ext.refl _).drew.trans hxa).trans hxb).trans hxc).trans hxd), ?_⟩
                  refine wpOT_take ?_
                  repeat (go_big_quiet_step (fail))
                  refine wpQuiet_nil ?_
                  refine wpOT_done ?_
                  clear f0 g0 g1 g2 g3 g4 g5 g6 g7 k0 k1 HS
                  go_wp2_with fail
                  refine bodyPost_ret (results_tmp4 rfl _ _ _) rfl ?_
                  rw [Hres.out]
                  exact RunPost.bad (Hxw.out.trans (Hx.out.trans (Hx0.out.trans (((((Ext.refl _).drew.trans hxa).trans hxb).trans hxc).trans hxd))))
                | true =>
                  have hgood : barterBad l fs s.now ⟨fi, jo, bt0⟩ = false := by
                    unfold barterBad
                    rw [Hbo.out, Hof.out, hop, htm, Hfl.out, HA.out]
                    rfl
                  rw [hop] at hopn
                  rw [htm] at hit
                  unfold Offer.val at hopn
                  have Hopn := Lib.hid hopn
                  have Hit := Lib.hid hit
                  have Hgood := Lib.hid hgood
                  clear hopn hit hgood
                  clear hop
                  refine wp_region_tree (.take [0, 1, 2, 3, 4, 5] (.one 6 (.take [7, 8, 9, 10, 11, 12, 13] (.one 14 (.take [15, 16, 17, 18, 19, 20, 21, 22, 23, 24, 25, 26, 27, 28, 29, 30, 31, 32, 33, 34] (.one 35 (.take [36, 37, 38, 39, 40] (.one 41 (.take [42, 43] .done))))))))) (Ext W0) _ (by kernel_rfl) (by kernel_rfl) rfl ((Ext.refl _).drew) ?_
                  intro ι _ f hf hs
                  have f0 := fun q => ((hf q).box Hbx.out).1
                  have g0 := fun q => (hf q).cell r0
                  have g1 := fun q => (hf q).cell r1
                  have g2 := fun q => (hf q).cell r2
                  have g3 := fun q => (hf q).cell r3
                  have g4 := fun q => (hf q).cell r4
                  have g5 := fun q => (hf q).cell r5
                  have g6 := fun q => (hf q).cell r6
                  have g7 := fun q => (hf q).cell r7
                  have k0 := fun q => (hf q).cell s0
                  have k1 := fun q => (hf q).cell s1
                  have HS := Lib.hid hs
                  clear hf hs
                  simp only [treeOf, oneOp, twoOp, opsOf, consOp, List.getElem?_toArray, List.getElem?_cons_succ, List.getElem?_cons_zero]
                  clear r0 r1 r2 r3 r4 r5 r6 r7 s0 s1
                  refine wpOT_take ?_
                  repeat (go_big_quiet_step (fail))
                  refine wpQuiet_nil ?_
                  refine wpOT_one ?_
                  go_wp2_with (go_at_call 50; refine (Hin.out _).mono ?_; rintro e w4 ⟨rfl, hxa⟩)
                  refine ⟨HS.out _ ((Ext.refl _).drew.trans hxa), ?_⟩
                  refine wpOT_take ?_
                  repeat (go_big_quiet_step (fail))
                  refine wpQuiet_nil ?_
                  refine wpOT_one ?_
                  go_wp2_with (go_at_call 50; refine (Hio.out _).mono ?_; rintro e w5 ⟨rfl, hxb⟩)
                  refine ⟨HS.out _ (((Ext.refl _).drew.trans hxa).trans hxb), ?_⟩
                  refine wpOT_take ?_
                  repeat (go_big_quiet_step (fail))
                  refine wpQuiet_nil ?_
                  refine wpOT_one ?_
                  go_wp2_with (go_at_call 56; refine (Hopn.out _).mono ?_; rintro e w6 ⟨rfl, hxc⟩)
                  refine ⟨HS.out _ ((((Ext.refl _).drew.trans hxa).trans hxb).trans hxc), ?_⟩
                  refine wpOT_take ?_
                  repeat (go_big_quiet_step (fail))
                  refine wpQuiet_nil ?_
                  refine wpOT_one ?_
                  go_wp2_with (go_at_call 50; refine (Hit.out _).mono ?_; rintro e w7 ⟨rfl, hxd⟩)
                  refine ⟨HS.out _ (((((Ext.refl _).drew.trans hxa).trans hxb).trans hxc).trans hxd), ?_⟩
                  refine wpOT_take ?_
                  repeat (go_big_quiet_step (fail))
                  refine wpQuiet_nil ?_
                  refine wpOT_done ?_
                  clear f0 g0 g1 g2 g3 g4 g5 g6 g7 k0 k1 HS
                  have hx06 : Ext W0 w7 := ((((Ext.refl _).drew.trans hxa).trans hxb).trans hxc).trans hxd
                  have hpne : wr.heap.size ≠ hb := by omega
                  have hx36 : Only hb w3 w7 := Hxo.out.ext (Hx0.out.trans hx06)
                  have hb6 := hx06.heap Hbx.out
                  have hh6 := Hheld.out.ext (Hx0.out.trans hx06)
                  have ho6 := Hown.out.ext (Hx0.out.trans hx06)
                  have hnob : u15.ownBlock ≠ some wr.heap.size := fun e => by have := (Hown.out.lt _ e).2; omega
                  have hs6 := hx36.size
                  have Hnob := Lib.hid hnob
                  have Hx36 := Lib.hid hx36
                  have Hb6 := Lib.hid hb6
                  have Hh6 := Lib.hid hh6
                  have Ho6 := Lib.hid ho6
                  clear hnob hx36 hb6 hh6 ho6
                  clear hxa hxb hxc hxd hx06
                  obtain ⟨Wr, hWr⟩ : ∃ W : World, W = wr := ⟨_, rfl⟩
                  subst hWr
                  have hfl1 : fi + 1 ≤ fs.length := by have := Hfl.out; omega
                  go_wp2_with fail
                  go_loopw [15, 16] (fun v nw wi => ∃ j : Nat, s.now + j ≤ fi ∧ nw = .int .i64 ((s.now + j : Nat) : Int) ∧ Only hb w3 wi ∧ wi.heap[Wr.heap.size]? = some (.cells #[.int .i64 fi, .int .i64 jo, .int .i64 bt0] 46 (0, 0)) ∧ v.ownBlock ≠ some Wr.heap.size ∧ HeldAt wi hb (s.go fs j).held ∧ Owns wi w3.heap.size 73 4 v (lossRows (s.go fs j).losses)) (fun _ nw _ => fi - (intOf nw).toNat)
                  case atStart => exact ⟨0, by omega, rfl, Hx36.out, Hb6.out, Hnob.out, Hh6.out, Ho6.out⟩
                  case' round =>
                    obtain ⟨j, hj, rfl, hxi, hbxi, hnbi, hhj, hoj⟩ := hrel
                    have hokj := Hok.out.go Ht.out j (by omega)
                    obtain ⟨bxc, bxf⟩ := (Ext.refl wr).box hbxi
                    have hbxl : Wr.heap.size < wr.heap.size := (Array.getElem?_eq_some_iff.1 hbxi).1
                    have Hnow := Lib.hid (RS.go_now fs s j)
                    have Hbxi := Lib.hid hbxi
                    have Hnbi := Lib.hid hnbi
                    clear hbxi hnbi
                    have Hhj := Lib.hid hhj
                    have Hoj := Lib.hid hoj
                    have Hokj := Lib.hid hokj
                    clear hhj hoj hokj
                    obtain ⟨m, hm⟩ : ∃ m, s.now + j = m := ⟨_, rfl⟩
                    rw [hm] at hj Hnow
                    rw [hm]
                    have Hm := Lib.hid hm
                    clear hm
                    by_cases hjl : m < fi
                    · obtain ⟨bf, off, y, ka', kn', kc', e', hy, hbf, d0', d1', d2', _, _, d3'⟩ := (Hf.out.ext Hxw.out).get m (by omega)
                      cases e'
                      have hxE : Ext w2 wr := Hx3.out.only_trans hxi hbw
                      have d0 := hxE.cell d0'
                      have d1 := hxE.cell d1'
                      have d2 := hxE.cell d2'
                      have d3 := d3'.ext hxE
                      have hyk := (fair_bounds Ht.out hy)
                      obtain rfl : kn' = 5 := by rw [← d3.1]; exact hyk.1
                      have hkeq : keepsOf fs m = y.keeps := by simp [keepsOf, List.getD, hy]
                      have hkab : ∀ z, ka' = some z → z.block ≠ hb := fun z hz => by
                        obtain ⟨_, _, _, e, _, h, _⟩ := d3'.get 0 (by omega)
                        rw [hz] at e
                        cases e
                        simp only
                        omega
                      have hroad := refRoad_any hb hc m y.place y.day ka' kc' (s.go fs j).held y.keeps wr Hhj.out d3 hkab Hokj.out.1 ⟨hyk.1, hyk.2.2.2.2.2⟩
                      have hstep : s.go fs (j + 1) = ⟨roadTo (s.go fs j).held y.keeps 5, (s.go fs j).losses ++ roadLosses m (s.go fs j).held y.keeps 5, m + 1⟩ := by
                        have h1 := Hnow.out
                        simp only [RS.go, RS.step, h1, hkeq]
                      have hlj := Hokj.out.2.2
                      have hrl5 := roadLosses_len m (s.go fs j).held y.keeps 5
                      have hnowj := Hnow.out
                      have hxiw := hxi.size
                      have hml : decide ((m : Int) < (fi : Int)) = true := by simp; omega
                      have hm5 : m ≤ 5 := by omega
                      have hll : (s.go fs j).losses.length ≤ 25 := by rw [hnowj] at hlj; omega
                      have Hroad := Lib.hid hroad
                      have Hstep := Lib.hid hstep
                      have Hxi := Lib.hid hxi
                      clear hroad hstep hxi
                      clear hyk hkeq hkab d3 d3' hy d0' d1' d2' hlj hnowj hxE
                      go_wp2_with (first | (go_at_call 57; refine Hroad.out.mono ?_; rintro e w7 ⟨al, nl, cl, rfl, hox, hfr, hlc, hlm, hls, hh7⟩; have Ho7 := Lib.hid (Hoj.out.only hox (by omega)); have Hls := Lib.hid hls; have Hh7 := Lib.hid hh7; have Hox := Lib.hid hox; have hsz7 := hox.size; clear hls hh7 hox) | (at_builtin; refine wpList_app elem36 _ rfl (.tmp 107) (.tmp 114) rfl w3.heap.size _ _ rfl Ho7.out al nl cl (lossRows (roadLosses m (s.go fs j).held y.keeps 5)) rfl ?_ Hls.out.src (lossRows_row _) ?_ ?_ ?_))
                      · have := Hls.out.1; simpa [lossRows] using this
                      · have := Hls.out.1; simp only [lossRows, List.length_map]; omega
                      · omega
                      · intro v' w8 ho8 hg8 hob
                        have hx7 : Only hb w3 w7 := Hxi.out.trans Hox.out
                        have hx8 : Only hb w3 w8 := hx7.app Ho7.out hg8
                        have hh8 := Hh7.out.app Ho7.out hg8 hbl3

                        have hbx7 := Hox.out.heap Hbxi.out hpne
                        have hbx8 : w8.heap[Wr.heap.size]? = some (.cells #[.int .i64 fi, .int .i64 jo, .int .i64 bt0] 46 (0, 0)) := (hg8.block _ (by omega) (fun e => Hnbi.out e.symm)).trans hbx7
                        have hnb8 : v'.ownBlock ≠ some Wr.heap.size := by
                          rcases hob with e | e
                          · rw [e]; exact Hnbi.out
                          · rw [e]; intro e'; have := Option.some.inj e'; omega
                        have Hx8 := Lib.hid (And.intro hx8 (And.intro hbx8 (And.intro hnb8 (And.intro hh8 ho8))))
                        clear bxc bxf d0 d1 d2 hx7 hx8 hh8 hbx7 hbx8 hnb8 ho8 hg8 hob
                        go_wp2_with fail
                        go_roundw
                        case rel =>
                          refine ⟨j + 1, by have := Hm.out; omega, by have := Hm.out; rw [← this]; go_num, Hx8.out.1, Hx8.out.2.1, Hx8.out.2.2.1, ?_, ?_⟩
                          · rw [Hstep.out]; exact Hx8.out.2.2.2.1
                          · rw [Hstep.out]; simp only [lossRows_append]; exact Hx8.out.2.2.2.2
                        case measure => simp [intOf]; omega
                    · have hml : decide ((m : Int) < (fi : Int)) = false := by simp; omega
                      obtain rfl : m = fi := by omega
                      have hto : s.to fs m = s.go fs j := by
                        have := Hm.out
                        unfold RS.to
                        rw [show m - s.now = j by omega]
                      have ht1 : 1 ≤ bt0 ∧ bt0 ≤ 1000000000000000 := by simpa [inB] using htm
                      obtain ⟨ht1, ht2⟩ := ht1
                      have hoff : Hid (stepOf l fs s ⟨m, jo, bt0⟩ = if barterErr (s.go fs j).held o bt0 ≠ 0 then .inl (barterErr (s.go fs j).held o bt0) else .inr ⟨barterHeld (s.go fs j).held o bt0, (s.go fs j).losses, (s.go fs j).now⟩) := Lib.hid (by
                        unfold stepOf
                        rw [Hgood.out, if_neg (by simp)]
                        simp only [Int.toNat_natCast]
                        rw [hto, Hoat.out])
                      clear hto htm
                      have hxE : Ext w2 wr := Hx3.out.only_trans hxi hbw
                      have hobne : ob ≠ hb := by omega
                      have q0 := hxE.cell e0
                      have q1 := hxE.cell e1
                      have q2 := hxE.cell e2
                      have q3 := hxE.cell e3
                      have q4 := hxE.cell e4
                      have q5 := hxE.cell e5
                      have q6 := hxE.cell e6
                      have q7 := hxE.cell e7
                      clear e0 e1 e2 e3 e4 e5 e6 e7
                      obtain ⟨pl, og, oe, un, lo, hi, fr, to⟩ := o
                      have hgi' := Hgi.out
                      have hge' := Hge.out
                      simp only at hgi' hge' q0 q1 q2 q3 q4 q5 q6 q7 hu1 hu2 hlo1 hlo2 hhi
                      subst hgi' hge'
                      clear Hgi Hge
                      obtain ⟨⟨sl, sh⟩, hs, c0, c1, cf⟩ := Hhj.out.get gi hgi5
                      obtain ⟨⟨ul, uh⟩, hu, _, d1, _⟩ := Hhj.out.get ge hge5
                      obtain ⟨sb1, sb2, sb3⟩ := Hokj.out.1.2 gi _ hs
                      obtain ⟨ub1, ub2, ub3⟩ := Hokj.out.1.2 ge _ hu
                      have hbe : barterErr (s.go fs j).held ⟨pl, gi, ge, un, lo, hi, fr, to⟩ bt0 = if sl < bt0 * un then 63 else if 1000000000000000 < uh + bt0 * hi then 9 else 0 := by
                        simp only [barterErr, Int.toNat_natCast, List.getD, hs, hu, Option.getD_some]
                      have hbh : barterHeld (s.go fs j).held ⟨pl, gi, ge, un, lo, hi, fr, to⟩ bt0 = ((s.go fs j).held.set gi ⟨sl - bt0 * un, sh - bt0 * un⟩).set ge ⟨ul + bt0 * lo, uh + bt0 * hi⟩ := by
                        simp only [barterHeld, Int.toNat_natCast, List.getD, hs, hu, Option.getD_some]
                      obtain ⟨m1, m1'⟩ := mul_bd (M := 1000000000000000) (N := 50) (show 0 ≤ bt0 by omega) ht2 (show 0 ≤ un by omega) hu2
                      obtain ⟨m2, m2'⟩ := mul_bd (M := 1000000000000000) (N := 50) (show 0 ≤ bt0 by omega) ht2 (show 0 ≤ lo by omega) (show lo ≤ 50 by omega)
                      obtain ⟨m3, m3'⟩ := mul_bd (M := 1000000000000000) (N := 50) (show 0 ≤ bt0 by omega) ht2 (show 0 ≤ hi by omega) hhi
                      simp only [Int.reduceMul] at m1' m2' m3'
                      simp only at sb1 sb2 sb3 ub1 ub2 ub3 c0 c1 d1
                      obtain ⟨P, hP⟩ : ∃ P, bt0 * un = P := ⟨_, rfl⟩
                      obtain ⟨L, hL⟩ : ∃ L, bt0 * lo = L := ⟨_, rfl⟩
                      obtain ⟨H, hH⟩ : ∃ H, bt0 * hi = H := ⟨_, rfl⟩
                      rw [hP] at m1 m1' hbe hbh
                      rw [hL] at m2 m2' hbh
                      rw [hH] at m3 m3' hbe hbh
                      have Hs := Lib.hid hs
                      have Hu := Lib.hid hu
                      have Hbe := Lib.hid hbe
                      have Hbh := Lib.hid hbh
                      have Hxi := Lib.hid hxi
                      clear hs hu hbe hbh hxi
                      clear hxE
                      have hwlt : Wr.heap.size < wr.heap.size := hbxl
                      go_wp2_with fail
                      have hbx : (wr.alloc (.cells #[.int .i64 pl, .int .i64 gi, .int .i64 ge, .int .i64 un, .int .i64 lo, .int .i64 hi, .int .i64 fr, .int .i64 to] 81)).heap[wr.heap.size]? = some (.cells #[.int .i64 pl, .int .i64 gi, .int .i64 ge, .int .i64 un, .int .i64 lo, .int .i64 hi, .int .i64 fr, .int .i64 to] 81 (0, 0)) := heap_alloc_new _ _
                      have hx0 : Ext wr (wr.alloc (.cells #[.int .i64 pl, .int .i64 gi, .int .i64 ge, .int .i64 un, .int .i64 lo, .int .i64 hi, .int .i64 fr, .int .i64 to] 81)) := (Ext.refl _).alloc _
                      generalize wr.alloc (.cells #[.int .i64 pl, .int .i64 gi, .int .i64 ge, .int .i64 un, .int .i64 lo, .int .i64 hi, .int .i64 fr, .int .i64 to] 81) = W5 at *
                      have hbx2 := hx0.heap Hbxi.out
                      clear bxc bxf q0 q1 q2 q3 q4 q5 q6 q7
                      refine wp_region_ext (by kernel_rfl) (by kernel_rfl) (fun f hf hs => ?_)
                      have f0 := fun q => ((hf q).box hbx).1
                      have f1 := fun q => ((hf q).box hbx2).1
                      have f2 := fun q => (hx0.trans (hf q)).cell c0
                      clear hf hs
                      repeat (go_big_quiet_step (fail))
                      refine wpQuiet_nil ?_
                      intro W6 hW6
                      clear f0 f1 f2
                      have hx06 := hx0.trans hW6
                      by_cases hsh : sl < P
                      · have hshB : decide (sl < P) = true := by simpa using hsh
                        have hE := Hbe.out
                        rw [if_pos hsh] at hE
                        have hst := hoff.out
                        rw [hE, if_pos (by simp)] at hst
                        have hres := Hr1.out _ (runTo_stop Hrt.out Hbk.out hst)
                        have Hres := Lib.hid hres
                        have Hx06 := Lib.hid hx06
                        clear hres hx06
                        clear hst hE hoff hbx hbx2 hx0 hW6
                        go_wp2_with fail
                        refine bodyPost_ret (results_tmp4 rfl _ _ _) rfl ?_
                        rw [Hres.out]
                        exact RunPost.bad (Hxw.out.trans ((Hx3.out.only_trans (Hxi.out.ext Hx06.out) hbw)))
                      have hshB : decide (sl < P) = false := by simpa using hsh
                      have hE := Hbe.out
                      rw [if_neg hsh] at hE
                      have hPs : P ≤ sl := by omega
                      have hb6a := hW6.heap hbx
                      have hb6b := hW6.heap hbx2
                      have Hx06 := Lib.hid hx06
                      have HE := Lib.hid hE
                      clear hx06 hE
                      clear hsh hbx hbx2 hx0 hW6
                      go_wp2_with fail
                      refine wp_region_ext (by kernel_rfl) (by kernel_rfl) (fun f hf hs => ?_)
                      have f0 := fun q => ((hf q).box hb6a).1
                      have f1 := fun q => ((hf q).box hb6b).1
                      have f2 := fun q => (Hx06.out.trans (hf q)).cell d1
                      clear hf hs
                      repeat (go_big_quiet_step (fail))
                      refine wpQuiet_nil ?_
                      intro W7 hW7
                      clear f0 f1 f2
                      have hx07 := Hx06.out.trans hW7
                      by_cases hfu : 1000000000000000 < uh + H
                      · have hfB : decide (1000000000000000 < uh + H) = true := by simpa using hfu
                        have hE2 := HE.out
                        rw [if_pos hfu] at hE2
                        have hst := hoff.out
                        rw [hE2, if_pos (by simp)] at hst
                        have hres := Hr1.out _ (runTo_stop Hrt.out Hbk.out hst)
                        have Hres := Lib.hid hres
                        have Hx07 := Lib.hid hx07
                        clear hres hx07
                        clear hst hE2 hoff hW7 hb6a hb6b
                        go_wp2_with fail
                        refine bodyPost_ret (results_tmp4 rfl _ _ _) rfl ?_
                        rw [Hres.out]
                        exact RunPost.bad (Hxw.out.trans ((Hx3.out.only_trans (Hxi.out.ext Hx07.out) hbw)))
                      have hfB : decide (1000000000000000 < uh + H) = false := by simpa using hfu
                      have hE2 := HE.out
                      rw [if_neg hfu] at hE2
                      have hfu2 : uh + H ≤ 1000000000000000 := by omega
                      have hb7a := hW7.heap hb6a
                      have hb7b := hW7.heap hb6b
                      have hhe := Hhj.out.ext hx07
                      have hoe := Hoj.out.ext hx07
                      have hx37 := Hxi.out.ext hx07
                      have c07 := hx07.cell c0
                      have c17 := hx07.cell c1
                      have cf7 : ∀ j, W7.frozen? ⟨hb, j, none⟩ = false := by
                        obtain ⟨_, _, _, _, h⟩ := hhe.get gi hgi5
                        exact h
                      have hne1 : wr.heap.size ≠ hb := by have := Hhj.out.lt; omega
                      have hst := hoff.out
                      rw [hE2, if_neg (by simp)] at hst
                      have hnext := runTo_next Hrt.out Hbk.out hst
                      have Hnext := Lib.hid hnext
                      have HE2 := Lib.hid hE2
                      have Hhe := Lib.hid hhe
                      have Hoe := Lib.hid hoe
                      have Hx37 := Lib.hid hx37
                      clear hnext hE2 hhe hoe hx37
                      clear hst hoff HE hfu hW7 hb6a hb6b hx07 c0 c1 d1
                      go_wp2_with fail
                      refine wp_region_mix [0, 1, 2, 3, 4, 5, 6, 7, 8, 9, 10, 11, 12, 13, 14, 15, 16, 17, 18, 19, 20, 21, 22, 23, 24, 25, 26, 27, 28] [(29, true)] (Ext W7) _ _ (by kernel_rfl) (by kernel_rfl) (by kernel_rfl) rfl rfl ((Ext.refl _).drew) ?_
                      intro ι _ f hf
                      have f0 := fun q => ((hf q).box hb7a).1
                      have f1 := fun q => ((hf q).box hb7b).1
                      have f2 := fun q => (hf q).cell c07
                      have f3 := fun q => (hf q).cell c17
                      clear hf
                      simp only [opsOf, opsOfT, consOp, consOpT, List.getElem?_toArray, List.getElem?_cons_succ, List.getElem?_cons_zero]
                      repeat (go_big_quiet_step (fail))
                      refine wpQuiet_nil ?_
                      clear f0 f1 f2 f3
                      refine wpListS_last ?_
                      go_wp2_with fail
                      refine wpListS_nil ?_
                      have hx8 : Only hb W7 (((W7.setCell ⟨hb, gi * 2, none⟩ (.int .i64 (sl - P))).setCell ⟨hb, gi * 2 + 1, none⟩ (.int .i64 (sh - P))).drew) := (((Only.refl hb W7).setCell (x := ⟨hb, gi * 2, none⟩) (.inl rfl) _).setCell (x := ⟨hb, gi * 2 + 1, none⟩) (.inl rfl) _).drew
                      have hh8 : HeldAt (((W7.setCell ⟨hb, gi * 2, none⟩ (.int .i64 (sl - P))).setCell ⟨hb, gi * 2 + 1, none⟩ (.int .i64 (sh - P))).drew) hb ((s.go fs j).held.set gi ⟨sl - P, sh - P⟩) := (Hhe.out.set Hs.out (sl - P) (sh - P)).same rfl
                      generalize (((W7.setCell ⟨hb, gi * 2, none⟩ (.int .i64 (sl - P))).setCell ⟨hb, gi * 2 + 1, none⟩ (.int .i64 (sh - P))).drew) = W8 at *
                      obtain ⟨u', hu', k0, k1, cf8⟩ := hh8.get ge hge5
                      rw [List.getElem?_set, if_neg hgne, Hu.out] at hu'
                      cases hu'
                      simp only at k0 k1
                      have hb8a := hx8.heap hb7a hne1
                      have hb8b := hx8.heap hb7b hpne
                      have ho8 := Hoe.out.only hx8 hbl3
                      have hx38 := Hx37.out.trans hx8
                      have Hh8 := Lib.hid hh8
                      have Ho8 := Lib.hid ho8
                      have Hx38 := Lib.hid hx38
                      clear hh8 ho8 hx38
                      clear hx8 hb7a hb7b c07 c17 cf7 hwlt
                      go_wp2_with fail
                      refine wp_region_mix [0, 1, 2, 3, 4, 5, 6, 7, 8, 9, 10, 11, 12, 13, 14, 15, 16, 17, 18, 19, 20, 21, 22, 23, 24, 25, 26, 27, 28, 29, 30] [(31, true)] (Ext W8) _ _ (by kernel_rfl) (by kernel_rfl) (by kernel_rfl) rfl rfl ((Ext.refl _).drew) ?_
                      intro ι _ f hf
                      have f0 := fun q => ((hf q).box hb8a).1
                      have f1 := fun q => ((hf q).box hb8b).1
                      have f2 := fun q => (hf q).cell k0
                      have f3 := fun q => (hf q).cell k1
                      clear hf
                      simp only [opsOf, opsOfT, consOp, consOpT, List.getElem?_toArray, List.getElem?_cons_succ, List.getElem?_cons_zero]
                      repeat (go_big_quiet_step (fail))
                      refine wpQuiet_nil ?_
                      clear f0 f1 f2 f3
                      refine wpListS_last ?_
                      go_wp2_with fail
                      refine wpListS_nil ?_
                      have hx9 : Only hb W8 (((W8.setCell ⟨hb, ge * 2, none⟩ (.int .i64 (ul + L))).setCell ⟨hb, ge * 2 + 1, none⟩ (.int .i64 (uh + H))).drew) := (((Only.refl hb W8).setCell (x := ⟨hb, ge * 2, none⟩) (.inl rfl) _).setCell (x := ⟨hb, ge * 2 + 1, none⟩) (.inl rfl) _).drew
                      have hh9 : HeldAt (((W8.setCell ⟨hb, ge * 2, none⟩ (.int .i64 (ul + L))).setCell ⟨hb, ge * 2 + 1, none⟩ (.int .i64 (uh + H))).drew) hb (((s.go fs j).held.set gi ⟨sl - P, sh - P⟩).set ge ⟨ul + L, uh + H⟩) := (Hh8.out.set (by rw [List.getElem?_set, if_neg hgne]; exact Hu.out) (ul + L) (uh + H)).same rfl
                      generalize (((W8.setCell ⟨hb, ge * 2, none⟩ (.int .i64 (ul + L))).setCell ⟨hb, ge * 2 + 1, none⟩ (.int .i64 (uh + H))).drew) = W9 at *
                      have ho9 := Ho8.out.only hx9 hbl3
                      have hx39 := Hx38.out.trans hx9
                      rw [← Hbh.out] at hh9
                      have Hh9 := Lib.hid hh9
                      have Ho9 := Lib.hid ho9
                      have Hx39 := Lib.hid hx39
                      clear hh9 ho9 hx39
                      clear hx9 hb8a hb8b k0 k1 cf8
                      go_wp2_with fail
                      go_roundw
                      case rel => exact ⟨k + 1, _, by omega, by go_num, by rw [Hnow.out], Hnext.out, RS.Ok.barter (l := l) Hokj.out Hva.out ht1 (by rw [Hbe.out, if_neg (by omega), if_neg (by omega)]), Hx39.out, Hh9.out, Ho9.out⟩
                      case measure => simp [intOf]; omega
        · skip
          obtain rfl : k = bn := by omega
          have hlt' : decide ((k : Int) < (k : Int)) = false := by simp
          have hfin := Hr2.out s (by rw [Hbl.out]; exact Hrt.out)
          have hnow := Hok.out.2.1
          rw [Hfl.out] at hnow
          have hnol : HeldAt wr hb s.held := Hheld.out
          have Hfin := Lib.hid hfin
          have Hx := Lib.hid hx
          clear hfin hx
          obtain ⟨Wr, hWr⟩ : ∃ W : World, W = wr := ⟨_, rfl⟩
          subst hWr
          go_wp2_with fail
          go_loopw [15, 16] (fun v nw wi => ∃ j : Nat, s.now + j ≤ fn - 1 ∧ nw = .int .i64 ((s.now + j : Nat) : Int) ∧ Only hb w3 wi ∧ HeldAt wi hb (s.go fs j).held ∧ Owns wi w3.heap.size 73 4 v (lossRows (s.go fs j).losses)) (fun _ nw _ => fn - (intOf nw).toNat)
          case atStart => exact ⟨0, by omega, rfl, Hxo.out, Hheld.out, Hown.out⟩
          case round =>
            obtain ⟨j, hj, rfl, hxi, hhj, hoj⟩ := hrel
            have hokj := Hok.out.go Ht.out j (by have := Hfl.out; omega)
            have Hnow := Lib.hid (RS.go_now fs s j)
            clear hnol
            have Hhj := Lib.hid hhj
            have Hoj := Lib.hid hoj
            have Hokj := Lib.hid hokj
            clear hhj hoj hokj
            obtain ⟨m, hm⟩ : ∃ m, s.now + j = m := ⟨_, rfl⟩
            rw [hm] at hj Hnow
            rw [hm]
            have Hm := Lib.hid hm
            clear hm
            by_cases hjl : m < fn - 1
            · obtain ⟨bf, off, y, ka', kn', kc', e', hy, hbf, d0', d1', d2', _, _, d3'⟩ := (Hf.out.ext Hxw.out).get m (by omega)
              cases e'
              have hxE : Ext w2 wr := Hx3.out.only_trans hxi hbw
              have d0 := hxE.cell d0'
              have d1 := hxE.cell d1'
              have d2 := hxE.cell d2'
              have d3 := d3'.ext hxE
              have hyk := (fair_bounds Ht.out hy)
              obtain rfl : kn' = 5 := by rw [← d3.1]; exact hyk.1
              have hkeq : keepsOf fs m = y.keeps := by simp [keepsOf, List.getD, hy]
              have hkab : ∀ z, ka' = some z → z.block ≠ hb := fun z hz => by
                obtain ⟨_, _, _, e, _, h, _⟩ := d3'.get 0 (by omega)
                rw [hz] at e
                cases e
                simp only
                omega
              have hroad := refRoad_any hb hc m y.place y.day ka' kc' (s.go fs j).held y.keeps wr Hhj.out d3 hkab Hokj.out.1 ⟨hyk.1, hyk.2.2.2.2.2⟩
              have hstep : s.go fs (j + 1) = ⟨roadTo (s.go fs j).held y.keeps 5, (s.go fs j).losses ++ roadLosses m (s.go fs j).held y.keeps 5, m + 1⟩ := by
                have h1 := Hnow.out
                simp only [RS.go, RS.step, h1, hkeq]
              have hlj := Hokj.out.2.2
              have hrl5 := roadLosses_len m (s.go fs j).held y.keeps 5
              have hnowj := Hnow.out
              have hxiw := hxi.size
              have hml : decide ((m : Int) < (fn : Int) - 1) = true := by simp; omega
              have hm5 : m ≤ 5 := by omega
              have hll : (s.go fs j).losses.length ≤ 25 := by rw [hnowj] at hlj; omega
              have Hroad := Lib.hid hroad
              have Hstep := Lib.hid hstep
              have Hxi := Lib.hid hxi
              clear hroad hstep hxi
              clear hyk hkeq hkab d3 d3' hy d0' d1' d2' hlj hnowj hxE
              go_wp2_with (first | (go_at_call 57; refine Hroad.out.mono ?_; rintro e w7 ⟨al, nl, cl, rfl, hox, hfr, hlc, hlm, hls, hh7⟩; have Ho7 := Lib.hid (Hoj.out.only hox (by omega)); have Hls := Lib.hid hls; have Hh7 := Lib.hid hh7; have Hox := Lib.hid hox; have hsz7 := hox.size; clear hls hh7 hox) | (at_builtin; refine wpList_app elem36 _ rfl (.tmp 216) (.tmp 223) rfl w3.heap.size _ _ rfl Ho7.out al nl cl (lossRows (roadLosses m (s.go fs j).held y.keeps 5)) rfl ?_ Hls.out.src (lossRows_row _) ?_ ?_ ?_))
              · have := Hls.out.1; simpa [lossRows] using this
              · have := Hls.out.1; simp only [lossRows, List.length_map]; omega
              · omega
              · intro v' w8 ho8 hg8 hob
                have hx7 : Only hb w3 w7 := Hxi.out.trans Hox.out
                have hx8 : Only hb w3 w8 := hx7.app Ho7.out hg8
                have hh8 := Hh7.out.app Ho7.out hg8 hbl3
                have Hx8 := Lib.hid (And.intro hx8 (And.intro hh8 ho8))
                clear d0 d1 d2 hx7 hx8 hh8 ho8 hg8 hob
                go_wp2_with fail
                go_roundw
                case rel =>
                  refine ⟨j + 1, by have := Hm.out; omega, by have := Hm.out; rw [← this]; go_num, Hx8.out.1, ?_, ?_⟩
                  · rw [Hstep.out]; exact Hx8.out.2.1
                  · rw [Hstep.out]; simp only [lossRows_append]; exact Hx8.out.2.2
                case measure => simp [intOf]; omega
            · have hml : decide ((m : Int) < (fn : Int) - 1) = false := by simp; omega
              have hto : s.to fs (fs.length - 1) = s.go fs j := by
                have := Hm.out
                have := Hfl.out
                unfold RS.to
                rw [show fs.length - 1 - s.now = j by omega]
              have Hto := Lib.hid hto
              have Hxi := Lib.hid hxi
              clear hto hxi
              go_wp2_with fail
              refine bodyPost_ret (results_tmp4 rfl _ _ _) rfl ?_
              rw [Hfin.out, Hto.out]
              obtain ⟨la, lc, rfl, _, _, _, hls⟩ := losses_of_owns Hoj.out
              have hl5 := Hokj.out.2.2
              have hn5 := Hnow.out
              exact ⟨some ⟨hb, 0, none⟩, 5, hc, la, _, lc, rfl, Hxw.out.trans (Hx3.out.only_trans Hxi.out hbw), by omega, by omega, Hhj.out.spans, hls⟩
end Go.Proofs.Ytkbhmajcddmhnaa
