/- Contract: market.Bound. -/
import Derived.Test.YtkbhmajcddmhnaaVPriced
import Derived.Test.YtkbhmajcddmhnaaVRefBound
import Derived.Test.YtkbhmajcddmhnaaVGr4
namespace Go.Proofs.Ytkbhmajcddmhnaa
open Go.RowKit
set_option linter.unusedVariables false
set_option linter.unusedSimpArgs false

theorem good_ext (n : Int) (w : World) : Calls Try.prog 48 #[.int .i64 n] w fun e w' => e = .returned (.bool (inB n 0 4)) ∧ Ext w w' :=
  (good_any n w).mono (by rintro e w' ⟨h, rfl⟩; exact ⟨h, Ext.refl _⟩)

theorem PB_and {P Q : Prop} : PB (P ∧ Q) = (PB P && PB Q) := by
  unfold PB
  by_cases h1 : P <;> by_cases h2 : Q <;> simp [h1, h2]
theorem PB_elim {P : Prop} (h : PB P = true) : P := by
  rcases Classical.em P with h' | h'
  · exact h'
  · rw [PB_false h'] at h; cases h

set_option maxRecDepth 100000 in
set_option maxHeartbeats 4000000 in
theorem bound_any (a : Option Addr) (n cap : Nat) (l : List Offer) (fa : Option Addr) (fn fc : Nat) (fs : List Fair) (sa : Option Addr) (sn sc : Nat) (xs : List Int) (pa : Option Addr) (pn pc : Nat) (ps : List (List Int)) (want : Int) (w : World)
    (hl : OffersAt w a n l) (hf : FairsAt w fa fn fs) (hs : IntsAt .i64 w sa sn xs) (hp : RowsAt w pa pn ps) (hn : n ≤ 1000000) (hfn : fn ≤ 1000000) (hsn : sn ≤ 1000000) (hpn : pn ≤ 1000000) :
    Calls Try.prog 16 #[.slice a n cap, .slice fa fn fc, .slice sa sn sc, .int .i64 want, .slice pa pn pc] w fun e w' => e = .returned (.tuple #[.int .i64 (boundOf l fs xs want ps).1, .int .i64 (boundOf l fs xs want ps).2]) ∧ Ext w w' := by
  cases ho : offersOk l with
  | false =>
    have hb : boundOf l fs xs want ps = (0, 60) := by unfold boundOf checkOf; simp [ho]
    rw [hb]
    have htr := travel_offers a n cap l (.slice fa fn fc) w hl hn ho
    have Htr := Lib.hid htr
    clear hl hf hs hp ho htr hb
    go_enter Try.func16, Try.ntmps16
    go_wp2_with (go_at_call 46; refine Htr.out.mono ?_; rintro e w1 ⟨rfl, hx1⟩)
    go_ret2
    exact ⟨rfl, Ext.alloc (by assumption) _⟩
  | true =>
  cases ht : tripOk fs with
  | false =>
    have hb : boundOf l fs xs want ps = (0, 61) := by unfold boundOf checkOf; simp [ho, ht]
    rw [hb]
    have htr := travel_trip a n cap l fa fn fc fs w hl hf hfn ho ht
    have Htr := Lib.hid htr
    clear hl hf hs hp ho htr hb ht
    go_enter Try.func16, Try.ntmps16
    go_wp2_with (go_at_call 46; refine Htr.out.mono ?_; rintro e w1 ⟨rfl, hx1⟩)
    go_ret2
    exact ⟨rfl, Ext.alloc (by assumption) _⟩
  | true =>
  have hc0 : checkOf l fs = 0 := by unfold checkOf; simp [ho, ht]
  have htr := travel_ok a n cap l fa fn fc fs w hl hf ho ht
  have Htr := Lib.hid htr
  clear htr
  cases h1 : stocksOk xs with
  | false =>
    have hb : boundOf l fs xs want ps = (0, 2) := by unfold boundOf; rw [if_neg (by simp [hc0]), if_pos (by simp [h1])]
    rw [hb]
    have hst := fun W (hW : Ext w W) => filled_bad sa sn sc xs W (hs.ext hW) hsn h1
    have Hst := Lib.hid hst
    clear hst hb hl hf hs hp hc0 h1 ho ht
    go_enter Try.func16, Try.ntmps16
    go_wp2_with (first | (go_at_call 46; refine Htr.out.mono ?_; rintro e w1 ⟨mp, rfl, hx1, _⟩) | (go_at_call 47; refine (Hst.out _ (hx1.alloc _)).mono ?_; rintro e w2 ⟨rfl, hx2⟩))
    go_ret2
    exact ⟨rfl, ((hx1.alloc _).trans hx2).alloc _⟩
  | true =>
  obtain ⟨hx5, hxb⟩ := stock_get h1
  obtain rfl : sn = 5 := by rw [← hs.1]; exact hx5
  obtain ⟨x0, x1, x2, x3, x4, rfl⟩ : ∃ x0 x1 x2 x3 x4, xs = [x0, x1, x2, x3, x4] := by
    match xs, hx5 with
    | [y0, y1, y2, y3, y4], _ => exact ⟨_, _, _, _, _, rfl⟩
  have hst := fun W (hW : Ext w W) => filled_ok sa sc x0 x1 x2 x3 x4 W (hs.ext hW) h1
  have Hst := Lib.hid hst
  clear hst
  have hgo := fun W => good_ext want W
  cases h2 : inB want 0 4 with
  | false =>
    have hb : boundOf l fs [x0, x1, x2, x3, x4] want ps = (0, 2) := by unfold boundOf; rw [if_neg (by simp [hc0]), if_pos (by simp [h2])]
    rw [hb]
    rw [h2] at hgo
    have Hgo := Lib.hid hgo
    clear hb hl hf hs hp hc0 h1 ho ht h2 hgo hxb
    go_enter Try.func16, Try.ntmps16
    go_wp2_with (first | (go_at_call 46; refine Htr.out.mono ?_; rintro e w1 ⟨mp, rfl, hx1, _⟩) | (go_at_call 47; refine (Hst.out _ (hx1.alloc _)).mono ?_; rintro e w2 ⟨rfl, hx2⟩) | (go_at_call 48; refine (Hgo.out _).mono ?_; rintro e w3 ⟨rfl, hx3⟩))
    go_ret2
    exact ⟨rfl, (((hx1.alloc _).trans hx2).alloc _).trans hx3⟩
  | true =>
  rw [h2] at hgo
  have Hgo := Lib.hid hgo
  clear hgo
  have hw04 : 0 ≤ want ∧ want ≤ 4 := by simpa [inB] using h2
  obtain ⟨hw0, hw4⟩ := hw04
  obtain ⟨wv, rfl⟩ : ∃ wv : Nat, want = wv := ⟨want.toNat, by omega⟩
  have hprc := fun W mp (hW : Ext w W) (hm : MarketAt w.heap.size W mp a n cap l) => priced_any w.heap.size mp a n cap l fa fn fc fs pa pn pc ps W (hl.ext hW) hm (hf.ext hW) (hp.ext hW) hpn ho ht
  have hlen := trip_len ht
  have hfl := hf.1
  cases h3 : PB (Priced l fs ps) with
  | false =>
    have hb : boundOf l fs [x0, x1, x2, x3, x4] wv ps = (0, 64) := by unfold boundOf; rw [if_neg (by simp [hc0]), if_neg (by simp [h1, h2]), if_pos (by rw [PB_and, h3]; rfl)]
    rw [hb]
    rw [h3] at hprc
    have Hpr := Lib.hid hprc
    clear hb hl hf hs hp hc0 h1 ho ht h2 hprc h3 hxb hlen hfl
    go_enter Try.func16, Try.ntmps16
    go_wp2_with (first | (go_at_call 46; refine Htr.out.mono ?_; rintro e w1 ⟨mp, rfl, hx1, hm1⟩; have Hm1 := Lib.hid hm1; clear hm1) | (go_at_call 47; refine (Hst.out _ (hx1.alloc _)).mono ?_; rintro e w2 ⟨rfl, hx2⟩; have hb2 := hx2.heap (heap_alloc_new w1 _)) | (go_at_call 48; refine (Hgo.out _).mono ?_; rintro e w3 ⟨rfl, hx3⟩; obtain ⟨bc3, bf3⟩ := (((Ext.refl _).alloc _).trans hx3).box hb2) | (go_at_call 49; refine (Hpr.out _ _ ((((hx1.alloc _).trans hx2).alloc _).trans hx3) (Hm1.out.ext (((((Ext.refl _).alloc _).trans hx2).alloc _).trans hx3))).mono ?_; rintro e w4 ⟨rfl, hx4⟩))
    go_ret2
    exact ⟨rfl, ((((hx1.alloc _).trans hx2).alloc _).trans hx3).trans hx4⟩
  | true =>
  have hP := PB_elim h3
  rw [h3] at hprc
  have Hpr := Lib.hid hprc
  have hpl : pn = fn := by rw [← hf.1, ← hp.1]; exact hP.1
  subst hpl
  have Hp := Lib.hid hp
  have HP := Lib.hid hP
  have Hxb := Lib.hid hxb
  have Hfl := Lib.hid hfl
  have hpn1 : 1 ≤ pn := by omega
  have hpn5 : pn ≤ 5 := by omega
  obtain ⟨pb, po, rb, ro, rc, rfl, hpb, p0, hrb, hrow⟩ := hp.price hP.2.1 (pn - 1) (by omega)
  obtain ⟨q1, q1a, q1b⟩ := hrow wv (by omega)
  have hpm : ((pn : Int) - 1).toNat = pn - 1 := by omega
  have hb : boundOf l fs [x0, x1, x2, x3, x4] wv ps = if pr ps (pn - 1) wv = 0 then (0, 64) else (worthTo [x0, x1, x2, x3, x4] ps 5 / pr ps (pn - 1) wv, 0) := by
    unfold boundOf
    rw [if_neg (by simp [hc0]), if_neg (by simp [h1, h2]), hfl]
    by_cases h0 : pr ps (pn - 1) wv = 0
    · rw [if_pos (by rw [PB_and, PB_false (P := 0 < _) (by omega)]; simp), if_pos h0]
    · rw [if_neg (by rw [PB_and, h3, PB_true (P := 0 < _) (by omega)]; simp), if_neg h0]
  clear hrow
  rw [hb]
  clear hb hl hf hs hc0 h1 ho ht h2 hprc h3 hP hxb hlen hfl hx5
  obtain ⟨A, hA⟩ : ∃ A, pr ps (pn - 1) wv = A := ⟨_, rfl⟩
  rw [hA] at q1a q1b q1
  rw [hA]
  clear hA
  have hcut := fun (W : World) => hp
  clear hcut
  by_cases hA0 : A = 0
  · subst hA0
    rw [if_pos rfl]
    clear hp
    go_enter Try.func16, Try.ntmps16
    go_wp2_with (first | (go_at_call 46; refine Htr.out.mono ?_; rintro e w1 ⟨mp, rfl, hx1, hm1⟩; have Hm1 := Lib.hid hm1; clear hm1) | (go_at_call 47; refine (Hst.out _ (hx1.alloc _)).mono ?_; rintro e w2 ⟨rfl, hx2⟩; have hb2 := hx2.heap (heap_alloc_new w1 _)) | (go_at_call 48; refine (Hgo.out _).mono ?_; rintro e w3 ⟨rfl, hx3⟩; obtain ⟨bc3, bf3⟩ := (((Ext.refl _).alloc _).trans hx3).box hb2) | (go_at_call 49; refine (Hpr.out _ _ ((((hx1.alloc _).trans hx2).alloc _).trans hx3) (Hm1.out.ext (((((Ext.refl _).alloc _).trans hx2).alloc _).trans hx3))).mono ?_; rintro e w4 ⟨rfl, hx4⟩; have hb4 := (hx3.trans hx4).heap (heap_alloc_new w2 _); obtain ⟨bc4, bf4⟩ := (Ext.refl _).box hb4; have q1x := (((((hx1.alloc _).trans hx2).alloc _).trans hx3).trans hx4).cell q1; have p0x := (((((hx1.alloc _).trans hx2).alloc _).trans hx3).trans hx4).cell p0))
    go_ret2
    exact ⟨rfl, ((((hx1.alloc _).trans hx2).alloc _).trans hx3).trans hx4⟩
  · rw [if_neg hA0]
    have hA1 : (A == 0) = false := by simp; omega
    clear hp
    go_enter Try.func16, Try.ntmps16
    go_wp2_with (first | (go_at_call 46; refine Htr.out.mono ?_; rintro e w1 ⟨mp, rfl, hx1, hm1⟩; have Hm1 := Lib.hid hm1; clear hm1) | (go_at_call 47; refine (Hst.out _ (hx1.alloc _)).mono ?_; rintro e w2 ⟨rfl, hx2⟩; have hb2 := hx2.heap (heap_alloc_new w1 _)) | (go_at_call 48; refine (Hgo.out _).mono ?_; rintro e w3 ⟨rfl, hx3⟩; obtain ⟨bc3, bf3⟩ := (((Ext.refl _).alloc _).trans hx3).box hb2) | (go_at_call 49; refine (Hpr.out _ _ ((((hx1.alloc _).trans hx2).alloc _).trans hx3) (Hm1.out.ext (((((Ext.refl _).alloc _).trans hx2).alloc _).trans hx3))).mono ?_; rintro e w4 ⟨rfl, hx4⟩; have hb4 := (hx3.trans hx4).heap (heap_alloc_new w2 _); obtain ⟨bc4, bf4⟩ := (Ext.refl _).box hb4; have q1x := (((((hx1.alloc _).trans hx2).alloc _).trans hx3).trans hx4).cell q1; have p0x := (((((hx1.alloc _).trans hx2).alloc _).trans hx3).trans hx4).cell p0))
    have hxw : Ext w w4 := (((((hx1.alloc _).trans hx2).alloc _).trans hx3).trans hx4)
    have Hxw := Lib.hid hxw
    have Hb4 := Lib.hid hb4
    clear hxw bc3 bf3 hb2 bc4 bf4 q1x p0x hb4 hx1 hx2 hx3 hx4
    go_loopw [16, 57] (fun s i wr => ∃ k : Nat, k ≤ 5 ∧ i = .int .i64 k ∧ s = .int .i64 (worthTo [x0, x1, x2, x3, x4] ps k) ∧ 0 ≤ worthTo [x0, x1, x2, x3, x4] ps k ∧ worthTo [x0, x1, x2, x3, x4] ps k ≤ 1000000000000 * k ∧ Ext w4 wr) (fun _ i _ => 5 - (intOf i).toNat)
    case atStart => exact ⟨0, Nat.zero_le _, rfl, rfl, by simp [worthTo], by simp [worthTo], Ext.refl _⟩
    case round =>
      obtain ⟨k, hk, rfl, rfl, hv1, hv2, hx⟩ := hrel
      have Hx := Lib.hid hx
      obtain ⟨bc5, bf5⟩ := hx.box Hb4.out
      clear hx
      by_cases hlt : k < 5
      · obtain ⟨pb', po', rb', ro', rc', e', hpb', p0', hrb', hrow'⟩ := (Hp.out.ext (Hxw.out.trans Hx.out)).price HP.out.2.1 0 (by omega)
        cases e'
        obtain ⟨q2, q2a, q2b⟩ := hrow' k hlt
        obtain ⟨x, hxk⟩ : ∃ x, [x0, x1, x2, x3, x4][k]? = some x := ⟨_, List.getElem?_eq_getElem (by simpa using hlt)⟩
        obtain ⟨x0', x1'⟩ := Hxb.out k x hxk
        have hw : Hid (worthTo [x0, x1, x2, x3, x4] ps (k + 1) = worthTo [x0, x1, x2, x3, x4] ps k + x * pr ps 0 k) := Lib.hid (by simp only [worthTo, List.getD, hxk, Option.getD_some])
        obtain ⟨C, hC⟩ : ∃ A, pr ps 0 k = A := ⟨_, rfl⟩
        rw [hC] at q2a q2b q2 hw
        obtain ⟨m1, m2⟩ := mul_bd (M := 1000000) (N := 1000000) x0' x1' q2a q2b
        simp only [Int.reduceMul] at m2
        simp only [Nat.add_zero] at p0'
        have hp0 : (0 : Int) < (pn : Int) := by omega
        obtain ⟨V, hV⟩ : ∃ V, worthTo [x0, x1, x2, x3, x4] ps k = V := ⟨_, rfl⟩
        rw [hV] at hv1 hv2 hw
        rw [hV]
        have hv3 : V ≤ 5000000000000 := by omega
        have hsum : IntKind.i64.wrap (V + x * C) = V + x * C := IntWalk.i64_in _ (by omega)
        clear hC hrow' hV
        have hk5 : k = 0 ∨ k = 1 ∨ k = 2 ∨ k = 3 ∨ k = 4 := by omega
        rcases hk5 with rfl | rfl | rfl | rfl | rfl
        · have ex : x = x0 := by simpa using hxk.symm
          subst ex
          simp only [Int.cast_ofNat_Int, Int.natCast_zero, Int.natCast_one, Nat.add_zero] at *
          have i0 : ∀ w, (Instr.index 107 (.agg #[.int .i64 x, .int .i64 x, .int .i64 x1, .int .i64 x1, .int .i64 x2, .int .i64 x2, .int .i64 x3, .int .i64 x3, .int .i64 x4, .int .i64 x4]) (.int .i64 0)).run Try.prog w = .ok (.agg #[.int .i64 x, .int .i64 x]) w := fun _ => by kernel_rfl
          go_wp2_with fail
          have hbx : (wr.alloc (.cells #[.int .i64 x, .int .i64 x] 70)).heap[wr.heap.size]? = some (.cells #[.int .i64 x, .int .i64 x] 70 (0, 0)) := heap_alloc_new _ _
          have hy1 : Ext wr (wr.alloc (.cells #[.int .i64 x, .int .i64 x] 70)) := (Ext.refl _).alloc _
          generalize wr.alloc (.cells #[.int .i64 x, .int .i64 x] 70) = W1 at *
          refine wp_region_ext (by kernel_rfl) (by kernel_rfl) (fun f' hf hs => ?_)
          have g3 := fun q => (hy1.trans (hf q)).cell p0'
          have g4 := fun q => (hy1.trans (hf q)).cell q2
          have g5 := fun q => ((hf q).box hbx).1
          clear hf hs hbx
          repeat (go_big_quiet_step (fail))
          refine wpQuiet_nil ?_
          intro W2 hW2
          clear g3 g4 g5
          have hxW : Ext w4 W2 := Hx.out.trans (hy1.trans hW2)
          go_wp2_with fail
          go_roundw
          case rel => exact ⟨1, by omega, by go_num, by rw [hw.out], by rw [hw.out]; omega, by rw [hw.out]; omega, hxW⟩
          case measure => simp [intOf]
        · have ex : x = x1 := by simpa using hxk.symm
          subst ex
          simp only [Int.cast_ofNat_Int, Int.natCast_zero, Int.natCast_one, Nat.add_zero] at *
          have i0 : ∀ w, (Instr.index 107 (.agg #[.int .i64 x0, .int .i64 x0, .int .i64 x, .int .i64 x, .int .i64 x2, .int .i64 x2, .int .i64 x3, .int .i64 x3, .int .i64 x4, .int .i64 x4]) (.int .i64 1)).run Try.prog w = .ok (.agg #[.int .i64 x, .int .i64 x]) w := fun _ => by kernel_rfl
          go_wp2_with fail
          have hbx : (wr.alloc (.cells #[.int .i64 x, .int .i64 x] 70)).heap[wr.heap.size]? = some (.cells #[.int .i64 x, .int .i64 x] 70 (0, 0)) := heap_alloc_new _ _
          have hy1 : Ext wr (wr.alloc (.cells #[.int .i64 x, .int .i64 x] 70)) := (Ext.refl _).alloc _
          generalize wr.alloc (.cells #[.int .i64 x, .int .i64 x] 70) = W1 at *
          refine wp_region_ext (by kernel_rfl) (by kernel_rfl) (fun f' hf hs => ?_)
          have g3 := fun q => (hy1.trans (hf q)).cell p0'
          have g4 := fun q => (hy1.trans (hf q)).cell q2
          have g5 := fun q => ((hf q).box hbx).1
          clear hf hs hbx
          repeat (go_big_quiet_step (fail))
          refine wpQuiet_nil ?_
          intro W2 hW2
          clear g3 g4 g5
          have hxW : Ext w4 W2 := Hx.out.trans (hy1.trans hW2)
          go_wp2_with fail
          go_roundw
          case rel => exact ⟨2, by omega, by go_num, by rw [hw.out], by rw [hw.out]; omega, by rw [hw.out]; omega, hxW⟩
          case measure => simp [intOf]
        · have ex : x = x2 := by simpa using hxk.symm
          subst ex
          simp only [Int.cast_ofNat_Int, Int.natCast_zero, Int.natCast_one, Nat.add_zero] at *
          have i0 : ∀ w, (Instr.index 107 (.agg #[.int .i64 x0, .int .i64 x0, .int .i64 x1, .int .i64 x1, .int .i64 x, .int .i64 x, .int .i64 x3, .int .i64 x3, .int .i64 x4, .int .i64 x4]) (.int .i64 2)).run Try.prog w = .ok (.agg #[.int .i64 x, .int .i64 x]) w := fun _ => by kernel_rfl
          go_wp2_with fail
          have hbx : (wr.alloc (.cells #[.int .i64 x, .int .i64 x] 70)).heap[wr.heap.size]? = some (.cells #[.int .i64 x, .int .i64 x] 70 (0, 0)) := heap_alloc_new _ _
          have hy1 : Ext wr (wr.alloc (.cells #[.int .i64 x, .int .i64 x] 70)) := (Ext.refl _).alloc _
          generalize wr.alloc (.cells #[.int .i64 x, .int .i64 x] 70) = W1 at *
          refine wp_region_ext (by kernel_rfl) (by kernel_rfl) (fun f' hf hs => ?_)
          have g3 := fun q => (hy1.trans (hf q)).cell p0'
          have g4 := fun q => (hy1.trans (hf q)).cell q2
          have g5 := fun q => ((hf q).box hbx).1
          clear hf hs hbx
          repeat (go_big_quiet_step (fail))
          refine wpQuiet_nil ?_
          intro W2 hW2
          clear g3 g4 g5
          have hxW : Ext w4 W2 := Hx.out.trans (hy1.trans hW2)
          go_wp2_with fail
          go_roundw
          case rel => exact ⟨3, by omega, by go_num, by rw [hw.out], by rw [hw.out]; omega, by rw [hw.out]; omega, hxW⟩
          case measure => simp [intOf]
        · have ex : x = x3 := by simpa using hxk.symm
          subst ex
          simp only [Int.cast_ofNat_Int, Int.natCast_zero, Int.natCast_one, Nat.add_zero] at *
          have i0 : ∀ w, (Instr.index 107 (.agg #[.int .i64 x0, .int .i64 x0, .int .i64 x1, .int .i64 x1, .int .i64 x2, .int .i64 x2, .int .i64 x, .int .i64 x, .int .i64 x4, .int .i64 x4]) (.int .i64 3)).run Try.prog w = .ok (.agg #[.int .i64 x, .int .i64 x]) w := fun _ => by kernel_rfl
          go_wp2_with fail
          have hbx : (wr.alloc (.cells #[.int .i64 x, .int .i64 x] 70)).heap[wr.heap.size]? = some (.cells #[.int .i64 x, .int .i64 x] 70 (0, 0)) := heap_alloc_new _ _
          have hy1 : Ext wr (wr.alloc (.cells #[.int .i64 x, .int .i64 x] 70)) := (Ext.refl _).alloc _
          generalize wr.alloc (.cells #[.int .i64 x, .int .i64 x] 70) = W1 at *
          refine wp_region_ext (by kernel_rfl) (by kernel_rfl) (fun f' hf hs => ?_)
          have g3 := fun q => (hy1.trans (hf q)).cell p0'
          have g4 := fun q => (hy1.trans (hf q)).cell q2
          have g5 := fun q => ((hf q).box hbx).1
          clear hf hs hbx
          repeat (go_big_quiet_step (fail))
          refine wpQuiet_nil ?_
          intro W2 hW2
          clear g3 g4 g5
          have hxW : Ext w4 W2 := Hx.out.trans (hy1.trans hW2)
          go_wp2_with fail
          go_roundw
          case rel => exact ⟨4, by omega, by go_num, by rw [hw.out], by rw [hw.out]; omega, by rw [hw.out]; omega, hxW⟩
          case measure => simp [intOf]
        · have ex : x = x4 := by simpa using hxk.symm
          subst ex
          simp only [Int.cast_ofNat_Int, Int.natCast_zero, Int.natCast_one, Nat.add_zero] at *
          have i0 : ∀ w, (Instr.index 107 (.agg #[.int .i64 x0, .int .i64 x0, .int .i64 x1, .int .i64 x1, .int .i64 x2, .int .i64 x2, .int .i64 x3, .int .i64 x3, .int .i64 x, .int .i64 x]) (.int .i64 4)).run Try.prog w = .ok (.agg #[.int .i64 x, .int .i64 x]) w := fun _ => by kernel_rfl
          go_wp2_with fail
          have hbx : (wr.alloc (.cells #[.int .i64 x, .int .i64 x] 70)).heap[wr.heap.size]? = some (.cells #[.int .i64 x, .int .i64 x] 70 (0, 0)) := heap_alloc_new _ _
          have hy1 : Ext wr (wr.alloc (.cells #[.int .i64 x, .int .i64 x] 70)) := (Ext.refl _).alloc _
          generalize wr.alloc (.cells #[.int .i64 x, .int .i64 x] 70) = W1 at *
          refine wp_region_ext (by kernel_rfl) (by kernel_rfl) (fun f' hf hs => ?_)
          have g3 := fun q => (hy1.trans (hf q)).cell p0'
          have g4 := fun q => (hy1.trans (hf q)).cell q2
          have g5 := fun q => ((hf q).box hbx).1
          clear hf hs hbx
          repeat (go_big_quiet_step (fail))
          refine wpQuiet_nil ?_
          intro W2 hW2
          clear g3 g4 g5
          have hxW : Ext w4 W2 := Hx.out.trans (hy1.trans hW2)
          go_wp2_with fail
          go_roundw
          case rel => exact ⟨5, by omega, by go_num, by rw [hw.out], by rw [hw.out]; omega, by rw [hw.out]; omega, hxW⟩
          case measure => simp [intOf]
      · have e : k = 5 := by omega
        subst e
        obtain ⟨V, hV⟩ : ∃ V, worthTo [x0, x1, x2, x3, x4] ps 5 = V := ⟨_, rfl⟩
        rw [hV] at hv1 hv2
        rw [hV]
        have q1' := Hxw.out.cell q1
        have p0' := Hxw.out.cell p0
        have q1'' := Hx.out.cell q1'
        have p0'' := Hx.out.cell p0'
        have HV := Lib.hid hV
        clear hV q1' p0'
        go_wp2_with fail
        go_ret2
        exact ⟨ret_two (by rw [HV.out]) rfl, Hxw.out.trans Hx.out⟩
end Go.Proofs.Ytkbhmajcddmhnaa
