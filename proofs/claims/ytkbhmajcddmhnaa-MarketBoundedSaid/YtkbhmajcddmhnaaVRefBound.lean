/- Contract of the reference: Bound. -/
import Derived.Test.YtkbhmajcddmhnaaVRefPr
import Derived.Test.YtkbhmajcddmhnaaVGr4
namespace Go.Proofs.Ytkbhmajcddmhnaa
open Go.RowKit
set_option linter.unusedVariables false

def worthTo (xs : List Int) (ps : List (List Int)) : Nat → Int
  | 0 => 0
  | k + 1 => worthTo xs ps k + xs.getD k 0 * pr ps 0 k
open Classical in
noncomputable def boundOf (l : List Offer) (fs : List Fair) (xs : List Int) (want : Int) (ps : List (List Int)) : Int × Int :=
  if checkOf l fs ≠ 0 then (0, checkOf l fs) else
  if (stocksOk xs && inB want 0 4) = false then (0, 2) else
  if PB (Priced l fs ps ∧ 0 < pr ps (fs.length - 1) want) = false then (0, 64) else
  (worthTo xs ps 5 / pr ps (fs.length - 1) want, 0)

theorem checkOf_zero {l : List Offer} {fs : List Fair} (h : checkOf l fs = 0) : offersOk l = true ∧ tripOk fs = true := by
  unfold checkOf at h
  cases h1 : offersOk l <;> cases h2 : tripOk fs <;> simp [h1, h2] at h ⊢
theorem checkOf_range (l : List Offer) (fs : List Fair) : 0 ≤ checkOf l fs ∧ checkOf l fs ≤ 61 := by
  unfold checkOf
  cases offersOk l <;> cases tripOk fs <;> simp

theorem stock_get {xs : List Int} (h : stocksOk xs = true) : xs.length = 5 ∧ ∀ (k : Nat) (x : Int), xs[k]? = some x → 0 ≤ x ∧ x ≤ 1000000 := by
  simp only [stocksOk, Bool.and_eq_true, decide_eq_true_eq] at h
  refine ⟨h.1, fun k x hx => ?_⟩
  have := List.all_eq_true.1 h.2 x (List.mem_of_getElem? hx)
  simpa [inB] using this

theorem ret_two {a b c d : Int} {j k : IntKind} (h : a = c) (h' : b = d) : Ending.returned (.tuple #[.int j a, .int k b]) = .returned (.tuple #[.int j c, .int k d]) := by rw [h, h']

set_option maxRecDepth 100000 in
set_option maxHeartbeats 2000000 in
theorem refBound_any (a : Option Addr) (n cap : Nat) (l : List Offer) (fa : Option Addr) (fn fc : Nat) (fs : List Fair) (sa : Option Addr) (sn sc : Nat) (xs : List Int) (pa : Option Addr) (pn pc : Nat) (ps : List (List Int)) (want : Int) (w : World)
    (hl : OffersAt w a n l) (hf : FairsAt w fa fn fs) (hs : IntsAt .i64 w sa sn xs) (hp : RowsAt w pa pn ps) (hn : n ≤ 1000000) (hfn : fn ≤ 1000000) (hsn : sn ≤ 1000000) (hpn : pn ≤ 1000000) :
    Calls Try.prog 17 #[.slice a n cap, .slice fa fn fc, .slice sa sn sc, .int .i64 want, .slice pa pn pc] w fun e w' => e = .returned (.tuple #[.int .i64 (boundOf l fs xs want ps).1, .int .i64 (boundOf l fs xs want ps).2]) ∧ Ext w w' := by
  have hck := refCheck_any a n cap l fa fn fc fs w (fun W hW => refOffers_any a n cap l W (hl.ext hW) hn) hf hfn
  by_cases hc0 : checkOf l fs = 0
  case neg =>
    have hb : boundOf l fs xs want ps = (0, checkOf l fs) := by unfold boundOf; rw [if_pos hc0]
    rw [hb]
    have Hck := Lib.hid hck
    obtain ⟨r1, r2⟩ := checkOf_range l fs
    have hne : (checkOf l fs != 0) = true := by rw [bne_iff_ne]; exact hc0
    clear hck hc0 hb hl hf hs hp
    generalize checkOf l fs = C at *
    go_enter Try.func17, Try.ntmps17
    go_wp2_with (go_at_call 24; refine Hck.out.mono ?_; rintro e w1 ⟨rfl, hx1⟩)
    go_ret2
    exact ⟨rfl, by assumption⟩
  obtain ⟨ho, ht⟩ := checkOf_zero hc0
  rw [hc0] at hck
  have Hck := Lib.hid hck
  have hst := fun W (hW : Ext w W) => stocks_any sa sn sc xs W (hs.ext hW) hsn
  have hwi := fun W => within_ext want 0 4 W
  clear hck
  cases h1 : stocksOk xs with
  | false =>
    have hb : boundOf l fs xs want ps = (0, 2) := by unfold boundOf; rw [if_neg (by simp [hc0]), if_pos (by simp [h1])]
    rw [hb]
    rw [h1] at hst
    have Hst := Lib.hid hst
    clear hst hb hl hf hs hp hc0 h1 ho ht hwi
    go_enter Try.func17, Try.ntmps17
    go_wp2_with (first | (go_at_call 24; refine Hck.out.mono ?_; rintro e w1 ⟨rfl, hx1⟩) | (go_at_call 34; refine (Hst.out _ (by assumption)).mono ?_; rintro e w2 ⟨rfl, hx2⟩))
    go_ret2
    exact ⟨rfl, Ext.trans (by assumption) (by assumption)⟩
  | true =>
    rw [h1] at hst
    have Hst := Lib.hid hst
    clear hst
    cases h2 : inB want 0 4 with
    | false =>
      have hb : boundOf l fs xs want ps = (0, 2) := by unfold boundOf; rw [if_neg (by simp [hc0]), if_pos (by simp [h2])]
      rw [hb]
      rw [h2] at hwi
      have Hwi := Lib.hid hwi
      clear hb hl hf hs hp hc0 h1 ho ht hwi h2
      go_enter Try.func17, Try.ntmps17
      go_wp2_with (first | (go_at_call 24; refine Hck.out.mono ?_; rintro e w1 ⟨rfl, hx1⟩) | (go_at_call 34; refine (Hst.out _ (by assumption)).mono ?_; rintro e w2 ⟨rfl, hx2⟩) | (go_at_call 50; refine (Hwi.out _).mono ?_; rintro e w3 ⟨rfl, hx3⟩))
      go_ret2
      exact ⟨rfl, (Ext.trans (by assumption) (by assumption)).trans (by assumption)⟩
    | true =>
      rw [h2] at hwi
      have Hwi := Lib.hid hwi
      clear hwi
      have hw04 : 0 ≤ want ∧ want ≤ 4 := by simpa [inB] using h2
      obtain ⟨hw0, hw4⟩ := hw04
      have hpr := fun W (hW : Ext w W) => refPrices_any a n cap l fa fn fc fs pa pn pc ps want W (hl.ext hW) (hf.ext hW) (hp.ext hW) hpn ho ht hw0 hw4
      cases h3 : PB (Priced l fs ps ∧ 0 < pr ps (fs.length - 1) want) with
      | false =>
        have hb : boundOf l fs xs want ps = (0, 64) := by unfold boundOf; rw [if_neg (by simp [hc0]), if_neg (by simp [h1, h2]), if_pos h3]
        rw [hb]
        rw [h3] at hpr
        have Hpr := Lib.hid hpr
        clear hb hl hf hs hp hc0 h1 ho ht h2 hpr h3
        go_enter Try.func17, Try.ntmps17
        go_wp2_with (first | (go_at_call 24; refine Hck.out.mono ?_; rintro e w1 ⟨rfl, hx1⟩) | (go_at_call 34; refine (Hst.out _ (by assumption)).mono ?_; rintro e w2 ⟨rfl, hx2⟩) | (go_at_call 50; refine (Hwi.out _).mono ?_; rintro e w3 ⟨rfl, hx3⟩) | (go_at_call 37; refine (Hpr.out _ (hx1.trans (hx2.trans hx3))).mono ?_; rintro e w4 ⟨rfl, hx4⟩))
        go_ret2
        exact ⟨rfl, hx1.trans (hx2.trans (hx3.trans hx4))⟩
      | true =>
        have hb : boundOf l fs xs want ps = (worthTo xs ps 5 / pr ps (fs.length - 1) want, 0) := by unfold boundOf; rw [if_neg (by simp [hc0]), if_neg (by simp [h1, h2]), if_neg (by rw [h3]; simp)]
        rw [hb]
        rw [h3] at hpr
        have Hpr := Lib.hid hpr
        have hP : Priced l fs ps ∧ 0 < pr ps (fs.length - 1) want := by
          rcases Classical.em (Priced l fs ps ∧ 0 < pr ps (fs.length - 1) want) with h | h
          · exact h
          · rw [PB_false h] at h3; cases h3
        obtain ⟨hx5, hxb⟩ := stock_get h1
        obtain rfl : sn = 5 := by rw [← hs.1]; exact hx5
        have hlen := trip_len ht
        have hpl : pn = fn := by rw [← hf.1, ← hp.1]; exact hP.1.1
        subst hpl
        have hfl := hf.1
        have Hs := Lib.hid hs
        have Hp := Lib.hid hp
        have HP := Lib.hid hP
        have Hxb := Lib.hid hxb
        have Hfl := Lib.hid hfl
        have hpn1 : 1 ≤ pn := by omega
        have hpn5 : pn ≤ 5 := by omega
        clear hb hl hf hs hp hc0 h1 ho ht h2 hpr h3 hP hxb hlen hfl hx5
        rw [Hfl.out]
        go_enter Try.func17, Try.ntmps17
        go_wp2_with (first | (go_at_call 24; refine Hck.out.mono ?_; rintro e w1 ⟨rfl, hx1⟩) | (go_at_call 34; refine (Hst.out _ (by assumption)).mono ?_; rintro e w2 ⟨rfl, hx2⟩) | (go_at_call 50; refine (Hwi.out _).mono ?_; rintro e w3 ⟨rfl, hx3⟩) | (go_at_call 37; refine (Hpr.out _ (hx1.trans (hx2.trans hx3))).mono ?_; rintro e w4 ⟨rfl, hx4⟩))
        have hxw : Ext w w4 := hx1.trans (hx2.trans (hx3.trans hx4))
        have Hxw := Lib.hid hxw
        clear hx1 hx2 hx3 hx4 hxw
        go_loopw [13, 14] (fun s i wr => ∃ k : Nat, k ≤ 5 ∧ i = .int .i64 k ∧ s = .int .i64 (worthTo xs ps k) ∧ 0 ≤ worthTo xs ps k ∧ worthTo xs ps k ≤ 1000000000000 * k ∧ Ext w wr) (fun _ i _ => 5 - (intOf i).toNat)
        case atStart => exact ⟨0, Nat.zero_le _, rfl, rfl, by simp [worthTo], by simp [worthTo], Hxw.out⟩
        case round =>
          obtain ⟨k, hk, rfl, rfl, hb1, hb2, hx⟩ := hrel
          by_cases hlt : k < 5
          · obtain ⟨sb, so, x, rfl, hxk, hsb, s0⟩ := (Hs.out.ext hx).get k hlt
            obtain ⟨pb, po, rb, ro, rc, rfl, hpb, p0, hrb, hrow⟩ := (Hp.out.ext hx).price HP.out.1.2.1 0 (by omega)
            obtain ⟨q1, q1a, q1b⟩ := hrow k hlt
            obtain ⟨x0, x1⟩ := Hxb.out k x hxk
            have hw : Hid (worthTo xs ps (k + 1) = worthTo xs ps k + x * pr ps 0 k) := Lib.hid (by simp [worthTo, List.getD, hxk])
            obtain ⟨A, hA⟩ : ∃ A, pr ps 0 k = A := ⟨_, rfl⟩
            rw [hA] at q1a q1b q1 hw
            obtain ⟨m1, m2⟩ := mul_bd (M := 1000000) (N := 1000000) x0 x1 q1a q1b
            simp only [Int.reduceMul] at m2
            simp only [Nat.add_zero] at p0
            have hp0 : (0 : Int) < (pn : Int) := by omega
            obtain ⟨V, hV⟩ : ∃ V, worthTo xs ps k = V := ⟨_, rfl⟩
            rw [hV] at hb1 hb2 hw
            rw [hV]
            have hb3 : V ≤ 5000000000000 := by omega
            have hsum : IntKind.i64.wrap (V + x * A) = V + x * A := IntWalk.i64_in _ (by omega)
            clear hA hxk hrow hV
            go_wp2_with fail
            go_quiet (fail)
            go_wp2_with fail
            go_roundw
            case rel => exact ⟨k + 1, by omega, by go_num, by rw [hw.out], by rw [hw.out]; omega, by rw [hw.out]; omega, hx.drewN _⟩
            case measure => simp [intOf]; omega
          · have e : k = 5 := by omega
            subst e
            obtain ⟨wv, rfl⟩ : ∃ wv : Nat, want = wv := ⟨want.toNat, by omega⟩
            obtain ⟨pb, po, rb, ro, rc, rfl, hpb, p0, hrb, hrow⟩ := (Hp.out.ext hx).price HP.out.1.2.1 (pn - 1) (by omega)
            obtain ⟨q1, q1a, q1b⟩ := hrow wv (by omega)
            have hpos := HP.out.2
            rw [Hfl.out] at hpos
            have hpm : ((pn : Int) - 1).toNat = pn - 1 := by omega
            have Hx := Lib.hid hx
            obtain ⟨A, hA⟩ : ∃ A, pr ps (pn - 1) wv = A := ⟨_, rfl⟩
            rw [hA] at q1a q1b q1 hpos
            have HA := Lib.hid hA
            obtain ⟨V, hV⟩ : ∃ V, worthTo xs ps 5 = V := ⟨_, rfl⟩
            rw [hV] at hb1 hb2
            rw [hV]
            have HV := Lib.hid hV
            clear hrow hx hA hV
            go_wp2_with fail
            go_ret2
            exact ⟨ret_two (by rw [HA.out, HV.out]) rfl, Hx.out⟩
end Go.Proofs.Ytkbhmajcddmhnaa
