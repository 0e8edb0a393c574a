/- The barters of a chain, done: plain words. -/
import Derived.Test.YtkbhmajcddmhnaaVBestLaw
namespace Go.Proofs.Ytkbhmajcddmhnaa
open Go.RowKit
set_option linter.unusedVariables false
set_option linter.unusedSimpArgs false

/-- what is in hand, and the barters so far -/
structure BD where
  hand : Hand
  bs : List Barter
def midHand (l : List Offer) (k : Int) (h : Hand) : Hand := if 0 ≤ k then takeHand (offerAt l k) h else h
def midBs (l : List Offer) (i : Nat) (k : Int) (s : BD) : List Barter := if 0 ≤ k ∧ 0 < s.hand.units / (offerAt l k).units then s.bs ++ [⟨i, k, s.hand.units / (offerAt l k).units⟩] else s.bs
def BD.step (l : List Offer) (fs : List Fair) (i : Nat) (k : Int) (s : BD) : BD := ⟨roadHand fs i (midHand l k s.hand), midBs l i k s⟩
def doTo (l : List Offer) (fs : List Fair) (B : List Int) (h0 : Hand) : Nat → BD
  | 0 => ⟨h0, []⟩
  | i + 1 => (doTo l fs B h0 i).step l fs i (B.getD i (-1))
theorem doTo_hand {l : List Offer} {fs : List Fair} {B : List Int} {h0 : Hand} : ∀ {i : Nat} {h : Hand}, goneTo l fs B h0 i = some h → (doTo l fs B h0 i).hand = h
  | 0, h, e => by cases e; rfl
  | i + 1, h, e => by
    simp only [goneTo, Option.bind_eq_some_iff] at e
    obtain ⟨x, hx, hs⟩ := e
    have ih := doTo_hand hx
    simp only [doTo, BD.step, ih]
    unfold stepHand at hs
    unfold midHand
    split at hs
    · split at hs
      · rename_i hk _
        rw [if_pos hk]
        cases hs
        rfl
      · cases hs
    · rename_i hk
      rw [if_neg hk]
      cases hs
      rfl
theorem midBs_pre (l : List Offer) (i : Nat) (k : Int) (s : BD) : s.bs <+: midBs l i k s := by
  unfold midBs
  split
  · exact List.prefix_append ..
  · exact List.prefix_refl _
theorem doTo_pre (l : List Offer) (fs : List Fair) (B : List Int) (h0 : Hand) (i : Nat) : ∀ j, i ≤ j → (doTo l fs B h0 i).bs <+: (doTo l fs B h0 j).bs := by
  intro j hj
  induction j with
  | zero => obtain rfl : i = 0 := by omega
            exact List.prefix_refl _
  | succ j ih =>
    rcases Nat.lt_or_ge i (j + 1) with h | h
    · exact (ih (by omega)).trans (midBs_pre l j _ _)
    · obtain rfl : i = j + 1 := by omega
      exact List.prefix_refl _
theorem doTo_len (l : List Offer) (fs : List Fair) (B : List Int) (h0 : Hand) : ∀ i, (doTo l fs B h0 i).bs.length ≤ i
  | 0 => by simp [doTo]
  | i + 1 => by
    have := doTo_len l fs B h0 i
    simp only [doTo, BD.step, midBs]
    split
    · simp; omega
    · omega
/-- as much is there as is in hand; and nothing is more than M -/
structure Enough (held : List Span) (h : Hand) (M : Int) : Prop where
  ok : HeldOk held
  good : ∃ g : Nat, h.good = g ∧ g < 5
  pos : 0 ≤ h.units
  le : h.units ≤ (held.getD h.good.toNat z0).lo
  top : ∀ (g : Nat) (s : Span), held[g]? = some s → s.hi ≤ M
theorem Enough.mono {held : List Span} {h : Hand} {M M' : Int} (e : Enough held h M) (hM : M ≤ M') : Enough held h M' := ⟨e.ok, e.good, e.pos, e.le, fun g s hs => Int.le_trans (e.top g s hs) hM⟩
theorem Enough.road {held ks : List Span} {h : Hand} {M : Int} (e : Enough held h M) (hk : KeepsOk ks) : Enough (roadTo held ks 5) ⟨h.good, lf h.units (ks.getD h.good.toNat z0).lo⟩ M := by
  obtain ⟨ok, ⟨g, hg, hg5⟩, pos, le, top⟩ := e
  have hl := ok.1
  obtain ⟨u, hu⟩ : ∃ u, held[g]? = some u := ⟨_, List.getElem?_eq_getElem (by omega)⟩
  obtain ⟨s, hs⟩ : ∃ s, ks[g]? = some s := ⟨_, List.getElem?_eq_getElem (by rw [hk.1]; omega)⟩
  obtain ⟨s0, s1, s2⟩ := hk.2 g s hs
  have hgn : h.good.toNat = g := by omega
  rw [hgn] at le ⊢
  simp only [List.getD, hu, Option.getD_some] at le
  refine ⟨ok.road hk, ⟨g, hg, hg5⟩, ?_, ?_, fun q v hv => ?_⟩
  · simp only [List.getD, hs, Option.getD_some]
    exact (lf_le pos s0 (by omega)).1
  · simp only [hgn]
    simp only [List.getD, roadTo_done held ks 5 g hg5 (by omega), hs, hu, Option.getD_some, roadSpan]
    exact lf_mono pos le s0 (Int.le_refl _)
  · have hq : q < 5 := by have := (List.getElem?_eq_some_iff.1 hv).1; rw [roadTo_len, hl] at this; exact this
    obtain ⟨u', hu'⟩ : ∃ u, held[q]? = some u := ⟨_, List.getElem?_eq_getElem (by omega)⟩
    obtain ⟨s', hs'⟩ : ∃ s, ks[q]? = some s := ⟨_, List.getElem?_eq_getElem (by rw [hk.1]; omega)⟩
    obtain ⟨t0, t1, t2⟩ := hk.2 q s' hs'
    obtain ⟨v0, v1, v2⟩ := ok.2 q u' hu'
    rw [roadTo_done held ks 5 q hq (by omega)] at hv
    simp only [List.getD, hs', hu', Option.getD_some, roadSpan] at hv
    cases hv
    have := (lf_le (show 0 ≤ u'.hi by omega) (show 0 ≤ s'.hi by omega) t2).2
    have := top q u' hu'
    simp only
    omega
theorem Enough.barter {held : List Span} {h : Hand} {M M' : Int} {x : Offer} (e : Enough held h M) (hx : x.valid = true) (hg : x.give = h.good) (hM : M + 50 * h.units ≤ M') (hM' : M' ≤ 1000000000000000) :
    barterErr held x (h.units / x.units) = 0 ∧ (1 ≤ h.units / x.units → Enough (barterHeld held x (h.units / x.units)) (takeHand x h) M') ∧ (h.units / x.units = 0 → Enough held (takeHand x h) M') := by
  obtain ⟨ok, ⟨g, hgg, hg5⟩, pos, le, top⟩ := e
  have hv := hx
  simp [Offer.valid, inB, properB] at hv
  obtain ⟨d0, d1⟩ := div_bd pos (show 1 ≤ x.units by omega)
  have hdu : h.units / x.units * x.units ≤ h.units := Int.ediv_mul_le _ (by omega)
  obtain ⟨t, ht⟩ : ∃ t, h.units / x.units = t := ⟨_, rfl⟩
  rw [ht] at d0 d1 hdu ⊢
  have hl := ok.1
  obtain ⟨a, ha⟩ : ∃ a, held[x.give.toNat]? = some a := ⟨_, List.getElem?_eq_getElem (by omega)⟩
  obtain ⟨b, hb⟩ : ∃ a, held[x.get.toNat]? = some a := ⟨_, List.getElem?_eq_getElem (by omega)⟩
  obtain ⟨a1, a2, a3⟩ := ok.2 _ _ ha
  obtain ⟨b1, b2, b3⟩ := ok.2 _ _ hb
  have hgn : h.good.toNat = x.give.toNat := by rw [hg]
  rw [hgn] at le
  simp only [List.getD, ha, Option.getD_some] at le
  have tb := top _ _ hb
  have ta := top _ _ ha
  have m1 : 0 ≤ t * x.lo := Int.mul_nonneg d0 (by omega)
  have m2 : t * x.hi ≤ t * 50 := Int.mul_le_mul_of_nonneg_left (by omega) d0
  have m3 : 0 ≤ t * x.hi := Int.mul_nonneg d0 (by omega)
  have m4 : 0 ≤ t * x.units := Int.mul_nonneg d0 (by omega)
  have herr : barterErr held x t = 0 := by
    unfold barterErr
    simp only [List.getD, ha, hb, Option.getD_some]
    rw [if_neg (by omega), if_neg (by omega)]
  have hgood : ∃ g' : Nat, (takeHand x h).good = g' ∧ g' < 5 := ⟨x.get.toNat, by simp only [takeHand]; omega, by omega⟩
  have hun : (takeHand x h).units = t * x.lo := by simp only [takeHand, ht]
  refine ⟨herr, fun h1 => ?_, fun h1 => ?_⟩
  · have hok := (RS.Ok.barter (l := []) (fs := [⟨0, 0, []⟩]) (s := ⟨held, [], 0⟩) ⟨ok, by simp, by simp⟩ hx h1 herr).1
    simp only at hok
    refine ⟨hok, hgood, by rw [hun]; exact m1, ?_, fun q v hv' => ?_⟩
    · rw [hun]
      have : (barterHeld held x t)[x.get.toNat]? = some ⟨b.lo + t * x.lo, b.hi + t * x.hi⟩ := by
        simp only [barterHeld, List.getD, hb, Option.getD_some]
        rw [List.getElem?_set_self (by simp; omega)]
      simp only [takeHand, List.getD, this, Option.getD_some]
      omega
    · simp only [barterHeld, List.getD, ha, hb, Option.getD_some] at hv'
      rw [List.getElem?_set] at hv'
      split at hv'
      · split at hv'
        · cases hv'; simp only; omega
        · cases hv'
      · rw [List.getElem?_set] at hv'
        split at hv'
        · split at hv'
          · cases hv'; simp only; omega
          · cases hv'
        · have := top q v hv'; omega
  · refine ⟨ok, hgood, by rw [hun]; exact m1, ?_, fun q v hv' => by have := top q v hv'; omega⟩
    rw [hun, h1, Int.zero_mul]
    simp only [takeHand, List.getD, hb, Option.getD_some]
    exact b1
/-- so much there may be of a good behind so many fairs -/
def topAt : Nat → Int
  | 0 => 1000000
  | i + 1 => topAt i + 1000000 * 50 ^ (i + 1)
theorem topAt_le {i : Nat} (h : i ≤ 5) : topAt i ≤ 1000000000000000 := by
  have h6 : i = 0 ∨ i = 1 ∨ i = 2 ∨ i = 3 ∨ i = 4 ∨ i = 5 := by omega
  rcases h6 with rfl | rfl | rfl | rfl | rfl | rfl <;> decide
theorem RS.to_succ (fs : List Fair) (s : RS) {i : Nat} (h : s.now ≤ i) : s.to fs (i + 1) = (s.to fs i).step fs := by
  unfold RS.to
  rw [show i + 1 - s.now = (i - s.now) + 1 by omega]
  rfl
theorem RS.to_self (fs : List Fair) (s : RS) {i : Nat} (h : s.now = i) : s.to fs i = s := by
  unfold RS.to
  rw [show i - s.now = 0 by omega]
  rfl
section
variable {l : List Offer} {fs : List Fair} {B : List Int} {h0 : Hand} {xs : List Int}
def AtFair (l : List Offer) (fs : List Fair) (xs : List Int) (full : List Barter) (n i : Nat) (h : Hand) (M : Int) : Prop :=
  ∃ s, runTo l fs xs full n = .inr s ∧ s.Ok fs ∧ s.now ≤ i ∧ Enough (s.to fs i).held h M
theorem do_mid (ho : offersOk l = true) (ht : tripOk fs = true) {full : List Barter} {i : Nat} {k : Int} {d : BD} (hi : i < fs.length) (hi4 : i ≤ 4) (hh : HandOk i d.hand) (hst : stepHand l fs i k d.hand ≠ none) (hk : k < l.length) (hpre : midBs l i k d <+: full)
    (h : AtFair l fs xs full d.bs.length i d.hand (topAt i)) : AtFair l fs xs full (midBs l i k d).length i (midHand l k d.hand) (topAt (i + 1)) := by
  obtain ⟨s, hr, hok, hnow, he⟩ := h
  have hpow : (0 : Int) ≤ 50 ^ (i + 1) := Int.pow_nonneg (by omega)
  have htop : topAt i ≤ topAt (i + 1) := by simp only [topAt]; omega
  by_cases hk0 : 0 ≤ k
  · unfold stepHand at hst
    rw [if_pos hk0] at hst
    have hgo : (offerAt l k).give = d.hand.good ∧ openB (offerAt l k) (fairAt fs i) = true := by
      apply Classical.byContradiction
      intro hn
      rw [if_neg hn] at hst
      exact hst rfl
    obtain ⟨j, rfl⟩ : ∃ j : Nat, k = j := ⟨k.toNat, by omega⟩
    obtain ⟨o, hoj⟩ : ∃ o, l[j]? = some o := ⟨_, List.getElem?_eq_getElem (by omega)⟩
    have hoat : offerAt l (j : Int) = o := by simp [offerAt, List.getD, hoj]
    have hval : o.valid = true := by
      simp only [offersOk, Bool.and_eq_true] at ho
      exact List.all_eq_true.1 ho.2 o (List.mem_of_getElem? hoj)
    rw [hoat] at hgo
    have hu := hh.2.2
    have hM : topAt i + 50 * d.hand.units ≤ topAt (i + 1) := by
      simp only [topAt]
      have e : (50 : Int) ^ (i + 1) = 50 ^ i * 50 := Int.pow_succ ..
      rw [e]
      omega
    obtain ⟨e1, e2, e3⟩ := he.barter hval hgo.1 hM (topAt_le (by omega))
    have hmid : midHand l (j : Int) d.hand = takeHand o d.hand := by unfold midHand; rw [if_pos hk0, hoat]
    rw [hmid]
    unfold midBs
    rw [hoat]
    by_cases ht1 : 0 < d.hand.units / o.units
    · rw [if_pos ⟨hk0, ht1⟩]
      unfold midBs at hpre
      rw [hoat, if_pos ⟨hk0, ht1⟩] at hpre
      obtain ⟨rest, hrest⟩ := hpre
      have hfull : full[d.bs.length]? = some ⟨i, (j : Int), d.hand.units / o.units⟩ := by rw [← hrest]; simp
      obtain ⟨f, hf⟩ : ∃ f, fs[i]? = some f := ⟨_, List.getElem?_eq_getElem hi⟩
      have hfa : fairAt fs i = f := by simp [fairAt, List.getD, hf]
      have hok2 := hok.to ht hnow (by omega)
      have hdu := div_bd hh.2.1 (show 1 ≤ o.units by simp [Offer.valid, inB, properB] at hval; omega)
      have hp50 := pow50 (i := i) (by omega)
      have hbad : barterBad l fs s.now ⟨i, (j : Int), d.hand.units / o.units⟩ = false := by
        simp only [barterBad, Bool.not_eq_false', Bool.and_eq_true, inB, decide_eq_true_eq, offerOpen, Int.toNat_natCast, hoj, List.getD, hf, Option.getD_some]
        rw [← hfa]
        refine ⟨⟨⟨by omega, by omega⟩, hk0, hgo.2⟩, by omega, by omega⟩
      have hstep : stepOf l fs s ⟨i, (j : Int), d.hand.units / o.units⟩ = .inr ⟨barterHeld (s.to fs i).held o (d.hand.units / o.units), (s.to fs i).losses, (s.to fs i).now⟩ := by
        unfold stepOf
        rw [hbad]
        simp only [Bool.false_eq_true, if_false, Int.toNat_natCast, hoat]
        rw [if_neg (by rw [e1]; simp)]
      have hr2 := runTo_next hr hfull hstep
      have hnow2 : (s.to fs i).now = i := RS.to_now fs s hnow
      refine ⟨_, by rw [List.length_append]; exact hr2, RS.Ok.barter (l := l) hok2 hval (by omega) e1, by rw [hnow2]; exact Nat.le_refl _, ?_⟩
      rw [RS.to_self fs ⟨barterHeld (s.to fs i).held o (d.hand.units / o.units), (s.to fs i).losses, (s.to fs i).now⟩ hnow2]
      exact e2 (by omega)
    · rw [if_neg (fun e => ht1 e.2)]
      refine ⟨s, hr, hok, hnow, e3 ?_⟩
      have := (div_bd hh.2.1 (show 1 ≤ o.units by simp [Offer.valid, inB, properB] at hval; omega)).1
      omega
  · have e1 : midHand l k d.hand = d.hand := by unfold midHand; rw [if_neg hk0]
    have e2 : midBs l i k d = d.bs := by unfold midBs; rw [if_neg (fun e => hk0 e.1)]
    rw [e1, e2]
    exact ⟨s, hr, hok, hnow, he.mono htop⟩
theorem do_road (ht : tripOk fs = true) {full : List Barter} {n i : Nat} {h : Hand} {M : Int} (hi : i + 1 < fs.length) (hq : AtFair l fs xs full n i h M) : AtFair l fs xs full n (i + 1) (roadHand fs i h) M := by
  obtain ⟨s, hr, hok, hnow, he⟩ := hq
  refine ⟨s, hr, hok, by omega, ?_⟩
  rw [RS.to_succ fs s hnow]
  have hk := keeps_ok ht (show i < fs.length by omega)
  have := he.road hk
  have hn := RS.to_now fs s hnow
  simp only [RS.step, hn, roadHand]
  rw [if_pos hi]
  exact this
/-- **the barters of a chain that can be gone are done** -/
theorem do_run (ho : offersOk l = true) (ht : tripOk fs = true) (hc : checkOf l fs = 0) {g : Nat} {u : Int} (hg : g < 5) (hu : 0 ≤ u) (hu6 : u ≤ 1000000) (hB : ChainOk l fs B) {want V : Int} (hgo : goneOf l fs B ⟨g, u⟩ = some ⟨want, V⟩) :
    (doTo l fs B ⟨g, u⟩ fs.length).hand = ⟨want, V⟩ ∧ (doTo l fs B ⟨g, u⟩ fs.length).bs.length ≤ 5 ∧
      ∃ held losses, runOf l fs ((List.replicate 5 0).set g u) (doTo l fs B ⟨g, u⟩ fs.length).bs = ⟨held, losses, 0, 0⟩ ∧ held.length = 5 ∧ V ≤ (held.getD want.toNat z0).lo := by
  have hlen := trip_len ht
  have hfn : 1 ≤ fs.length ∧ fs.length ≤ 5 := by omega
  have hh0 : HandOk 0 ⟨g, u⟩ := ⟨⟨g, rfl, hg⟩, hu, by simp; omega⟩
  have hBk : ∀ k ∈ B, k < (l.length : Int) := fun k hk => (hB.2 k hk).2
  have hsome : ∀ i, i ≤ fs.length → ∃ h, goneTo l fs B ⟨g, u⟩ i = some h := fun i hi => by
    cases e : goneTo l fs B ⟨g, u⟩ i with
    | none => rw [goneOf, goneTo_none e _ hi] at hgo; cases hgo
    | some h => exact ⟨h, rfl⟩
  have hxs : stocksOk ((List.replicate 5 (0 : Int)).set g u) = true := by
    simp only [stocksOk, List.length_set, List.length_replicate, decide_true, Bool.true_and, List.all_eq_true]
    intro x hx
    rcases List.mem_or_eq_of_mem_set hx with h | h
    · rw [(List.mem_replicate.1 h).2]; decide
    · rw [h]; simp [inB]; omega
  obtain ⟨full, hfull⟩ : ∃ full, (doTo l fs B ⟨g, u⟩ fs.length).bs = full := ⟨_, rfl⟩
  obtain ⟨xs, hxse⟩ : ∃ xs, (List.replicate 5 (0 : Int)).set g u = xs := ⟨_, rfl⟩
  have hP : ∀ i, i < fs.length → AtFair l fs xs full (doTo l fs B ⟨g, u⟩ i).bs.length i (doTo l fs B ⟨g, u⟩ i).hand (topAt i) := by
    intro i hi
    induction i with
    | zero =>
      rw [hxse] at hxs
      have hsok := start_ok ht hxs
      refine ⟨startOf xs, rfl, hsok, Nat.le_refl _, ?_⟩
      rw [RS.to_self fs (startOf xs) (i := 0) rfl]
      have hget : ∀ q, q < 5 → (startOf xs).held[q]? = some (if q = g then ⟨u, u⟩ else ⟨0, 0⟩) := fun q hq => by
        rw [← hxse]
        simp only [startOf, List.getElem?_map]
        by_cases e : g = q
        · subst e
          rw [List.getElem?_set_self (by simpa using hq)]
          simp
        · have e' : ¬(q = g) := fun h => e h.symm
          rw [List.getElem?_set_ne e, List.getElem?_replicate_of_lt hq]
          simp [e']
      refine ⟨hsok.1, ⟨g, rfl, hg⟩, hu, ?_, fun q s hs => ?_⟩
      · simp only [doTo, Int.toNat_natCast, List.getD, hget g hg, if_true, Option.getD_some]
        exact Int.le_refl _
      · have hq : q < 5 := by have := (List.getElem?_eq_some_iff.1 hs).1; rw [hsok.1.1] at this; exact this
        rw [hget q hq] at hs
        cases hs
        simp only [topAt]
        split
        · exact hu6
        · simp only; omega
    | succ i ih =>
      have ih := ih (by omega)
      obtain ⟨h, hh⟩ := hsome i (by omega)
      obtain ⟨h', hh'⟩ := hsome (i + 1) (by omega)
      have hd := doTo_hand hh
      have hok := goneTo_ok ho ht hBk hh0 (show i ≤ fs.length by omega) hh
      have hst : stepHand l fs i (B.getD i (-1)) (doTo l fs B ⟨g, u⟩ i).hand ≠ none := by
        rw [hd]
        simp only [goneTo, hh, Option.bind_some] at hh'
        rw [hh']
        simp
      have hk : B.getD i (-1) < (l.length : Int) := by
        have : i < B.length := by rw [hB.1]; omega
        simp only [List.getD, List.getElem?_eq_getElem this, Option.getD_some]
        exact hBk _ (List.getElem_mem this)
      have hm := do_mid (xs := xs) (full := full) ho ht (show i < fs.length by omega) (by omega) (by rw [hd]; exact hok) hst hk (by rw [← hfull]; exact doTo_pre l fs B ⟨g, u⟩ (i + 1) fs.length (by omega)) ih
      exact do_road ht hi hm
  have hlast := hP (fs.length - 1) (by omega)
  obtain ⟨n, hn⟩ : ∃ n, fs.length = n + 1 := ⟨fs.length - 1, by omega⟩
  rw [show fs.length - 1 = n by omega] at hlast
  obtain ⟨h, hh⟩ := hsome n (by omega)
  obtain ⟨h', hh'⟩ := hsome (n + 1) (by omega)
  have hd := doTo_hand hh
  have hok := goneTo_ok ho ht hBk hh0 (show n ≤ fs.length by omega) hh
  have hst : stepHand l fs n (B.getD n (-1)) (doTo l fs B ⟨g, u⟩ n).hand ≠ none := by
    rw [hd]
    simp only [goneTo, hh, Option.bind_some] at hh'
    rw [hh']
    simp
  have hk : B.getD n (-1) < (l.length : Int) := by
    have : n < B.length := by rw [hB.1]; omega
    simp only [List.getD, List.getElem?_eq_getElem this, Option.getD_some]
    exact hBk _ (List.getElem_mem this)
  obtain ⟨s, hr, hsok, hnow, he⟩ := do_mid (xs := xs) (full := full) ho ht (show n < fs.length by omega) (by omega) (by rw [hd]; exact hok) hst hk (by rw [← hfull, hn]; exact doTo_pre l fs B ⟨g, u⟩ (n + 1) (n + 1) (Nat.le_refl _)) hlast
  have hfin : (doTo l fs B ⟨g, u⟩ fs.length).hand = ⟨want, V⟩ := doTo_hand hgo
  have hroad : midHand l (B.getD n (-1)) (doTo l fs B ⟨g, u⟩ n).hand = ⟨want, V⟩ := by
    rw [← hfin, hn]
    simp only [doTo, BD.step, roadHand]
    rw [if_neg (by omega)]
  have hlen2 : (midBs l n (B.getD n (-1)) (doTo l fs B ⟨g, u⟩ n)).length = full.length := by
    rw [← hfull, hn]
    rfl
  have hb5 := doTo_len l fs B ⟨g, u⟩ fs.length
  rw [hfull] at hb5
  rw [hlen2] at hr
  rw [hroad] at he
  rw [hfull, hxse]
  rw [hxse] at hxs
  have hto : (s.to fs (fs.length - 1)) = s.to fs n := by rw [show fs.length - 1 = n by omega]
  refine ⟨hfin, by omega, _, _, runOf_inr hc hxs (by omega) hr, ?_, ?_⟩
  · rw [hto]; exact he.ok.1
  · rw [hto]; exact he.le
end
end Go.Proofs.Ytkbhmajcddmhnaa
