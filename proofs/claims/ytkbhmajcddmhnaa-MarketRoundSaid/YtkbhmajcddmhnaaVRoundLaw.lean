/- A round: its barters are done, and it is the first: plain words. -/
import Derived.Test.YtkbhmajcddmhnaaVDoneLaw
import Derived.Test.YtkbhmajcddmhnaaVGr6
namespace Go.Proofs.Ytkbhmajcddmhnaa
open Go.RowKit
set_option linter.unusedVariables false
set_option linter.unusedSimpArgs false
set_option linter.unusedSectionVars false

structure RD where
  hand : Int
  bs : List Barter
/-- a round's barters -/
def rdTo (l : List Offer) (ls : List Int) (U : Int) : Nat → RD
  | 0 => ⟨U, []⟩
  | i + 1 => ⟨(rdTo l ls U i).hand / (nth l ls i).units * (nth l ls i).lo, (rdTo l ls U i).bs ++ [⟨0, ls.getD i 0, (rdTo l ls U i).hand / (nth l ls i).units⟩]⟩
theorem rdTo_len (l : List Offer) (ls : List Int) (U : Int) : ∀ i, (rdTo l ls U i).bs.length = i
  | 0 => rfl
  | i + 1 => by simp [rdTo, rdTo_len l ls U i]
theorem rdTo_pre (l : List Offer) (ls : List Int) (U : Int) (i : Nat) : ∀ j, i ≤ j → (rdTo l ls U i).bs <+: (rdTo l ls U j).bs := by
  intro j hj
  induction j with
  | zero => obtain rfl : i = 0 := by omega
            exact List.prefix_refl _
  | succ j ih =>
    rcases Nat.lt_or_ge i (j + 1) with h | h
    · exact (ih (by omega)).trans (List.prefix_append ..)
    · obtain rfl : i = j + 1 := by omega
      exact List.prefix_refl _
def sufU (l : List Offer) (c : List Int) : Int := listProd (c.map fun k => (offerAt l k).units)
theorem sufU_cons (l : List Offer) (k : Int) (c : List Int) : sufU l (k :: c) = (offerAt l k).units * sufU l c := rfl
theorem sufU_bd {l : List Offer} (ho : offersOk l = true) : ∀ {c : List Int}, (∀ k ∈ c, 0 ≤ k ∧ k < (l.length : Int)) → 1 ≤ sufU l c ∧ sufU l c ≤ 50 ^ c.length
  | [], _ => by simp [sufU, listProd]
  | k :: c, h => by
    obtain ⟨i1, i2⟩ := sufU_bd ho (c := c) fun x hx => h x (List.mem_cons_of_mem _ hx)
    obtain ⟨k0, k1⟩ := h k (List.mem_cons_self ..)
    obtain ⟨j, rfl⟩ : ∃ j : Nat, k = j := ⟨k.toNat, by omega⟩
    obtain ⟨o, hoj⟩ : ∃ o, l[j]? = some o := ⟨_, List.getElem?_eq_getElem (by omega)⟩
    obtain ⟨gi, ge, hgi, hge, hgi5, hge5, hgne, hu1, hu2, hlo1, hlo2, hhi, _⟩ := offer_bounds ho hoj
    have hoat : offerAt l (j : Int) = o := by simp [offerAt, List.getD, hoj]
    rw [sufU_cons, hoat, List.length_cons, Int.pow_succ, Int.mul_comm]
    refine ⟨?_, Int.mul_le_mul i2 hu2 (by omega) (by omega)⟩
    have := Int.mul_le_mul i1 hu1 (by omega) (by omega)
    omega
theorem prodU_suf {l : List Offer} {ls : List Int} : prodU l ls ls.length = sufU l ls := by
  have := prodTo_list (fun k => (offerAt l k).units) ls (Nat.le_refl _)
  rw [List.take_length] at this
  exact this
section
variable {l : List Offer} {ls : List Int} (ho : offersOk l = true) (hb : ∀ k ∈ ls, 0 ≤ k ∧ k < (l.length : Int)) (hm : ls.length ≤ 5)
include ho hb hm
theorem nth_ok {i : Nat} (hi : i < ls.length) : ∃ j : Nat, ls[i]? = some (j : Int) ∧ j < l.length ∧ l[j]? = some (nth l ls i) := by
  obtain ⟨j, h1, h2, o, h3, h4⟩ := nth_get hb hi
  exact ⟨j, h1, h2, h4 ▸ h3⟩
theorem prodL_bd {i : Nat} (hi : i ≤ ls.length) : 1 ≤ prodL l ls i ∧ prodL l ls i ≤ 50 ^ i :=
  prodTo_bd fun k hk => by
    obtain ⟨j, _, _, hj⟩ := nth_ok ho hb hm (show k < ls.length by omega)
    obtain ⟨gi, ge, hgi, hge, hgi5, hge5, hgne, hu1, hu2, hlo1, hlo2, hhi, _⟩ := offer_bounds ho hj
    omega
theorem rd_hand : ∀ {i : Nat}, i ≤ ls.length → (rdTo l ls (sufU l ls) i).hand = prodL l ls i * sufU l (ls.drop i) ∧ (i < ls.length → (rdTo l ls (sufU l ls) i).hand / (nth l ls i).units = prodL l ls i * sufU l (ls.drop (i + 1))) := by
  intro i hi
  have key : (rdTo l ls (sufU l ls) i).hand = prodL l ls i * sufU l (ls.drop i) → i < ls.length → (rdTo l ls (sufU l ls) i).hand / (nth l ls i).units = prodL l ls i * sufU l (ls.drop (i + 1)) := by
    intro e hi
    obtain ⟨j, h1, h2, hj⟩ := nth_ok ho hb hm hi
    obtain ⟨gi, ge, hgi, hge, hgi5, hge5, hgne, hu1, hu2, hlo1, hlo2, hhi, _⟩ := offer_bounds ho hj
    have hn : offerAt l ls[i] = nth l ls i := by simp [nth, List.getD, List.getElem?_eq_getElem hi]
    rw [e, List.drop_eq_getElem_cons hi, sufU_cons, hn, Int.mul_left_comm, Int.mul_ediv_cancel_left _ (by omega)]
  induction i with
  | zero => exact ⟨by simp [rdTo, prodL, prodTo], key (by simp [rdTo, prodL, prodTo])⟩
  | succ i ih =>
    have key2 : (rdTo l ls (sufU l ls) i).hand / (nth l ls i).units = prodL l ls i * sufU l (ls.drop (i + 1)) := by
      have hi' : i < ls.length := by omega
      have e : (rdTo l ls (sufU l ls) i).hand = prodL l ls i * sufU l (ls.drop i) := (ih (by omega) (fun e hi => by
        obtain ⟨j, h1, h2, hj⟩ := nth_ok ho hb hm hi
        obtain ⟨gi, ge, hgi, hge, hgi5, hge5, hgne, hu1, hu2, hlo1, hlo2, hhi, _⟩ := offer_bounds ho hj
        have hn : offerAt l ls[i] = nth l ls i := by simp [nth, List.getD, List.getElem?_eq_getElem hi]
        rw [e, List.drop_eq_getElem_cons hi, sufU_cons, hn, Int.mul_left_comm, Int.mul_ediv_cancel_left _ (by omega)])).1
      obtain ⟨j, h1, h2, hj⟩ := nth_ok ho hb hm hi'
      obtain ⟨gi, ge, hgi, hge, hgi5, hge5, hgne, hu1, hu2, hlo1, hlo2, hhi, _⟩ := offer_bounds ho hj
      have hn : offerAt l ls[i] = nth l ls i := by simp [nth, List.getD, List.getElem?_eq_getElem hi']
      rw [e, List.drop_eq_getElem_cons hi', sufU_cons, hn, Int.mul_left_comm, Int.mul_ediv_cancel_left _ (by omega)]
    have h1 : (rdTo l ls (sufU l ls) (i + 1)).hand = prodL l ls (i + 1) * sufU l (ls.drop (i + 1)) := by
      simp only [rdTo, key2, prodL, prodTo]
      rw [Int.mul_right_comm]
    exact ⟨h1, key h1⟩
theorem rd_bd {i : Nat} (hi : i ≤ ls.length) : 1 ≤ (rdTo l ls (sufU l ls) i).hand ∧ (rdTo l ls (sufU l ls) i).hand ≤ 312500000 ∧ (i < ls.length → 1 ≤ (rdTo l ls (sufU l ls) i).hand / (nth l ls i).units ∧ (rdTo l ls (sufU l ls) i).hand / (nth l ls i).units ≤ 312500000) := by
  obtain ⟨e1, e2⟩ := rd_hand ho hb hm hi
  obtain ⟨a1, a2⟩ := prodL_bd ho hb hm hi
  have suf : ∀ k, i ≤ k → k ≤ ls.length → 1 ≤ prodL l ls i * sufU l (ls.drop k) ∧ prodL l ls i * sufU l (ls.drop k) ≤ 312500000 := fun k hik hk => by
    obtain ⟨b1, b2⟩ := sufU_bd ho (c := ls.drop k) fun x hx => hb x (List.mem_of_mem_drop hx)
    rw [List.length_drop] at b2
    have m1 := Int.mul_le_mul a1 b1 (by omega) (by omega)
    have m2 := Int.mul_le_mul a2 b2 (by omega) (Int.pow_nonneg (by omega))
    rw [← Int.pow_add] at m2
    have := pow50 (i := i + (ls.length - k)) (by omega)
    omega
  refine ⟨by rw [e1]; exact (suf i (Nat.le_refl _) hi).1, by rw [e1]; exact (suf i (Nat.le_refl _) hi).2, fun h => ?_⟩
  rw [e2 h]
  exact suf (i + 1) (by omega) h
end
def zfair (p d : Int) : Fair := ⟨p, d, List.replicate 5 z0⟩
theorem zfair_ok {p d : Int} (h : 0 ≤ p ∧ p ≤ 9999 ∧ 0 ≤ d ∧ d ≤ 100000) : tripOk [zfair p d] = true := by
  simp [tripOk, zfair, Fair.valid, inB, sortedDays, z0, Span.part, properB]
  omega
/-- the good in hand ahead of barter i -/
def goodAt (l : List Offer) (ls : List Int) : Nat → Int
  | 0 => (nth l ls 0).give
  | i + 1 => (nth l ls i).get
def AtRd (l : List Offer) (fs : List Fair) (xs : List Int) (full : List Barter) (n : Nat) (h : Hand) (M : Int) : Prop :=
  ∃ s, runTo l fs xs full n = .inr s ∧ s.Ok fs ∧ s.now = 0 ∧ Enough s.held h M
def topR (i : Nat) : Int := 1000000 + 15625000000 * i
theorem round_at {l : List Offer} {p d : Int} {ls : List Int} (h : roundsB l p d ls = true) {i : Nat} (hi : i < ls.length) : openP (nth l ls i) p d = true ∧ (nth l ls i).give = (nth l ls (prevI ls.length i)).get := by
  unfold roundsB at h
  rw [Bool.and_eq_true] at h
  have := List.all_eq_true.1 h.1 i (List.mem_range.2 hi)
  unfold roundAt at this
  simp only [Bool.and_eq_true, beq_iff_eq] at this
  exact ⟨this.1.1, this.1.2⟩
theorem round_good {l : List Offer} {p d : Int} {ls : List Int} (h : roundsB l p d ls = true) {i : Nat} (hi : i < ls.length) : (nth l ls i).give = goodAt l ls i := by
  cases i with
  | zero => rfl
  | succ i =>
    rw [(round_at h hi).2]
    have : prevI ls.length (i + 1) = i := by
      unfold prevI
      rw [show i + 1 + ls.length - 1 = i + ls.length by omega, Nat.add_mod_right, Nat.mod_eq_of_lt (by omega)]
    rw [this]
    rfl
theorem round_end {l : List Offer} {p d : Int} {ls : List Int} (h : roundsB l p d ls = true) (hi : 0 < ls.length) : goodAt l ls ls.length = (nth l ls 0).give := by
  rw [(round_at h hi).2]
  obtain ⟨n, hn⟩ : ∃ n, ls.length = n + 1 := ⟨ls.length - 1, by omega⟩
  have : prevI ls.length 0 = n := by
    unfold prevI
    rw [hn, show 0 + (n + 1) - 1 = n by omega, Nat.mod_eq_of_lt (by omega)]
  rw [this, hn]
  rfl
theorem rd_mid {l : List Offer} {p d : Int} {ls : List Int} {xs : List Int} {full : List Barter} (ho : offersOk l = true) (hb : ∀ k ∈ ls, 0 ≤ k ∧ k < (l.length : Int)) (hm : ls.length ≤ 5) (hr : roundsB l p d ls = true) {i : Nat} (hi : i < ls.length)
    (hpre : (rdTo l ls (sufU l ls) (i + 1)).bs <+: full) (hq : AtRd l [zfair p d] xs full i ⟨goodAt l ls i, (rdTo l ls (sufU l ls) i).hand⟩ (topR i)) :
    AtRd l [zfair p d] xs full (i + 1) ⟨goodAt l ls (i + 1), (rdTo l ls (sufU l ls) (i + 1)).hand⟩ (topR (i + 1)) := by
  obtain ⟨s, hrt, hok, hnow, he⟩ := hq
  obtain ⟨j, hls, hj, hoj⟩ := nth_ok ho hb hm hi
  obtain ⟨b1, b2, b3⟩ := rd_bd ho hb hm (show i ≤ ls.length by omega)
  obtain ⟨t1, t2⟩ := b3 hi
  have hval : (nth l ls i).valid = true := by
    simp only [offersOk, Bool.and_eq_true] at ho
    exact List.all_eq_true.1 ho.2 _ (List.mem_of_getElem? hoj)
  obtain ⟨e1, e2, _⟩ := he.barter (M' := topR (i + 1)) hval (round_good hr hi) (by simp only [topR]; omega) (by simp only [topR]; omega)
  have hk : ls.getD i 0 = (j : Int) := by simp [List.getD, hls]
  have hfull : full[i]? = some ⟨0, (j : Int), (rdTo l ls (sufU l ls) i).hand / (nth l ls i).units⟩ := by
    obtain ⟨rest, hrest⟩ := hpre
    rw [← hrest]
    simp only [rdTo, hk]
    rw [List.append_assoc, List.getElem?_append_right (by rw [rdTo_len]; exact Nat.le_refl _), rdTo_len]
    simp
  have hoat : offerAt l (j : Int) = nth l ls i := by simp [offerAt, List.getD, hoj]
  have hop : openB (nth l ls i) (zfair p d) = true := (round_at hr hi).1
  have hbad : barterBad l [zfair p d] s.now ⟨0, (j : Int), (rdTo l ls (sufU l ls) i).hand / (nth l ls i).units⟩ = false := by
    simp only [barterBad, Bool.not_eq_false', Bool.and_eq_true, inB, decide_eq_true_eq, offerOpen, Int.toNat_natCast, hoj, List.getD, hnow]
    refine ⟨⟨⟨by omega, by simp⟩, by omega, hop⟩, by omega, by omega⟩
  have hs0 : s.to [zfair p d] 0 = s := RS.to_self _ s hnow
  have hstep : stepOf l [zfair p d] s ⟨0, (j : Int), (rdTo l ls (sufU l ls) i).hand / (nth l ls i).units⟩ = .inr ⟨barterHeld s.held (nth l ls i) ((rdTo l ls (sufU l ls) i).hand / (nth l ls i).units), s.losses, s.now⟩ := by
    unfold stepOf
    rw [hbad]
    simp only [Bool.false_eq_true, if_false, Int.toNat_zero, hoat, hs0]
    rw [if_neg (by rw [e1]; simp)]
  exact ⟨_, runTo_next hrt hfull hstep, RS.Ok.barter (l := l) hok hval t1 e1, hnow, e2 t1⟩
/-- **a round's barters are done, and bring more** -/
theorem round_run {l : List Offer} {p d : Int} {ls : List Int} (ho : offersOk l = true) (hpd : 0 ≤ p ∧ p ≤ 9999 ∧ 0 ≤ d ∧ d ≤ 100000) (hb : ∀ k ∈ ls, 0 ≤ k ∧ k < (l.length : Int)) (h1 : 0 < ls.length) (hm : ls.length ≤ 5) (hr : roundsB l p d ls = true)
    {g : Nat} (hg : (nth l ls 0).give = g) (hU : sufU l ls ≤ 1000000) :
    g < 5 ∧ 1 ≤ sufU l ls ∧ ∃ held losses, runOf l [zfair p d] ((List.replicate 5 0).set g (sufU l ls)) (rdTo l ls (sufU l ls) ls.length).bs = ⟨held, losses, 0, 0⟩ ∧ held.length = 5 ∧
      (rdTo l ls (sufU l ls) ls.length).hand ≤ (held.getD g z0).lo ∧ sufU l ls < (held.getD g z0).lo := by
  have ht := zfair_ok hpd
  obtain ⟨U, hUe⟩ : ∃ U, sufU l ls = U := ⟨_, rfl⟩
  have hU1 := (sufU_bd ho hb).1
  obtain ⟨j, hls, hj, hoj⟩ := nth_ok ho hb hm h1
  obtain ⟨gi, ge, hgi, _, hgi5, _⟩ := offer_bounds ho hoj
  have hg5 : g < 5 := by omega
  have hxs : stocksOk ((List.replicate 5 (0 : Int)).set g U) = true := by
    simp only [stocksOk, List.length_set, List.length_replicate, decide_true, Bool.true_and, List.all_eq_true]
    intro x hx
    rcases List.mem_or_eq_of_mem_set hx with h | h
    · rw [(List.mem_replicate.1 h).2]; decide
    · rw [h]; simp [inB]; omega
  have hsok := start_ok ht hxs
  have hall : ∀ i, i ≤ ls.length → AtRd l [zfair p d] ((List.replicate 5 (0 : Int)).set g U) (rdTo l ls (sufU l ls) ls.length).bs i ⟨goodAt l ls i, (rdTo l ls (sufU l ls) i).hand⟩ (topR i) := by
    intro i hi
    induction i with
    | zero =>
      refine ⟨startOf _, rfl, hsok, rfl, ?_⟩
      have hget : ∀ q, q < 5 → (startOf ((List.replicate 5 (0 : Int)).set g U)).held[q]? = some (if q = g then ⟨U, U⟩ else ⟨0, 0⟩) := fun q hq => by
        simp only [startOf, List.getElem?_map]
        by_cases e : g = q
        · subst e
          rw [List.getElem?_set_self (by simpa using hq)]
          simp
        · have e' : ¬(q = g) := fun h => e h.symm
          rw [List.getElem?_set_ne e, List.getElem?_replicate_of_lt hq]
          simp [e']
      refine ⟨hsok.1, ⟨g, hg, hg5⟩, by simp only [rdTo]; omega, ?_, fun q s hs => ?_⟩
      · simp only [rdTo, goodAt, hg, Int.toNat_natCast, List.getD, hget g hg5, if_true, Option.getD_some, hUe]
        exact Int.le_refl _
      · have hq : q < 5 := by have := (List.getElem?_eq_some_iff.1 hs).1; rw [hsok.1.1] at this; exact this
        rw [hget q hq] at hs
        cases hs
        simp only [topR]
        split
        · simp only; omega
        · simp only; omega
    | succ i ih => exact rd_mid ho hb hm hr (by omega) (rdTo_pre _ _ _ _ _ hi) (ih (by omega))
  obtain ⟨s, hrt, hok, hnow, he⟩ := hall ls.length (Nat.le_refl _)
  have hc : checkOf l [zfair p d] = 0 := by unfold checkOf; rw [ho, ht]; rfl
  refine ⟨hg5, hU1, s.held, s.losses, ?_, hok.1.1, ?_⟩
  · rw [hUe]
    rw [hUe] at hrt
    rw [runOf_inr hc hxs (by rw [rdTo_len]; omega) (by rw [rdTo_len]; exact hrt)]
    have : s.to [zfair p d] ([zfair p d].length - 1) = s := RS.to_self _ s hnow
    rw [this]
  · have hle := he.le
    simp only [round_end hr h1, hg, Int.toNat_natCast] at hle
    refine ⟨hle, ?_⟩
    have hp := rd_hand ho hb hm (Nat.le_refl ls.length)
    have hlast := hp.1
    rw [List.drop_length] at hlast
    simp only [sufU, List.map_nil, listProd, Int.mul_one] at hlast
    have hend : prodU l ls ls.length < prodL l ls ls.length := by
      unfold roundsB at hr
      rw [Bool.and_eq_true, decide_eq_true_eq] at hr
      exact hr.2
    rw [prodU_suf] at hend
    simp only [sufU] at hend hle ⊢
    omega
/-- **the round that is found is the first** -/
theorem round_first {l : List Offer} {p d : Int} {c : List Int} (h : roundFind l p d = some c) : roundsB l p d c = true ∧ (0 < c.length ∧ c.length ≤ 5 ∧ ∀ k ∈ c, 0 ≤ k ∧ k < (l.length : Int)) ∧
    ∀ y : List Int, 0 < y.length → y.length ≤ 5 → (∀ k ∈ y, 0 ≤ k ∧ k < (l.length : Int)) → roundsB l p d y = true → c.length < y.length ∨ c.length = y.length ∧ (y = c ∨ LexLt c.length c y) := by
  unfold roundFind at h
  obtain ⟨hc, pre, suf, hL, has⟩ := List.find?_eq_some_iff_append.1 h
  have hmem : c ∈ (List.range 5).flatMap fun i => cands l.length (i + 1) := by rw [hL]; simp
  obtain ⟨i, hi, hci⟩ := List.mem_flatMap.1 hmem
  have hi5 := List.mem_range.1 hi
  have hcl := cands_len hci
  refine ⟨hc, ⟨by omega, by omega, cands_ok hci⟩, fun y hy1 hy5 hyk hy => ?_⟩
  have hsort : ((List.range 5).flatMap fun i => cands l.length (i + 1)).Pairwise fun a b => a.length < b.length ∨ a.length = b.length ∧ LexLt a.length a b := by
    rw [List.pairwise_flatMap]
    refine ⟨fun q _ => (cands_sorted l.length (q + 1)).imp_of_mem fun {a b} ha hb h => .inr ⟨by rw [cands_len ha, cands_len hb], by rw [cands_len ha]; exact h⟩, List.pairwise_lt_range.imp fun {p q} hpq => ?_⟩
    intro x hx y hy
    rw [cands_len hx, cands_len hy]
    exact .inl (by omega)
  have hym : y ∈ (List.range 5).flatMap fun i => cands l.length (i + 1) := List.mem_flatMap.2 ⟨y.length - 1, List.mem_range.2 (by omega), cands_mem (by omega) hyk⟩
  rw [hL] at hym hsort
  rcases List.mem_append.1 hym with hm | hm
  · have := has y hm
    rw [hy] at this
    cases this
  · rcases List.mem_cons.1 hm with rfl | hm
    · exact .inr ⟨rfl, .inl rfl⟩
    · have := (List.pairwise_cons.1 (List.pairwise_append.1 hsort).2.1).1 y hm
      rcases this with h | ⟨h1, h2⟩
      · exact .inl h
      · exact .inr ⟨h1, .inr h2⟩
theorem round_none {l : List Offer} {p d : Int} (h : roundFind l p d = none) {y : List Int} (h1 : 0 < y.length) (h5 : y.length ≤ 5) (hb : ∀ k ∈ y, 0 ≤ k ∧ k < (l.length : Int)) : roundsB l p d y = false := by
  unfold roundFind at h
  have := List.find?_eq_none.1 h y (List.mem_flatMap.2 ⟨y.length - 1, List.mem_range.2 (by omega), cands_mem (by omega) hb⟩)
  simpa using this
end Go.Proofs.Ytkbhmajcddmhnaa
