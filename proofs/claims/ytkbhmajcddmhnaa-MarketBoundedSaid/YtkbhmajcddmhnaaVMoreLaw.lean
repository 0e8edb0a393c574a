/- With more, and better rates, the best chain gains no less: plain words. -/
import Derived.Test.YtkbhmajcddmhnaaVNarW
import Derived.Test.YtkbhmajcddmhnaaVBestLaw
namespace Go.Proofs.Ytkbhmajcddmhnaa
open Go.RowKit
set_option linter.unusedVariables false
set_option linter.unusedSimpArgs false
set_option linter.unusedSectionVars false

theorem valid_for {o : Offer} (h : o.valid = true) {t : Span} (ht : Within ⟨o.lo, o.hi⟩ t) : (o.for_ t).valid = true := by
  obtain ⟨a, b, c, d, e, f, g, i⟩ := o
  obtain ⟨x, y⟩ := t
  obtain ⟨h1, h2, h3⟩ := ht
  simp only [Offer.for_] at *
  simp [Offer.valid, inB, properB] at h ⊢
  omega
theorem NarO.ok {l m : List Offer} (ho : offersOk l = true) (h : NarO l m) : offersOk m = true := by
  have h' := ho
  simp only [offersOk, Bool.and_eq_true, decide_eq_true_eq] at h' ⊢
  refine ⟨by rw [h.1]; exact h'.1, List.all_eq_true.2 fun x hx => ?_⟩
  obtain ⟨i, hi, rfl⟩ := List.getElem_of_mem hx
  have hil := hi
  rw [h.1] at hil
  obtain ⟨t, ⟨t1, t2, t3⟩, hm⟩ := h.2 i l[i] (List.getElem?_eq_getElem hil)
  have hv := List.all_eq_true.1 h'.2 l[i] (List.getElem_mem hil)
  rw [List.getElem?_eq_getElem hi] at hm
  rw [Option.some.inj hm]
  exact valid_for hv ⟨t1, t2, t3⟩
theorem NarT.fair {fs m : List Fair} (h : NarT fs m) {i : Nat} {f : Fair} (hf : m[i]? = some f) : ∃ g, fs[i]? = some g ∧ f.place = g.place ∧ f.day = g.day ∧ NarK g.keeps f.keeps := by
  have hil := (List.getElem?_eq_some_iff.1 hf).1
  rw [h.1] at hil
  obtain ⟨ks, hk, hm⟩ := h.2 i fs[i] (List.getElem?_eq_getElem hil)
  rw [hf] at hm
  cases hm
  exact ⟨_, List.getElem?_eq_getElem hil, rfl, rfl, hk⟩
theorem NarT.ok {fs m : List Fair} (ht : tripOk fs = true) (h : NarT fs m) : tripOk m = true := by
  have h' := ht
  simp only [tripOk, Bool.and_eq_true] at h' ⊢
  refine ⟨⟨by rw [h.1]; exact h'.1.1, List.all_eq_true.2 fun x hx => ?_⟩, ?_⟩
  · obtain ⟨i, hi, rfl⟩ := List.getElem_of_mem hx
    obtain ⟨g, hg, e1, e2, hk⟩ := h.fair (List.getElem?_eq_getElem hi)
    have hb := h.bounds ht (List.getElem?_eq_getElem hi)
    obtain ⟨_, p1, p2, p3, p4, _⟩ := fair_bounds ht hg
    simp only [Fair.valid, Bool.and_eq_true, decide_eq_true_eq, inB]
    refine ⟨⟨by omega, hb.1⟩, List.all_eq_true.2 fun s hs => ?_⟩
    obtain ⟨q, hq, rfl⟩ := List.getElem_of_mem hs
    have := hb.2 q _ (List.getElem?_eq_getElem hq)
    simp only [Span.part, properB, Bool.and_eq_true, decide_eq_true_eq]
    omega
  · rw [sortedDays_iff]
    intro k a b ha hb
    obtain ⟨x, hx, _, ex, _⟩ := h.fair ha
    obtain ⟨y, hy, _, ey, _⟩ := h.fair hb
    have := (sortedDays_iff fs).1 h'.2 k x y hx hy
    omega
/-- better offers -/
theorem NarO.offerAt {l m : List Offer} (ho : offersOk l = true) (h : NarO l m) (k : Int) : (offerAt m k).give = (offerAt l k).give ∧ (offerAt m k).get = (offerAt l k).get ∧ (offerAt m k).units = (offerAt l k).units ∧ (offerAt m k).place = (offerAt l k).place ∧ (offerAt m k).from_ = (offerAt l k).from_ ∧ (offerAt m k).to = (offerAt l k).to ∧
    0 ≤ (offerAt l k).units ∧ 0 ≤ (offerAt l k).lo ∧ (offerAt l k).lo ≤ (offerAt m k).lo ∧ (offerAt m k).hi ≤ (offerAt l k).hi ∧ (offerAt m k).lo ≤ (offerAt m k).hi := by
  cases hl : l[k.toNat]? with
  | none =>
    have hm : m[k.toNat]? = none := by rw [List.getElem?_eq_none_iff] at hl ⊢; rw [h.1]; exact hl
    simp [Go.Proofs.Ytkbhmajcddmhnaa.offerAt, List.getD, hl, hm]
  | some o =>
    obtain ⟨t, ⟨t1, t2, t3⟩, hm⟩ := h.2 _ o hl
    obtain ⟨gi, ge, hgi, hge, hgi5, hge5, hgne, hu1, hu2, hlo1, hlo2, hhi, _⟩ := offer_bounds ho hl
    simp only [Go.Proofs.Ytkbhmajcddmhnaa.offerAt, List.getD, hl, hm, Option.getD_some, Offer.for_] at *
    refine ⟨trivial, trivial, trivial, trivial, trivial, trivial, by omega, by omega, by omega, by omega, by omega⟩
theorem NarT.keep {fs m : List Fair} (ht : tripOk fs = true) (h : NarT fs m) (i g : Nat) : 0 ≤ ((keepsOf fs i).getD g z0).lo ∧ ((keepsOf fs i).getD g z0).lo ≤ ((keepsOf m i).getD g z0).lo ∧ ((keepsOf m i).getD g z0).hi ≤ ((keepsOf fs i).getD g z0).hi ∧ ((keepsOf m i).getD g z0).lo ≤ ((keepsOf m i).getD g z0).hi := by
  cases hf : fs[i]? with
  | none =>
    have hm : m[i]? = none := by rw [List.getElem?_eq_none_iff] at hf ⊢; rw [h.1]; exact hf
    simp [keepsOf, List.getD, hf, hm, z0]
  | some f =>
    obtain ⟨ks, hk, hm⟩ := h.2 i f hf
    simp only [keepsOf, List.getD, hf, hm, Option.getD_some]
    cases hg : f.keeps[g]? with
    | none =>
      have hn : ks[g]? = none := by rw [List.getElem?_eq_none_iff] at hg ⊢; rw [hk.1]; exact hg
      simp [hn, z0]
    | some s =>
      obtain ⟨t, ⟨t1, t2, t3⟩, hn⟩ := hk.2 g s hg
      obtain ⟨_, _, _, _, _, hb⟩ := fair_bounds ht hf
      have := hb g s hg
      simp only [hn, Option.getD_some]
      omega
theorem NarT.fairAt {fs m : List Fair} (h : NarT fs m) (i : Nat) : (fairAt m i).place = (fairAt fs i).place ∧ (fairAt m i).day = (fairAt fs i).day := by
  cases hf : fs[i]? with
  | none =>
    have hm : m[i]? = none := by rw [List.getElem?_eq_none_iff] at hf ⊢; rw [h.1]; exact hf
    simp [Go.Proofs.Ytkbhmajcddmhnaa.fairAt, List.getD, hf, hm]
  | some f =>
    obtain ⟨ks, hk, hm⟩ := h.2 i f hf
    simp [Go.Proofs.Ytkbhmajcddmhnaa.fairAt, List.getD, hf, hm]
/-- no less of the same good -/
def HandLe (h h' : Hand) : Prop := h'.good = h.good ∧ 0 ≤ h.units ∧ h.units ≤ h'.units
def OHandLe : Option Hand → Option Hand → Prop
  | none, none => True
  | some h, some h' => HandLe h h'
  | _, _ => False
section
variable {l m : List Offer} {fs fm : List Fair} (ho : offersOk l = true) (ht : tripOk fs = true) (no : NarO l m) (nt : NarT fs fm)
include ho ht no nt
theorem HandLe.road {h h' : Hand} (e : HandLe h h') (i : Nat) : HandLe (roadHand fs i h) (roadHand fm i h') := by
  obtain ⟨e1, e2, e3⟩ := e
  refine ⟨e1, ?_⟩
  simp only [roadHand, nt.1, e1]
  split
  · obtain ⟨k1, k2, _⟩ := nt.keep ht i h.good.toNat
    unfold lf
    refine ⟨Int.ediv_nonneg (Int.mul_nonneg e2 k1) (by omega), Int.ediv_le_ediv (by omega) (Int.mul_le_mul e3 k2 k1 (by omega))⟩
  · exact ⟨e2, e3⟩
theorem HandLe.step {h h' : Hand} (e : HandLe h h') (i : Nat) (k : Int) : OHandLe (stepHand l fs i k h) (stepHand m fm i k h') := by
  obtain ⟨a1, a2, a3, a4, a5, a6, a7, a8, a9, _⟩ := no.offerAt ho k
  obtain ⟨f1, f2⟩ := nt.fairAt i
  have hop : openB (offerAt m k) (fairAt fm i) = openB (offerAt l k) (fairAt fs i) := by simp only [openB, a4, a5, a6, f1, f2]
  unfold stepHand
  rw [a1, hop, e.1]
  split
  · split
    · refine HandLe.road ho ht no nt ⟨a2, ?_⟩ i
      simp only [takeHand, a3]
      refine ⟨Int.mul_nonneg (Int.ediv_nonneg e.2.1 a7) a8, ?_⟩
      by_cases hu : 0 < (offerAt l k).units
      · exact Int.mul_le_mul (Int.ediv_le_ediv hu e.2.2) a9 a8 (Int.ediv_nonneg (Int.le_trans e.2.1 e.2.2) a7)
      · have : (offerAt l k).units = 0 := by omega
        simp [this]
    · trivial
  · exact HandLe.road ho ht no nt e i
theorem goneTo_le {h h' : Hand} (e : HandLe h h') (c : List Int) : ∀ n, OHandLe (goneTo l fs c h n) (goneTo m fm c h' n)
  | 0 => e
  | n + 1 => by
    have ih := goneTo_le e c n
    simp only [goneTo]
    cases h1 : goneTo l fs c h n with
    | none =>
      cases h2 : goneTo m fm c h' n with
      | none => trivial
      | some y => rw [h1, h2] at ih; exact ih.elim
    | some x =>
      cases h2 : goneTo m fm c h' n with
      | none => rw [h1, h2] at ih; exact ih.elim
      | some y =>
        rw [h1, h2] at ih
        exact HandLe.step ho ht no nt ih n _
theorem gains_le {h h' : Hand} (e : HandLe h h') (want : Int) (c : List Int) : match gains l fs h want c, gains m fm h' want c with
    | none, none => True
    | some v, some v' => v ≤ v'
    | _, _ => False := by
  have hg := goneTo_le ho ht no nt e c fs.length
  unfold gains goneOf
  rw [nt.1]
  cases h1 : goneTo l fs c h fs.length with
  | none =>
    cases h2 : goneTo m fm c h' fs.length with
    | none => trivial
    | some y => rw [h1, h2] at hg; exact hg.elim
  | some x =>
    cases h2 : goneTo m fm c h' fs.length with
    | none => rw [h1, h2] at hg; exact hg.elim
    | some y =>
      rw [h1, h2] at hg
      simp only [hg.1]
      by_cases hw : x.good = want
      · simp only [hw, if_true]; exact hg.2.2
      · simp only [hw, if_false]
/-- **the best chain gains no less** -/
theorem best_le {h h' : Hand} {want : Int} (hh : HandOk 0 h) (hh' : HandOk 0 h') (e : HandLe h h') :
    match bestTo l fs h want ((l.length + 1) ^ fs.length), bestTo m fm h' want ((m.length + 1) ^ fm.length) with
    | none, none => True
    | some x, some y => x.2 ≤ y.2
    | _, _ => False := by
  have s1 := best_spec (want := want) ho ht hh
  have s2 := best_spec (want := want) (no.ok ho) (nt.ok ht) hh'
  have hch : ∀ c, ChainOk m fm c ↔ ChainOk l fs c := fun c => by unfold ChainOk; rw [no.1, nt.1]
  cases h1 : bestTo l fs h want ((l.length + 1) ^ fs.length) with
  | none =>
    cases h2 : bestTo m fm h' want ((m.length + 1) ^ fm.length) with
    | none => trivial
    | some y =>
      rw [h1] at s1
      rw [h2] at s2
      have := gains_le ho ht no nt e want y.1
      rw [s1 y.1 ((hch _).1 s2.1), s2.2.1] at this
      exact this
  | some x =>
    rw [h1] at s1
    have hx := gains_le ho ht no nt e want x.1
    rw [s1.2.1] at hx
    cases h2 : bestTo m fm h' want ((m.length + 1) ^ fm.length) with
    | none =>
      rw [h2] at s2
      rw [s2 x.1 ((hch _).2 s1.1)] at hx
      exact hx
    | some y =>
      rw [h2] at s2
      cases hv : gains m fm h' want x.1 with
      | none => rw [hv] at hx; exact hx.elim
      | some v =>
        rw [hv] at hx
        exact Int.le_trans hx (s2.2.2 x.1 ((hch _).2 s1.1) v hv).1
/-- what market.Best tells, with more -/
theorem bestOf_le {g u u' want : Int} (hc : checkOf l fs = 0) (ha : argsOk g u want = true) (ha' : argsOk g u' want = true) (hu : u ≤ u') : (bestOf m fm g u' want).err = (bestOf l fs g u want).err ∧ (bestOf l fs g u want).got ≤ (bestOf m fm g u' want).got := by
  have hc' : checkOf m fm = 0 := by unfold checkOf; rw [no.ok ho, nt.ok ht]; rfl
  have e1 : bestOf l fs g u want = chosen (bestTo l fs ⟨g, u⟩ want ((l.length + 1) ^ fs.length)) := by unfold bestOf; rw [if_neg (by simp [hc]), if_neg (by simp [ha])]
  have e2 : bestOf m fm g u' want = chosen (bestTo m fm ⟨g, u'⟩ want ((m.length + 1) ^ fm.length)) := by unfold bestOf; rw [if_neg (by simp [hc']), if_neg (by simp [ha'])]
  simp only [argsOk, inB, Bool.and_eq_true, decide_eq_true_eq] at ha ha'
  have hok : ∀ u, 0 ≤ u → u ≤ 1000000 → HandOk 0 ⟨g, u⟩ := fun u h1 h2 => ⟨⟨g.toNat, by simp only; omega, by omega⟩, h1, by simp; omega⟩
  have := best_le ho ht no nt (want := want) (hok u (by omega) (by omega)) (hok u' (by omega) (by omega)) ⟨rfl, by simp only; omega, hu⟩
  rw [e1, e2]
  cases h1 : bestTo l fs ⟨g, u⟩ want ((l.length + 1) ^ fs.length) with
  | none =>
    cases h2 : bestTo m fm ⟨g, u'⟩ want ((m.length + 1) ^ fm.length) with
    | none => exact ⟨rfl, Int.le_refl _⟩
    | some y => rw [h1, h2] at this; exact this.elim
  | some x =>
    cases h2 : bestTo m fm ⟨g, u'⟩ want ((m.length + 1) ^ fm.length) with
    | none => rw [h1, h2] at this; exact this.elim
    | some y =>
      rw [h1, h2] at this
      exact ⟨rfl, this⟩
end
end Go.Proofs.Ytkbhmajcddmhnaa
