/- What comes of barters lies in what a run tells: plain words. -/
import Derived.Test.YtkbhmajcddmhnaaVTru
import Derived.Test.YtkbhmajcddmhnaaVNarLaw
namespace Go.Proofs.Ytkbhmajcddmhnaa
open Go.RowKit
set_option linter.unusedVariables false
set_option linter.unusedSimpArgs false
set_option linter.unusedSectionVars false

/-- what there is lies in what is told -/
def HGo (held : List Span) (l : List Int) : Prop := ∀ g, g < 5 → (held.getD g z0).lo ≤ l.getD g 0 ∧ l.getD g 0 ≤ (held.getD g z0).hi
/-- each loss on a road lies in one that is named, if there was any -/
def LGo (losses : List Loss) (roads : List (List Int)) : Prop :=
  (∀ (i g : Nat) (x : List Int), roads[i]? = some x → g < 5 → 0 < x.getD g 0 → ∃ z ∈ losses, z.road = i ∧ z.good = g) ∧
  ∀ z ∈ losses, ∃ (i g : Nat) (x : List Int), z.road = i ∧ z.good = g ∧ g < 5 ∧ roads[i]? = some x ∧ z.lo ≤ x.getD g 0 ∧ x.getD g 0 ≤ z.hi
structure StGo (s : RS) (t : TS) : Prop where
  now : t.roads.length = s.now
  held : HGo s.held t.held
  loss : LGo s.losses t.roads
theorem sev_in {by_ : List Int} {ks held : List Span} {t : TS} (hh : HeldOk held) (hk : KeepsOk ks) (h : HGo held t.held) {g : Nat} (hg : g < 5) :
    lf (held.getD g z0).lo (ks.getD g z0).lo ≤ t.sev by_ ks g ∧ t.sev by_ ks g ≤ lf (held.getD g z0).hi (ks.getD g z0).hi ∧
    (held.getD g z0).lo - lf (held.getD g z0).lo (ks.getD g z0).hi ≤ t.gone by_ ks g ∧ t.gone by_ ks g ≤ (held.getD g z0).hi - lf (held.getD g z0).hi (ks.getD g z0).lo := by
  obtain ⟨a1, a2⟩ := h g hg
  obtain ⟨c1, c2, c3⟩ := held_get hh g
  obtain ⟨d1, d2, d3⟩ := keep_get' hk g
  obtain ⟨i1, i2⟩ := inside_bd (v := pick by_ (100 + 5 * t.roads.length + g)) d2
  unfold TS.gone TS.sev
  exact ⟨lf_mono c1 a1 d1 i1, lf_mono (by omega) a2 (by omega) i2, lost_mono a1 (by omega) i2 d3 c1, lost_mono a2 d1 i1 (by omega) (by omega)⟩
theorem StGo.road {by_ : List Int} {fs : List Fair} {s : RS} {t : TS} {i r : Nat} (ht : tripOk fs = true) (h : StGo s t) (hs : s.Ok fs) (hok : t.Ok i r) (hn : s.now < fs.length) : StGo (s.step fs) (t.road by_ (keepsOf fs t.roads.length)) := by
  have hk := keeps_ok ht hn
  have hl5 : t.held.length = 5 := hok.held.1
  rw [h.now]
  refine ⟨?_, fun g hg => ?_, ?_, ?_⟩
  · simp [TS.road, TS.mid, RS.step, h.now]
  · obtain ⟨e1, e2, _, _⟩ := sev_in (by_ := by_) hs.1 hk h.held hg
    simp only [RS.step, TS.road, TS.mid, setTo_get]
    rw [roadTo_getD _ hs.1.1 g, if_pos hg, if_pos ⟨hg, by omega⟩]
    exact ⟨e1, e2⟩
  · intro j g x hx hg h0
    simp only [TS.road, TS.mid] at hx
    simp only [RS.step, List.mem_append]
    rcases Nat.lt_or_ge j t.roads.length with hj | hj
    · rw [List.getElem?_append_left hj] at hx
      obtain ⟨z, hz, h1⟩ := h.loss.1 j g x hx hg h0
      exact ⟨z, .inl hz, h1⟩
    · obtain rfl : j = t.roads.length := by have := (List.getElem?_eq_some_iff.1 hx).1; simp at this; omega
      rw [List.getElem?_append_right (Nat.le_refl _)] at hx
      simp at hx
      subst hx
      obtain ⟨_, _, e3, e4⟩ := sev_in (by_ := by_) hs.1 hk h.held hg
      simp only [goneRow, setTo_get] at h0
      rw [if_pos ⟨hg, by simpa using hg⟩] at h0
      exact ⟨_, .inr (mem_roadLosses.2 ⟨g, hg, by simp only [roadLost]; omega, rfl⟩), by simp only; rw [h.now], rfl⟩
  · intro z hz
    simp only [RS.step, List.mem_append] at hz
    simp only [TS.road, TS.mid]
    rcases hz with hz | hz
    · obtain ⟨j, g, x, h1, h2, h3, h4, h5⟩ := h.loss.2 z hz
      exact ⟨j, g, x, h1, h2, h3, by rw [List.getElem?_append_left (List.getElem?_eq_some_iff.1 h4).1]; exact h4, h5⟩
    · obtain ⟨g, hg, hp, rfl⟩ := mem_roadLosses.1 hz
      obtain ⟨_, _, e3, e4⟩ := sev_in (by_ := by_) hs.1 hk h.held hg
      refine ⟨t.roads.length, g, goneRow by_ (keepsOf fs s.now) t 5, by simp only; rw [h.now], rfl, hg, by rw [List.getElem?_append_right (Nat.le_refl _)]; simp, ?_⟩
      simp only [goneRow, setTo_get, roadLost]
      rw [if_pos ⟨hg, by simpa using hg⟩]
      exact ⟨e3, e4⟩
theorem StGo.go {by_ : List Int} {fs : List Fair} {s : RS} {t : TS} {i r : Nat} (ht : tripOk fs = true) (h : StGo s t) (hs : s.Ok fs) (hok : t.Ok i r) : ∀ n, s.now + n < fs.length → StGo (s.go fs n) (t.go by_ fs n)
  | 0, _ => h
  | n + 1, hn => by
    have ih := StGo.go (by_ := by_) ht h hs hok n (by omega)
    have hs' := hs.go ht n (by omega)
    have hok' := hok.go (by_ := by_) ht n (by have := h.now; rw [hok.roads.1] at this; omega)
    have := StGo.road (by_ := by_) ht ih hs' hok' (by rw [RS.go_now]; omega)
    rw [hok'.roads.1] at this
    simp only [RS.go, TS.go]
    rw [hok.roads.1]
    exact this
theorem StGo.to {by_ : List Int} {fs : List Fair} {s : RS} {t : TS} {i r : Nat} (ht : tripOk fs = true) (h : StGo s t) (hs : s.Ok fs) (hok : t.Ok i r) {m : Nat} (h1 : s.now ≤ m) (h2 : m < fs.length) : StGo (s.to fs m) (t.to by_ fs m) := by
  unfold RS.to TS.to
  rw [h.now]
  exact StGo.go ht h hs hok _ (by omega)
/-- a barter that is done in the run can be done, whatever is got and kept -/
theorem StGo.barter {l : List Offer} {fs : List Fair} {by_ : List Int} {s s' : RS} {t : TS} {i k r : Nat} {b : Barter} (ho : offersOk l = true) (ht : tripOk fs = true) (h : StGo s t) (hs : s.Ok fs) (hok : t.Ok k r) (hb : stepOf l fs s b = .inr s') : ∃ t', goStep l fs by_ i b t = some t' ∧ StGo s' t' := by
  obtain ⟨h1, h2, rfl⟩ := step_inr hb
  have htl := trip_len ht
  obtain ⟨f, j, x, o, hf, hnf, hfl, hfx, hj, hoj, hop, ht1, ht2⟩ := bad_false (by omega) h1
  have hto := StGo.to (by_ := by_) ht h hs hok (m := f) hnf hfl
  have hso := hs.to ht (t := f) hnf (by omega)
  have hrn : r = s.now := by rw [← hok.roads.1]; exact h.now
  have hko := hok.to (by_ := by_) ht (m := f) (by omega) hfl
  have hoat : offerAt l b.offer = o := by simp [offerAt, List.getD, hj, hoj]
  obtain ⟨gi, ge, hgi, hge, hgi5, hge5, hgne, hu1, hu2, hlo1, hlo2, hhi, _⟩ := offer_bounds ho hoj
  have hf' : b.fair.toNat = f := by omega
  have hgi' : o.give.toNat = gi := by omega
  have hge' : o.get.toNat = ge := by omega
  rw [hf', hoat] at h2
  have hfe : fs.getD f ⟨0, 0, []⟩ = x := by simp [List.getD, hfx]
  obtain ⟨n1, n2⟩ := got_bd (x := o) (v := pick by_ i) ⟨hlo1, hlo2, hhi⟩ ht1
  obtain ⟨p1, p2⟩ := hto.held gi hgi5
  obtain ⟨p3, p4⟩ := hto.held ge hge5
  simp only [barterErr, hgi', hge'] at h2
  have hs1 : ¬ ((s.to fs f).held.getD gi z0).lo < b.times * o.units := fun e => by rw [if_pos e] at h2; cases h2
  rw [if_neg hs1] at h2
  have hs2 : ¬ 1000000000000000 < ((s.to fs f).held.getD ge z0).hi + b.times * o.hi := fun e => by rw [if_pos e] at h2; cases h2
  have hbad : goBad l fs t.roads.length b = false := by
    have hjl := (List.getElem?_eq_some_iff.1 hoj).1
    simp only [goBad, Bool.or_eq_false_iff, decide_eq_false_iff_not, h.now]
    omega
  have hl5 := hko.held.1
  generalize hT : t.to by_ fs f = T at *
  obtain ⟨N, hN⟩ : ∃ N, got o b.times (pick by_ i) = N := ⟨_, rfl⟩
  rw [hN] at n1 n2
  have hset : ∀ g, ((T.held.set gi (T.held.getD gi 0 - b.times * o.units)).getD g 0) = if g = gi then T.held.getD gi 0 - b.times * o.units else T.held.getD g 0 := fun g => getD_set _ _ _ (by omega) g
  refine ⟨(((T.pay o (b.times * o.units)).take o N).note o N), ?_, ?_⟩
  · unfold goStep
    rw [hbad]
    simp only [Bool.false_eq_true, if_false, hf', hoat, hfe, hop, hT, hN, hgi', hge', TS.pay, TS.take]
    refine (if_neg ?_).trans ((if_neg ?_).trans ?_)
    · rintro (e | e)
      · cases e
      · omega
    · rw [getD_set _ _ _ (by simp; omega), if_pos rfl, hset, if_neg (fun e => hgne e.symm)]
      omega
    · rfl
  · rw [hf', hoat]
    refine ⟨hto.now, fun g hg => ?_, hto.loss⟩
    simp only [TS.note, TS.take, TS.pay, hgi', hge', barterHeld]
    rw [getD_set2 (by rw [hso.1.1]; omega) (by rw [hso.1.1]; omega) hgne, getD_set _ _ _ (by simp; omega)]
    obtain ⟨w1, w2⟩ := hto.held g hg
    split
    · rename_i e
      subst e
      rw [hset, if_neg (fun e => hgne e.symm)]
      simp only
      omega
    · rw [hset]
      split
      · rename_i e2
        subst e2
        simp only
        omega
      · exact ⟨w1, w2⟩
theorem StGo.run {l : List Offer} {fs : List Fair} {xs : List Int} {bs : List Barter} {by_ : List Int} (ho : offersOk l = true) (ht : tripOk fs = true) (hx : stocksOk xs = true) : ∀ {n : Nat} {s : RS}, runTo l fs xs bs n = .inr s → ∃ t, goTo l fs xs bs by_ n = some t ∧ StGo s t
  | 0, s, h => by
    cases h
    obtain ⟨h5, hb⟩ := stock_get hx
    refine ⟨_, rfl, rfl, fun g hg => ?_, fun i g x hx => by simp [goStart] at hx, fun z hz => by simp [startOf] at hz⟩
    obtain ⟨x, hxg⟩ : ∃ x, xs[g]? = some x := ⟨_, List.getElem?_eq_getElem (by rw [h5]; exact hg)⟩
    simp [startOf, goStart, List.getD, List.getElem?_map, hxg]
  | n + 1, s, h => by
    simp only [runTo] at h
    cases hr : runTo l fs xs bs n with
    | inl e => rw [hr] at h; cases h
    | inr s0 =>
      rw [hr] at h
      cases hs : stepOf l fs s0 (bs.getD n ⟨0, 0, 0⟩) with
      | inl e => simp only [hs] at h; cases h
      | inr s1 =>
        simp only [hs] at h
        cases h
        obtain ⟨t, ht0, hst⟩ := StGo.run (by_ := by_) ho ht hx hr
        obtain ⟨r, hr1, hok⟩ := goTo_ok ho ht hx ht0
        obtain ⟨_, _, hin⟩ := StIn.run ho ht (NarO.refl ho) (NarT.refl ht) hx hr
        obtain ⟨t', h1, h2⟩ := StGo.barter (by_ := by_) (i := n) ho ht hst hin.ok hok hs
        exact ⟨t', by simp only [goTo, ht0, Option.bind_some]; exact h1, h2⟩
end Go.Proofs.Ytkbhmajcddmhnaa

/- Goods are conserved: plain words. -/
namespace Go.Proofs.Ytkbhmajcddmhnaa
open Go.RowKit
set_option linter.unusedVariables false
set_option linter.unusedSimpArgs false

/-- what there was, and was got, is what was given, lost, and is there -/
def Cons (xs : List Int) (t : TS) : Prop := ∀ g, g < 5 → xs.getD g 0 + t.got.getD g 0 = t.given.getD g 0 + t.lost.getD g 0 + t.held.getD g 0
theorem Cons.road {xs : List Int} {by_ : List Int} {ks : List Span} {t : TS} (h : Cons xs t) (hl : t.held.length = 5) (hl2 : t.lost.length = 5) : Cons xs (t.road by_ ks) := by
  intro g hg
  have := h g hg
  simp only [TS.road, TS.mid, setTo_get]
  rw [if_pos ⟨hg, by omega⟩, if_pos ⟨hg, by omega⟩]
  unfold TS.gone
  omega
theorem Cons.go {xs : List Int} {by_ : List Int} {fs : List Fair} {t : TS} {i r : Nat} (ht : tripOk fs = true) (h : Cons xs t) (hok : t.Ok i r) : ∀ n, r + n < fs.length + 1 → Cons xs (t.go by_ fs n)
  | 0, _ => h
  | n + 1, hn => by
    have hok' := hok.go (by_ := by_) ht n (by omega)
    exact (Cons.go ht h hok n (by omega)).road hok'.held.1 hok'.lost.1
theorem Cons.barter {xs : List Int} {T : TS} {x : Offer} {gi ge : Nat} {m n : Int} (h : Cons xs T) (hg : x.give = gi) (he : x.get = ge) (hne : gi ≠ ge) (hgi : gi < 5) (hge : ge < 5) (h1 : T.held.length = 5) (h2 : T.given.length = 5) (h3 : T.got.length = 5) : Cons xs (((T.pay x m).take x n).note x n) := by
  intro g hg5
  have := h g hg5
  simp only [TS.note, TS.take, TS.pay, hg, he, Int.toNat_natCast]
  rw [getD_set _ _ _ (by omega), getD_set _ _ _ (by omega), getD_set _ _ _ (by simp; omega), getD_set _ _ _ (by omega), getD_set _ _ _ (by omega)]
  by_cases e1 : g = ge
  · subst e1
    rw [if_pos rfl, if_neg (fun e => hne e.symm), if_pos rfl, if_neg (fun e => hne e.symm)]
    omega
  · rw [if_neg e1, if_neg e1]
    split
    · rename_i e2
      subst e2
      omega
    · omega
theorem Cons.step {xs : List Int} {l : List Offer} {fs : List Fair} {by_ : List Int} {i k r : Nat} {b : Barter} {t t' : TS} (ho : offersOk l = true) (ht : tripOk fs = true) (h : Cons xs t) (hok : t.Ok k r) (hs : goStep l fs by_ i b t = some t') : Cons xs t' := by
  unfold goStep at hs
  split at hs
  · cases hs
  · rename_i hb
    simp only [goBad, Bool.or_eq_true, decide_eq_true_eq, not_or, hok.roads.1] at hb
    obtain ⟨⟨⟨⟨⟨b1, b2⟩, b3⟩, b4⟩, b5⟩, b6⟩ := hb
    have hto := hok.to (by_ := by_) ht (m := b.fair.toNat) (by omega) (by omega)
    have hc : Cons xs (t.to by_ fs b.fair.toNat) := by
      unfold TS.to
      rw [hok.roads.1]
      exact h.go ht hok _ (by omega)
    obtain ⟨o, hoj⟩ : ∃ o, l[b.offer.toNat]? = some o := ⟨_, List.getElem?_eq_getElem (by omega)⟩
    have hoat : offerAt l b.offer = o := by simp [offerAt, List.getD, hoj]
    obtain ⟨gi, ge, hgi, hge, hgi5, hge5, hgne, _⟩ := offer_bounds ho hoj
    rw [hoat] at hs
    split at hs
    · cases hs
    · split at hs
      · cases hs
      · cases hs
        exact hc.barter hgi hge hgne hgi5 hge5 hto.held.1 hto.given.1 hto.got.1
theorem Cons.run {l : List Offer} {fs : List Fair} {xs : List Int} {bs : List Barter} {by_ : List Int} (ho : offersOk l = true) (ht : tripOk fs = true) (hx : stocksOk xs = true) : ∀ {n : Nat} {t : TS}, goTo l fs xs bs by_ n = some t → Cons xs t
  | 0, t, h => by
    cases h
    intro g hg
    have : ([0, 0, 0, 0, 0] : List Int).getD g 0 = 0 := by
      match g, hg with
      | 0, _ => rfl
      | 1, _ => rfl
      | 2, _ => rfl
      | 3, _ => rfl
      | 4, _ => rfl
    simp only [goStart, this]
    omega
  | n + 1, t, h => by
    simp only [goTo, Option.bind_eq_some_iff] at h
    obtain ⟨s, hs, h⟩ := h
    obtain ⟨r, _, hok⟩ := goTo_ok ho ht hx hs
    exact (Cons.run ho ht hx hs).step ho ht hok h
end Go.Proofs.Ytkbhmajcddmhnaa

/- What a run that is done tells of what comes: plain words. -/
namespace Go.Proofs.Ytkbhmajcddmhnaa
open Go.RowKit
set_option linter.unusedVariables false
set_option linter.unusedSimpArgs false

theorem Cons.to {xs : List Int} {by_ : List Int} {fs : List Fair} {t : TS} {i r : Nat} (ht : tripOk fs = true) (h : Cons xs t) (hok : t.Ok i r) {m : Nat} (h1 : r ≤ m) (h2 : m < fs.length) : Cons xs (t.to by_ fs m) := by
  unfold TS.to
  rw [hok.roads.1]
  exact h.go ht hok _ (by omega)
structure TrueFacts (xs : List Int) (n r : Nat) (h : List Span) (x : List Loss) (t : TS) : Prop where
  h5 : h.length = 5
  ok : t.Ok n r
  held : HGo h t.held
  loss : LGo x t.roads
  cons : Cons xs t
  sorted : x.Pairwise LossLt
  each : ∀ z ∈ x, 0 ≤ z.road ∧ z.road < r ∧ 0 ≤ z.good ∧ z.good < 5 ∧ 0 < z.hi
theorem true_of {l : List Offer} {fs : List Fair} (hc : checkOf l fs = 0) {xs : List Int} {bs : List Barter} {by_ : List Int} (hx : stocksOk xs = true) (hb : bs.length ≤ 60) {h : List Span} {x : List Loss} {q : Int} (he : runOf l fs xs bs = ⟨h, x, q, 0⟩) :
    q = 0 ∧ ∃ t, goesOf l fs xs bs by_ = some t ∧ TrueFacts xs bs.length (fs.length - 1) h x t := by
  obtain ⟨ho, ht⟩ := checkOf_zero hc
  obtain ⟨s, h1, h2, h3⟩ := runOf_done hc hx hb (by rw [he])
  rw [he] at h3
  cases h3
  have htl := trip_len ht
  obtain ⟨t0, g1, g2⟩ := StGo.run (by_ := by_) ho ht hx h1
  obtain ⟨r, hr, hok⟩ := goTo_ok ho ht hx g1
  have hsn := h2.2.1
  have hrs : r = s.now := by rw [← hok.roads.1]; exact g2.now
  have hto := StGo.to (by_ := by_) ht g2 h2 hok (m := fs.length - 1) (by omega) (by omega)
  have hokt := hok.to (by_ := by_) ht (m := fs.length - 1) (by omega) (by omega)
  have hct := (Cons.run ho ht hx g1).to (by_ := by_) ht hok (m := fs.length - 1) (by omega) (by omega)
  have hso := h2.to ht (t := fs.length - 1) (by omega) (by omega)
  have hlo := (LossOk.run h1).to (fs := fs) (fs.length - 1)
  have hnow : (s.to fs (fs.length - 1)).now = fs.length - 1 := RS.to_now fs s (by omega)
  refine ⟨rfl, _, by unfold goesOf; rw [g1]; rfl, ⟨hso.1.1, hokt, hto.held, hto.loss, hct, hlo.1, fun z hz => ?_⟩⟩
  have := hlo.2 z hz
  rw [hnow] at this
  omega
theorem stepOf_err {l : List Offer} {fs : List Fair} {s : RS} {b : Barter} {e : Int} (h : stepOf l fs s b = .inl e) : e = 62 ∨ e = 63 ∨ e = 9 := by
  unfold stepOf at h
  split at h
  · cases h; exact .inl rfl
  · split at h
    · rename_i hne
      cases h
      unfold barterErr at hne ⊢
      split
      · exact .inr (.inl rfl)
      · split
        · exact .inr (.inr rfl)
        · rename_i a1 a2
          rw [if_neg a1, if_neg a2] at hne
          exact absurd rfl hne
    · cases h
theorem runTo_err {l : List Offer} {fs : List Fair} {xs : List Int} {bs : List Barter} : ∀ {n : Nat} {e : Nat × Int}, runTo l fs xs bs n = .inl e → ∃ s, e.1 < n ∧ runTo l fs xs bs e.1 = .inr s ∧ stepOf l fs s (bs.getD e.1 ⟨0, 0, 0⟩) = .inl e.2
  | 0, e, h => by cases h
  | n + 1, e, h => by
    simp only [runTo] at h
    cases hr : runTo l fs xs bs n with
    | inl e' =>
      rw [hr] at h
      cases h
      obtain ⟨s, h1, h2⟩ := runTo_err hr
      exact ⟨s, by omega, h2⟩
    | inr s =>
      rw [hr] at h
      cases hs : stepOf l fs s (bs.getD n ⟨0, 0, 0⟩) with
      | inr s' => simp only [hs] at h; cases h
      | inl e' =>
        simp only [hs] at h
        cases h
        exact ⟨s, by simp only; omega, hr, hs⟩
theorem run_err {l : List Offer} {fs : List Fair} (hc : checkOf l fs = 0) {xs : List Int} {bs : List Barter} (hx : stocksOk xs = true) (hb : bs.length ≤ 60) {h : List Span} {x : List Loss} {q e : Int} (he : runOf l fs xs bs = ⟨h, x, q, e⟩) (hne : e ≠ 0) :
    h = [] ∧ x = [] ∧ (e = 62 ∨ e = 63 ∨ e = 9) ∧ ∃ k s, q = ((k : Nat) : Int) ∧ k < bs.length ∧ runTo l fs xs bs k = .inr s ∧ stepOf l fs s (bs.getD k ⟨0, 0, 0⟩) = .inl e := by
  cases hr : runTo l fs xs bs bs.length with
  | inr s =>
    rw [runOf_inr hc hx hb hr] at he
    cases he
    exact absurd rfl hne
  | inl p =>
    rw [runOf_inl hc hx hb hr] at he
    cases he
    obtain ⟨s, h1, h2, h3⟩ := runTo_err hr
    exact ⟨rfl, rfl, stepOf_err h3, p.1, s, rfl, h1, h2, h3⟩
end Go.Proofs.Ytkbhmajcddmhnaa
