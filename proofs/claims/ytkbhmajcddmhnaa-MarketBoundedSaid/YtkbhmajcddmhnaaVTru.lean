/- What comes of a trip, with choices: plain words; how it lies in memory. -/
import Derived.Test.YtkbhmajcddmhnaaVNarW
import Derived.Test.YtkbhmajcddmhnaaVGr5
namespace Go.Proofs.Ytkbhmajcddmhnaa
open Go.RowKit
set_option linter.unusedVariables false
set_option linter.unusedSimpArgs false

/-- a list, its first n numbers written anew -/
def setTo (f : Nat → Int) (l : List Int) : Nat → List Int
  | 0 => l
  | n + 1 => (setTo f l n).set n (f n)
theorem setTo_len (f : Nat → Int) (l : List Int) : ∀ n, (setTo f l n).length = l.length
  | 0 => rfl
  | n + 1 => by simp [setTo, setTo_len f l n]
theorem setTo_get (f : Nat → Int) (l : List Int) (g : Nat) : ∀ n, (setTo f l n).getD g 0 = if g < n ∧ g < l.length then f g else l.getD g 0
  | 0 => by simp [setTo]
  | n + 1 => by
    have ih := setTo_get f l g n
    simp only [setTo, List.getD] at ih ⊢
    by_cases e : n = g
    · subst e
      by_cases hl : n < l.length
      · rw [List.getElem?_set_self (by rw [setTo_len]; exact hl), if_pos ⟨by omega, hl⟩]
        rfl
      · rw [List.set_eq_of_length_le (by rw [setTo_len]; omega), ih, if_neg (by omega), if_neg (by omega)]
    · rw [List.getElem?_set_ne e, ih]
      by_cases h : g < n ∧ g < l.length
      · rw [if_pos h, if_pos ⟨by omega, h.2⟩]
      · rw [if_neg h, if_neg (by omega)]
theorem getD_set (l : List Int) (i : Nat) (x : Int) (hi : i < l.length) (g : Nat) : (l.set i x).getD g 0 = if g = i then x else l.getD g 0 := by
  simp only [List.getD]
  by_cases e : g = i
  · subst e
    rw [List.getElem?_set_self hi, if_pos rfl]
    rfl
  · rw [List.getElem?_set_ne (fun h => e h.symm), if_neg e]
structure TS where
  held : List Int
  given : List Int
  got : List Int
  lost : List Int
  roads : List (List Int)
/-- what is kept of a good on the road -/
def TS.sev (by_ : List Int) (ks : List Span) (t : TS) (g : Nat) : Int := lf (t.held.getD g 0) (insideOf (ks.getD g z0) (pick by_ (100 + 5 * t.roads.length + g)))
def TS.gone (by_ : List Int) (ks : List Span) (t : TS) (g : Nat) : Int := t.held.getD g 0 - t.sev by_ ks g
/-- a road on which the first n goods have gone -/
def TS.mid (by_ : List Int) (ks : List Span) (t : TS) (n : Nat) : TS := ⟨setTo (t.sev by_ ks) t.held n, t.given, t.got, setTo (fun g => t.lost.getD g 0 + t.gone by_ ks g) t.lost n, t.roads⟩
def goneRow (by_ : List Int) (ks : List Span) (t : TS) (n : Nat) : List Int := setTo (t.gone by_ ks) [0, 0, 0, 0, 0] n
def TS.road (by_ : List Int) (ks : List Span) (t : TS) : TS := { t.mid by_ ks 5 with roads := t.roads ++ [goneRow by_ ks t 5] }
def TS.go (by_ : List Int) (fs : List Fair) (t : TS) : Nat → TS
  | 0 => t
  | n + 1 => (TS.go by_ fs t n).road by_ (keepsOf fs (t.roads.length + n))
def TS.to (by_ : List Int) (fs : List Fair) (t : TS) (m : Nat) : TS := t.go by_ fs (m - t.roads.length)
theorem TS.go_roads (by_ : List Int) (fs : List Fair) (t : TS) : ∀ n, (t.go by_ fs n).roads.length = t.roads.length + n
  | 0 => rfl
  | n + 1 => by simp [TS.go, TS.road, TS.mid, TS.go_roads by_ fs t n]; omega
/-- times of an offer, chosen -/
def got (x : Offer) (t v : Int) : Int := if t * insideOf ⟨x.lo, x.hi⟩ v < t * x.hi ∧ v % 3 = 1 then t * insideOf ⟨x.lo, x.hi⟩ v + 1 else t * insideOf ⟨x.lo, x.hi⟩ v
def TS.pay (t : TS) (x : Offer) (m : Int) : TS := { t with held := t.held.set x.give.toNat (t.held.getD x.give.toNat 0 - m), given := t.given.set x.give.toNat (t.given.getD x.give.toNat 0 + m) }
def TS.take (t : TS) (x : Offer) (n : Int) : TS := { t with held := t.held.set x.get.toNat (t.held.getD x.get.toNat 0 + n) }
def TS.note (t : TS) (x : Offer) (n : Int) : TS := { t with got := t.got.set x.get.toNat (t.got.getD x.get.toNat 0 + n) }
def goBad (l : List Offer) (fs : List Fair) (now : Nat) (b : Barter) : Bool := decide (b.fair < now) || decide ((fs.length : Int) ≤ b.fair) || decide (b.offer < 0) || decide ((l.length : Int) ≤ b.offer) || decide (b.times < 1) || decide (1000000000000000 < b.times)
def goStep (l : List Offer) (fs : List Fair) (by_ : List Int) (i : Nat) (b : Barter) (t : TS) : Option TS :=
  if goBad l fs t.roads.length b then none else
  if openB (offerAt l b.offer) (fs.getD b.fair.toNat ⟨0, 0, []⟩) = false ∨ (t.to by_ fs b.fair.toNat).held.getD (offerAt l b.offer).give.toNat 0 < b.times * (offerAt l b.offer).units then none else
  if 1000000000000000 < ((((t.to by_ fs b.fair.toNat).pay (offerAt l b.offer) (b.times * (offerAt l b.offer).units)).take (offerAt l b.offer) (got (offerAt l b.offer) b.times (pick by_ i))).held.getD (offerAt l b.offer).get.toNat 0) then none else
  some ((((t.to by_ fs b.fair.toNat).pay (offerAt l b.offer) (b.times * (offerAt l b.offer).units)).take (offerAt l b.offer) (got (offerAt l b.offer) b.times (pick by_ i))).note (offerAt l b.offer) (got (offerAt l b.offer) b.times (pick by_ i)))
def goStart (xs : List Int) : TS := ⟨xs, [0, 0, 0, 0, 0], [0, 0, 0, 0, 0], [0, 0, 0, 0, 0], []⟩
def goTo (l : List Offer) (fs : List Fair) (xs : List Int) (bs : List Barter) (by_ : List Int) : Nat → Option TS
  | 0 => some (goStart xs)
  | n + 1 => (goTo l fs xs bs by_ n).bind (goStep l fs by_ n (bs.getD n ⟨0, 0, 0⟩))
def goesOf (l : List Offer) (fs : List Fair) (xs : List Int) (bs : List Barter) (by_ : List Int) : Option TS := (goTo l fs xs bs by_ bs.length).map fun t => t.to by_ fs (fs.length - 1)
theorem goTo_none {l : List Offer} {fs : List Fair} {xs : List Int} {bs : List Barter} {by_ : List Int} {n : Nat} (h : goTo l fs xs bs by_ n = none) : ∀ m, n ≤ m → goTo l fs xs bs by_ m = none := by
  intro m hm
  induction m with
  | zero => obtain rfl : n = 0 := by omega
            exact h
  | succ m ih =>
    rcases Nat.lt_or_ge n (m + 1) with h' | h'
    · simp only [goTo, ih (by omega), Option.bind_none]
    · obtain rfl : n = m + 1 := by omega
      exact h
/-- what holds on the way: i barters have been tried -/
def In15 (l : List Int) (k : Nat) : Prop := l.length = 5 ∧ ∀ g, 0 ≤ l.getD g 0 ∧ l.getD g 0 ≤ 1000000000000000 * k
structure TS.Ok (t : TS) (i r : Nat) : Prop where
  held : In15 t.held 1
  given : In15 t.given i
  got : In15 t.got i
  lost : In15 t.lost r
  roads : t.roads.length = r ∧ ∀ x ∈ t.roads, x.length = 5
theorem In15.mono {l : List Int} {k m : Nat} (h : In15 l k) (e : k ≤ m) : In15 l m := ⟨h.1, fun g => by have := h.2 g; omega⟩
theorem sev_bd {by_ : List Int} {ks : List Span} {t : TS} (hh : In15 t.held 1) (hk : KeepsOk ks) (g : Nat) : 0 ≤ t.sev by_ ks g ∧ t.sev by_ ks g ≤ t.held.getD g 0 := by
  have h1 := hh.2 g
  have hk1 : 0 ≤ (ks.getD g z0).lo ∧ (ks.getD g z0).lo ≤ (ks.getD g z0).hi ∧ (ks.getD g z0).hi ≤ 1000 := by
    cases hg : ks[g]? with
    | none => simp [List.getD, hg, z0]
    | some s => simpa [List.getD, hg] using hk.2 g s hg
  obtain ⟨i1, i2⟩ := inside_bd (v := pick by_ (100 + 5 * t.roads.length + g)) hk1.2.1
  exact lf_le h1.1 (by omega) (by omega)
theorem TS.Ok.mid {t : TS} {i r : Nat} {by_ : List Int} {ks : List Span} (h : t.Ok i r) (hk : KeepsOk ks) (n : Nat) : (t.mid by_ ks n).held.length = 5 ∧ (t.mid by_ ks n).lost.length = 5 ∧ In15 (t.mid by_ ks n).held 1 ∧ In15 (t.mid by_ ks n).lost (r + 1) := by
  have e1 : (t.mid by_ ks n).held.length = 5 := by simp only [TS.mid, setTo_len]; exact h.held.1
  have e2 : (t.mid by_ ks n).lost.length = 5 := by simp only [TS.mid, setTo_len]; exact h.lost.1
  refine ⟨e1, e2, ⟨e1, fun g => ?_⟩, ⟨e2, fun g => ?_⟩⟩
  · have := sev_bd (by_ := by_) h.held hk g
    have := h.held.2 g
    simp only [TS.mid, setTo_get]
    split <;> omega
  · have := sev_bd (by_ := by_) h.held hk g
    have := h.held.2 g
    have := h.lost.2 g
    simp only [TS.mid, setTo_get, TS.gone]
    split <;> omega
theorem TS.Ok.road {t : TS} {i r : Nat} {by_ : List Int} {ks : List Span} (h : t.Ok i r) (hk : KeepsOk ks) : (t.road by_ ks).Ok i (r + 1) := by
  obtain ⟨_, _, h1, h2⟩ := h.mid (by_ := by_) hk 5
  refine ⟨h1, h.given, h.got, h2, ?_, fun x hx => ?_⟩
  · simp [TS.road, TS.mid, h.roads.1]
  · simp only [TS.road, List.mem_append, List.mem_singleton] at hx
    rcases hx with hx | rfl
    · exact h.roads.2 x hx
    · simp [goneRow, setTo_len]
theorem TS.Ok.go {t : TS} {i r : Nat} {by_ : List Int} {fs : List Fair} (ht : tripOk fs = true) (h : t.Ok i r) : ∀ n, r + n < fs.length + 1 → (t.go by_ fs n).Ok i (r + n)
  | 0, _ => h
  | n + 1, hn => (TS.Ok.go ht h n (by omega)).road (keeps_ok ht (by rw [h.roads.1]; omega))
theorem TS.Ok.to {t : TS} {i r : Nat} {by_ : List Int} {fs : List Fair} (ht : tripOk fs = true) (h : t.Ok i r) {m : Nat} (h1 : r ≤ m) (h2 : m < fs.length) : (t.to by_ fs m).Ok i m := by
  unfold TS.to
  rw [h.roads.1]
  have := h.go (by_ := by_) ht (m - r) (by omega)
  rw [show r + (m - r) = m by omega] at this
  exact this
theorem goStart_ok {xs : List Int} (h : stocksOk xs = true) : (goStart xs).Ok 0 0 := by
  obtain ⟨h5, hb⟩ := stock_get h
  have z : In15 [0, 0, 0, 0, 0] 0 := ⟨rfl, fun g => by
    have : ([0, 0, 0, 0, 0] : List Int).getD g 0 = 0 := by
      match g with
      | 0 => rfl
      | 1 => rfl
      | 2 => rfl
      | 3 => rfl
      | 4 => rfl
      | g + 5 => rfl
    rw [this]
    omega⟩
  refine ⟨⟨h5, fun g => ?_⟩, z, z, z, rfl, fun x hx => by cases hx⟩
  show 0 ≤ xs.getD g 0 ∧ xs.getD g 0 ≤ _
  cases hg : xs[g]? with
  | none => simp [List.getD, hg]
  | some x =>
    have := hb g x hg
    simp only [List.getD, hg, Option.getD_some]
    omega
theorem got_bd {x : Offer} (hx : 1 ≤ x.lo ∧ x.lo ≤ x.hi ∧ x.hi ≤ 50) {t v : Int} (ht : 1 ≤ t) : t * x.lo ≤ got x t v ∧ got x t v ≤ t * x.hi := by
  obtain ⟨i1, i2⟩ := inside_bd (s := ⟨x.lo, x.hi⟩) (v := v) hx.2.1
  have m1 := Int.mul_le_mul_of_nonneg_left i1 (show 0 ≤ t by omega)
  have m2 := Int.mul_le_mul_of_nonneg_left i2 (show 0 ≤ t by omega)
  simp only at m1 m2
  unfold got
  split <;> omega
theorem goStep_ok {l : List Offer} {fs : List Fair} {by_ : List Int} {i r k : Nat} {b : Barter} {t t' : TS} (ho : offersOk l = true) (ht : tripOk fs = true) (h : t.Ok k r) (hs : goStep l fs by_ i b t = some t') : ∃ r', r ≤ r' ∧ r' < fs.length ∧ t'.Ok (k + 1) r' := by
  unfold goStep at hs
  split at hs
  · cases hs
  · rename_i hb
    simp only [goBad, Bool.or_eq_true, decide_eq_true_eq, not_or, h.roads.1] at hb
    obtain ⟨⟨⟨⟨⟨b1, b2⟩, b3⟩, b4⟩, b5⟩, b6⟩ := hb
    have hto := h.to (by_ := by_) ht (m := b.fair.toNat) (by omega) (by omega)
    obtain ⟨o, hoj⟩ : ∃ o, l[b.offer.toNat]? = some o := ⟨_, List.getElem?_eq_getElem (by omega)⟩
    have hoat : offerAt l b.offer = o := by simp [offerAt, List.getD, hoj]
    obtain ⟨gi, ge, hgi, hge, hgi5, hge5, hgne, hu1, hu2, hlo1, hlo2, hhi, _⟩ := offer_bounds ho hoj
    rw [hoat] at hs
    have hgi' : o.give.toNat = gi := by omega
    have hge' : o.get.toNat = ge := by omega
    obtain ⟨n1, n2⟩ := got_bd (x := o) (v := pick by_ i) ⟨hlo1, hlo2, hhi⟩ (show 1 ≤ b.times by omega)
    have hm0 : 0 ≤ b.times * o.units := Int.mul_nonneg (by omega) (by omega)
    have hl0 : 0 ≤ b.times * o.lo := Int.mul_nonneg (by omega) (by omega)
    generalize b.times * o.units = M at *
    generalize got o b.times (pick by_ i) = N at *
    split at hs
    · cases hs
    · rename_i hp
      simp only [not_or, hgi'] at hp
      split at hs
      · cases hs
      · rename_i hf
        cases hs
        generalize hT : t.to by_ fs b.fair.toNat = T at *
        have hl1 := hto.held.1
        have hl2 := hto.given.1
        have hl3 := hto.got.1
        simp only [TS.take, TS.pay, TS.note, hgi', hge'] at hf ⊢
        have hset : ∀ (x : Int) (g : Nat), ((T.held.set gi x).getD g 0) = if g = gi then x else T.held.getD g 0 := fun x g => getD_set _ _ _ (by omega) g
        refine ⟨b.fair.toNat, by omega, by omega, ⟨?_, ?_, ?_, hto.lost, hto.roads⟩⟩
        · refine ⟨by simp [hl1], fun g => ?_⟩
          rw [getD_set _ _ _ (by simp; omega)] at hf ⊢
          have hg := hto.held.2 g
          have hge := hto.held.2 ge
          have hgi2 := hto.held.2 gi
          simp only [hset, if_true] at hf ⊢
          rw [if_neg (show ¬ ge = gi by omega)] at hf ⊢
          split
          · omega
          · split
            · rename_i e1; subst e1; omega
            · omega
        · refine ⟨by simp [hl2], fun g => ?_⟩
          have hg := hto.given.2 g
          have hgi2 := hto.given.2 gi
          have hh := hto.held.2 gi
          rw [getD_set _ _ _ (by omega)]
          split <;> omega
        · refine ⟨by simp [hl3], fun g => ?_⟩
          have hg := hto.got.2 g
          have hge2 := hto.got.2 ge
          have hh := hto.held.2 ge
          rw [getD_set _ _ _ (by simp; omega)] at hf
          simp only [hset, if_true] at hf
          rw [if_neg (show ¬ ge = gi by omega)] at hf
          rw [getD_set _ _ _ (by omega)]
          split <;> omega
theorem goTo_ok {l : List Offer} {fs : List Fair} {xs : List Int} {bs : List Barter} {by_ : List Int} (ho : offersOk l = true) (ht : tripOk fs = true) (hx : stocksOk xs = true) : ∀ {n : Nat} {t : TS}, goTo l fs xs bs by_ n = some t → ∃ r, r < fs.length ∧ t.Ok n r
  | 0, t, h => by
    cases h
    have := trip_len ht
    exact ⟨0, by omega, goStart_ok hx⟩
  | n + 1, t, h => by
    simp only [goTo, Option.bind_eq_some_iff] at h
    obtain ⟨s, hs, h⟩ := h
    obtain ⟨r, hr, hok⟩ := goTo_ok ho ht hx hs
    obtain ⟨r', _, h1, h2⟩ := goStep_ok ho ht hok h
    exact ⟨r', h1, h2⟩
end Go.Proofs.Ytkbhmajcddmhnaa
