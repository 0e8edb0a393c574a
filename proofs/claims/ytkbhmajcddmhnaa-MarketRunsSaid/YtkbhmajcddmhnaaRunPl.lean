/- What a run of barters comes to: plain words. -/
import Derived.Test.YtkbhmajcddmhnaaBarter
import Derived.Test.YtkbhmajcddmhnaaPriced
namespace Go.Proofs.Ytkbhmajcddmhnaa
open Go.RowKit
set_option linter.unusedVariables false

def keepsOf (fs : List Fair) (k : Nat) : List Span := (fs.getD k ⟨0, 0, []⟩).keeps
/-- a state on the way -/
structure RS where
  held : List Span
  losses : List Loss
  now : Nat
def RS.step (fs : List Fair) (s : RS) : RS :=
  ⟨roadTo s.held (keepsOf fs s.now) 5, s.losses ++ roadLosses s.now s.held (keepsOf fs s.now) 5, s.now + 1⟩
def RS.go (fs : List Fair) (s : RS) : Nat → RS
  | 0 => s
  | n + 1 => (RS.go fs s n).step fs
/-- as far as fair t -/
def RS.to (fs : List Fair) (s : RS) (t : Nat) : RS := s.go fs (t - s.now)
def offerOpen (l : List Offer) (f : Fair) (k : Int) : Bool := decide (0 ≤ k) && match l[k.toNat]? with | some o => openB o f | none => false
def barterBad (l : List Offer) (fs : List Fair) (now : Nat) (b : Barter) : Bool :=
  !(inB b.fair now (fs.length - 1) && offerOpen l (fs.getD b.fair.toNat ⟨0, 0, []⟩) b.offer && inB b.times 1 1000000000000000)
def offerAt (l : List Offer) (k : Int) : Offer := l.getD k.toNat ⟨0, 0, 0, 0, 0, 0, 0, 0⟩
def stepOf (l : List Offer) (fs : List Fair) (s : RS) (b : Barter) : Sum Int RS :=
  if barterBad l fs s.now b then .inl 62 else
  if barterErr (s.to fs b.fair.toNat).held (offerAt l b.offer) b.times ≠ 0 then .inl (barterErr (s.to fs b.fair.toNat).held (offerAt l b.offer) b.times) else
  .inr ⟨barterHeld (s.to fs b.fair.toNat).held (offerAt l b.offer) b.times, (s.to fs b.fair.toNat).losses, (s.to fs b.fair.toNat).now⟩
def startOf (xs : List Int) : RS := ⟨xs.map fun x => ⟨x, x⟩, [], 0⟩
def runTo (l : List Offer) (fs : List Fair) (xs : List Int) (bs : List Barter) : Nat → Sum (Nat × Int) RS
  | 0 => .inr (startOf xs)
  | n + 1 => match runTo l fs xs bs n with
    | .inl e => .inl e
    | .inr s => match stepOf l fs s (bs.getD n ⟨0, 0, 0⟩) with
      | .inl e => .inl (n, e)
      | .inr s' => .inr s'
structure Told where
  held : List Span
  losses : List Loss
  at_ : Int
  err : Int
def runOf (l : List Offer) (fs : List Fair) (xs : List Int) (bs : List Barter) : Told :=
  if checkOf l fs ≠ 0 then ⟨[], [], 0, checkOf l fs⟩ else
  if stocksOk xs = false then ⟨[], [], 0, 2⟩ else
  if 60 < bs.length then ⟨[], [], 0, 4⟩ else
  match runTo l fs xs bs bs.length with
  | .inl e => ⟨[], [], e.1, e.2⟩
  | .inr s => ⟨(s.to fs (fs.length - 1)).held, (s.to fs (fs.length - 1)).losses, 0, 0⟩

theorem runOf_inl {l : List Offer} {fs : List Fair} {xs : List Int} {bs : List Barter} (hc : checkOf l fs = 0) (hs : stocksOk xs = true) (hb : bs.length ≤ 60) {e : Nat × Int} (h : runTo l fs xs bs bs.length = .inl e) : runOf l fs xs bs = ⟨[], [], e.1, e.2⟩ := by
  unfold runOf
  rw [if_neg (by simp [hc]), if_neg (by simp [hs]), if_neg (by omega), h]
theorem runOf_inr {l : List Offer} {fs : List Fair} {xs : List Int} {bs : List Barter} (hc : checkOf l fs = 0) (hs : stocksOk xs = true) (hb : bs.length ≤ 60) {s : RS} (h : runTo l fs xs bs bs.length = .inr s) :
    runOf l fs xs bs = ⟨(s.to fs (fs.length - 1)).held, (s.to fs (fs.length - 1)).losses, 0, 0⟩ := by
  unfold runOf
  rw [if_neg (by simp [hc]), if_neg (by simp [hs]), if_neg (by omega), h]
theorem runTo_inl {l : List Offer} {fs : List Fair} {xs : List Int} {bs : List Barter} {n : Nat} {e : Nat × Int} (h : runTo l fs xs bs n = .inl e) : ∀ m, n ≤ m → runTo l fs xs bs m = .inl e := by
  intro m hm
  induction m with
  | zero => obtain rfl : n = 0 := by omega
            exact h
  | succ m ih =>
    rcases Nat.lt_or_ge n (m + 1) with h' | h'
    · simp only [runTo, ih (by omega)]
    · obtain rfl : n = m + 1 := by omega
      exact h
/-- the first barter that cannot be done -/
theorem runTo_stop {l : List Offer} {fs : List Fair} {xs : List Int} {bs : List Barter} {n : Nat} {s : RS} {e : Int} {b : Barter} (h : runTo l fs xs bs n = .inr s) (hb : bs[n]? = some b) (hs : stepOf l fs s b = .inl e) : runTo l fs xs bs bs.length = .inl (n, e) := by
  have hn := (List.getElem?_eq_some_iff.1 hb).1
  refine runTo_inl (n := n + 1) ?_ _ (by omega)
  simp only [runTo, h, List.getD, hb, Option.getD_some, hs]
theorem runTo_next {l : List Offer} {fs : List Fair} {xs : List Int} {bs : List Barter} {n : Nat} {s s' : RS} {b : Barter} (h : runTo l fs xs bs n = .inr s) (hb : bs[n]? = some b) (hs : stepOf l fs s b = .inr s') : runTo l fs xs bs (n + 1) = .inr s' := by
  simp only [runTo, h, List.getD, hb, Option.getD_some, hs]

/-- what holds of a state on the way -/
def RS.Ok (fs : List Fair) (s : RS) : Prop := HeldOk s.held ∧ s.now + 1 ≤ fs.length ∧ s.losses.length ≤ 5 * s.now
theorem keeps_ok {fs : List Fair} (ht : tripOk fs = true) {k : Nat} (hk : k < fs.length) : KeepsOk (keepsOf fs k) := by
  obtain ⟨f, hf⟩ : ∃ f, fs[k]? = some f := ⟨_, List.getElem?_eq_getElem hk⟩
  have := fair_bounds ht hf
  simp only [keepsOf, List.getD, hf, Option.getD_some]
  exact ⟨this.1, this.2.2.2.2.2⟩
theorem RS.Ok.step {fs : List Fair} {s : RS} (ht : tripOk fs = true) (h : s.Ok fs) (hn : s.now + 1 < fs.length) : (s.step fs).Ok fs := by
  refine ⟨h.1.road (keeps_ok ht (by omega)), by simp only [RS.step]; omega, ?_⟩
  have := roadLosses_len s.now s.held (keepsOf fs s.now) 5
  have := h.2.2
  simp only [RS.step, List.length_append]
  omega
theorem RS.go_now (fs : List Fair) (s : RS) (n : Nat) : (s.go fs n).now = s.now + n := by
  induction n with
  | zero => rfl
  | succ n ih => simp only [RS.go, RS.step, ih]; omega
theorem RS.Ok.go {fs : List Fair} {s : RS} (ht : tripOk fs = true) (h : s.Ok fs) : ∀ n, s.now + n + 1 ≤ fs.length → (s.go fs n).Ok fs
  | 0, _ => h
  | n + 1, hn => (RS.Ok.go ht h n (by omega)).step ht (by rw [RS.go_now]; omega)
theorem RS.Ok.to {fs : List Fair} {s : RS} (ht : tripOk fs = true) (h : s.Ok fs) {t : Nat} (h1 : s.now ≤ t) (h2 : t + 1 ≤ fs.length) : (s.to fs t).Ok fs := h.go ht _ (by omega)
theorem RS.to_now (fs : List Fair) (s : RS) {t : Nat} (h : s.now ≤ t) : (s.to fs t).now = t := by rw [RS.to, RS.go_now]; omega
theorem start_ok {fs : List Fair} {xs : List Int} (ht : tripOk fs = true) (hx : stocksOk xs = true) : (startOf xs).Ok fs := by
  obtain ⟨h5, hb⟩ := stock_get hx
  have := trip_len ht
  refine ⟨⟨by simp [startOf, h5], fun g s hs => ?_⟩, by simp only [startOf]; omega, by simp [startOf]⟩
  simp only [startOf, List.getElem?_map, Option.map_eq_some_iff] at hs
  obtain ⟨x, hx, rfl⟩ := hs
  have := hb g x hx
  simp only
  omega
theorem bad_false {l : List Offer} {fs : List Fair} {now : Nat} {b : Barter} (hfs : 1 ≤ fs.length) (h : barterBad l fs now b = false) :
    ∃ (f j : Nat) (x : Fair) (o : Offer), b.fair = f ∧ now ≤ f ∧ f < fs.length ∧ fs[f]? = some x ∧ b.offer = j ∧ l[j]? = some o ∧ openB o x = true ∧ 1 ≤ b.times ∧ b.times ≤ 1000000000000000 := by
  simp only [barterBad, Bool.not_eq_false', Bool.and_eq_true, inB, decide_eq_true_eq, offerOpen] at h
  obtain ⟨⟨⟨h1, h2⟩, h3, h4⟩, h5, h6⟩ := h
  have hf : b.fair.toNat < fs.length := by omega
  obtain ⟨x, hx⟩ : ∃ x, fs[b.fair.toNat]? = some x := ⟨_, List.getElem?_eq_getElem hf⟩
  simp only [List.getD, hx, Option.getD_some] at h4
  cases ho : l[b.offer.toNat]? with
  | none => rw [ho] at h4; cases h4
  | some o =>
    rw [ho] at h4
    exact ⟨b.fair.toNat, b.offer.toNat, x, o, by omega, by omega, hf, hx, by omega, ho, h4, h5, h6⟩
theorem RS.Ok.barter {l : List Offer} {fs : List Fair} {s : RS} {x : Offer} {t : Int} (h : s.Ok fs) (hx : x.valid = true) (ht : 1 ≤ t) (he : barterErr s.held x t = 0) : RS.Ok fs ⟨barterHeld s.held x t, s.losses, s.now⟩ := by
  simp [Offer.valid, inB, properB] at hx
  obtain ⟨hh, h2, h3⟩ := h
  refine ⟨⟨by simp [barterHeld, hh.1], fun g u hu => ?_⟩, h2, h3⟩
  have hgi : x.give.toNat < s.held.length := by rw [hh.1]; omega
  have hge : x.get.toNat < s.held.length := by rw [hh.1]; omega
  obtain ⟨a, ha⟩ : ∃ a, s.held[x.give.toNat]? = some a := ⟨_, List.getElem?_eq_getElem hgi⟩
  obtain ⟨b, hb⟩ : ∃ a, s.held[x.get.toNat]? = some a := ⟨_, List.getElem?_eq_getElem hge⟩
  obtain ⟨a1, a2, a3⟩ := hh.2 _ _ ha
  obtain ⟨b1, b2, b3⟩ := hh.2 _ _ hb
  simp only [barterErr, List.getD, ha, hb, Option.getD_some] at he
  simp only [barterHeld, List.getD, ha, hb, Option.getD_some] at hu
  have m1 : 0 ≤ t * x.units := Int.mul_nonneg (by omega) (by omega)
  have m2 : 0 ≤ t * x.lo := Int.mul_nonneg (by omega) (by omega)
  have m3 : t * x.lo ≤ t * x.hi := Int.mul_le_mul_of_nonneg_left (by omega) (by omega)
  split at he
  · cases he
  · split at he
    · cases he
    · rw [List.getElem?_set] at hu
      split at hu
      · split at hu
        · cases hu
          simp only
          omega
        · cases hu
      · rw [List.getElem?_set] at hu
        split at hu
        · first
            | (cases hu
               simp only
               omega)
            | (split at hu
               · cases hu
                 simp only
                 omega
               · cases hu)
        · exact hh.2 g u hu
theorem contains_here (l : List Offer) (f : Fair) (k : Int) : (hereOf l f.place f.day).contains k = offerOpen l f k := by
  unfold offerOpen
  by_cases hk : 0 ≤ k
  · obtain ⟨j, rfl⟩ : ∃ j : Nat, k = j := ⟨k.toNat, by omega⟩
    simp only [Int.toNat_natCast, hk, decide_true, Bool.true_and]
    cases ho : l[j]? with
    | none =>
      simp only
      rw [← Bool.not_eq_true, List.contains_iff_mem]
      intro hm
      obtain ⟨j', o, h1, h2, _⟩ := mem_hereOf hm
      have : j = j' := by omega
      subst this
      rw [ho] at h2; cases h2
    | some o =>
      simp only
      cases hop : openB o f with
      | true => rw [List.contains_iff_mem]; exact hereOf_mem ho hop
      | false =>
        rw [← Bool.not_eq_true, List.contains_iff_mem]
        intro hm
        obtain ⟨j', o', h1, h2, h3⟩ := mem_hereOf hm
        have : j = j' := by omega
        subst this
        rw [ho] at h2; cases h2
        rw [hop] at h3; cases h3
  · simp only [hk, decide_false, Bool.false_and]
    rw [← Bool.not_eq_true, List.contains_iff_mem]
    intro hm
    obtain ⟨j', o', h1, _⟩ := mem_hereOf hm
    omega
end Go.Proofs.Ytkbhmajcddmhnaa
