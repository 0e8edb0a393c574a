/- What a run of barters comes to: plain words. -/
import Derived.Test.YtkbhmajcddmhnaaVBarter
import Derived.Test.YtkbhmajcddmhnaaVPriced
namespace Go.Proofs.Ytkbhmajcddmhnaa
open Go.RowKit
set_option linter.unusedVariables false

def keepsOf (fs : List Fair) (k : Nat) : List Span := (fs.getD k ⟨0, 0, []⟩).keeps
/-- a state on the way -/
structure RS where
  held : List Span
  losses : List Loss
  now : Nat
def RS.step (fs : List Fair) (s : RS) : RS :=
  ⟨roadTo s.held (keepsOf fs s.now) 5, s.losses ++ roadLosses s.now s.held (keepsOf fs s.now) 5, s.now + 1⟩
def RS.go (fs : List Fair) (s : RS) : Nat → RS
  | 0 => s
  | n + 1 => (RS.go fs s n).step fs
/-- as far as fair t -/
def RS.to (fs : List Fair) (s : RS) (t : Nat) : RS := s.go fs (t - s.now)
def offerOpen (l : List Offer) (f : Fair) (k : Int) : Bool := decide (0 ≤ k) && match l[k.toNat]? with | some o => openB o f | none => false
def barterBad (l : List Offer) (fs : List Fair) (now : Nat) (b : Barter) : Bool :=
  !(inB b.fair now (fs.length - 1) && offerOpen l (fs.getD b.fair.toNat ⟨0, 0, []⟩) b.offer && inB b.times 1 1000000000000000)
def offerAt (l : List Offer) (k : Int) : Offer := l.getD k.toNat ⟨0, 0, 0, 0, 0, 0, 0, 0⟩
def stepOf (l : List Offer) (fs : List Fair) (s : RS) (b : Barter) : Sum Int RS :=
  if barterBad l fs s.now b then .inl 62 else
  if barterErr (s.to fs b.fair.toNat).held (offerAt l b.offer) b.times ≠ 0 then .inl (barterErr (s.to fs b.fair.toNat).held (offerAt l b.offer) b.times) else
  .inr ⟨barterHeld (s.to fs b.fair.toNat).held (offerAt l b.offer) b.times, (s.to fs b.fair.toNat).losses, (s.to fs b.fair.toNat).now⟩
def startOf (xs : List Int) : RS := ⟨xs.map fun x => ⟨x, x⟩, [], 0⟩
def runTo (l : List Offer) (fs : List Fair) (xs : List Int) (bs : List Barter) : Nat → Sum (Nat × Int) RS
  | 0 => .inr (startOf xs)
  | n + 1 => match runTo l fs xs bs n with
    | .inl e => .inl e
    | .inr s => match stepOf l fs s (bs.getD n ⟨0, 0, 0⟩) with
      | .inl e => .inl (n, e)
      | .inr s' => .inr s'
structure Told where
  held : List Span
  losses : List Loss
  at_ : Int
  err : Int
def runOf (l : List Offer) (fs : List Fair) (xs : List Int) (bs : List Barter) : Told :=
  if checkOf l fs ≠ 0 then ⟨[], [], 0, checkOf l fs⟩ else
  if stocksOk xs = false then ⟨[], [], 0, 2⟩ else
  if 60 < bs.length then ⟨[], [], 0, 4⟩ else
  match runTo l fs xs bs bs.length with
  | .inl e => ⟨[], [], e.1, e.2⟩
  | .inr s => ⟨(s.to fs (fs.length - 1)).held, (s.to fs (fs.length - 1)).losses, 0, 0⟩

theorem runOf_inl {l : List Offer} {fs : List Fair} {xs : List Int} {bs : List Barter} (hc : checkOf l fs = 0) (hs : stocksOk xs = true) (hb : bs.length ≤ 60) {e : Nat × Int} (h : runTo l fs xs bs bs.length = .inl e) : runOf l fs xs bs = ⟨[], [], e.1, e.2⟩ := by
  unfold runOf
  rw [if_neg (by simp [hc]), if_neg (by simp [hs]), if_neg (by omega), h]
theorem runOf_inr {l : List Offer} {fs : List Fair} {xs : List Int} {bs : List Barter} (hc : checkOf l fs = 0) (hs : stocksOk xs = true) (hb : bs.length ≤ 60) {s : RS} (h : runTo l fs xs bs bs.length = .inr s) :
    runOf l fs xs bs = ⟨(s.to fs (fs.length - 1)).held, (s.to fs (fs.length - 1)).losses, 0, 0⟩ := by
  unfold runOf
  rw [if_neg (by simp [hc]), if_neg (by simp [hs]), if_neg (by omega), h]
theorem runTo_inl {l : List Offer} {fs : List Fair} {xs : List Int} {bs : List Barter} {n : Nat} {e : Nat × Int} (h : runTo l fs xs bs n = .inl e) : ∀ m, n ≤ m → runTo l fs xs bs m = .inl e := by
  intro m hm
  induction m with
  | zero => obtain rfl : n = 0 := by omega
            exact h
  | succ m ih =>
    rcases Nat.lt_or_ge n (m + 1) with h' | h'
    · simp only [runTo, ih (by omega)]
    · obtain rfl : n = m + 1 := by omega
      exact h
/-- the first barter that cannot be done -/
theorem runTo_stop {l : List Offer} {fs : List Fair} {xs : List Int} {bs : List Barter} {n : Nat} {s : RS} {e : Int} {b : Barter} (h : runTo l fs xs bs n = .inr s) (hb : bs[n]? = some b) (hs : stepOf l fs s b = .inl e) : runTo l fs xs bs bs.length = .inl (n, e) := by
  have hn := (List.getElem?_eq_some_iff.1 hb).1
  refine runTo_inl (n := n + 1) ?_ _ (by omega)
  simp only [runTo, h, List.getD, hb, Option.getD_some, hs]
theorem runTo_next {l : List Offer} {fs : List Fair} {xs : List Int} {bs : List Barter} {n : Nat} {s s' : RS} {b : Barter} (h : runTo l fs xs bs n = .inr s) (hb : bs[n]? = some b) (hs : stepOf l fs s b = .inr s') : runTo l fs xs bs (n + 1) = .inr s' := by
  simp only [runTo, h, List.getD, hb, Option.getD_some, hs]

/-- what holds of a state on the way -/
def RS.Ok (fs : List Fair) (s : RS) : Prop := HeldOk s.held ∧ s.now + 1 ≤ fs.length ∧ s.losses.length ≤ 5 * s.now
theorem keeps_ok {fs : List Fair} (ht : tripOk fs = true) {k : Nat} (hk : k < fs.length) : KeepsOk (keepsOf fs k) := by
  obtain ⟨f, hf⟩ : ∃ f, fs[k]? = some f := ⟨_, List.getElem?_eq_getElem hk⟩
  have := fair_bounds ht hf
  simp only [keepsOf, List.getD, hf, Option.getD_some]
  exact ⟨this.1, this.2.2.2.2.2⟩
theorem RS.Ok.step {fs : List Fair} {s : RS} (ht : tripOk fs = true) (h : s.Ok fs) (hn : s.now + 1 < fs.length) : (s.step fs).Ok fs := by
  refine ⟨h.1.road (keeps_ok ht (by omega)), by simp only [RS.step]; omega, ?_⟩
  have := roadLosses_len s.now s.held (keepsOf fs s.now) 5
  have := h.2.2
  simp only [RS.step, List.length_append]
  omega
theorem RS.go_now (fs : List Fair) (s : RS) (n : Nat) : (s.go fs n).now = s.now + n := by
  induction n with
  | zero => rfl
  | succ n ih => simp only [RS.go, RS.step, ih]; omega
theorem RS.Ok.go {fs : List Fair} {s : RS} (ht : tripOk fs = true) (h : s.Ok fs) : ∀ n, s.now + n + 1 ≤ fs.length → (s.go fs n).Ok fs
  | 0, _ => h
  | n + 1, hn => (RS.Ok.go ht h n (by omega)).step ht (by rw [RS.go_now]; omega)
theorem RS.Ok.to {fs : List Fair} {s : RS} (ht : tripOk fs = true) (h : s.Ok fs) {t : Nat} (h1 : s.now ≤ t) (h2 : t + 1 ≤ fs.length) : (s.to fs t).Ok fs := h.go ht _ (by omega)
theorem RS.to_now (fs : List Fair) (s : RS) {t : Nat} (h : s.now ≤ t) : (s.to fs t).now = t := by rw [RS.to, RS.go_now]; omega
theorem start_ok {fs : List Fair} {xs : List Int} (ht : tripOk fs = true) (hx : stocksOk xs = true) : (startOf xs).Ok fs := by
  obtain ⟨h5, hb⟩ := stock_get hx
  have := trip_len ht
  refine ⟨⟨by simp [startOf, h5], fun g s hs => ?_⟩, by simp only [startOf]; omega, by simp [startOf]⟩
  simp only [startOf, List.getElem?_map, Option.map_eq_some_iff] at hs
  obtain ⟨x, hx, rfl⟩ := hs
  have := hb g x hx
  simp only
  omega
theorem bad_false {l : List Offer} {fs : List Fair} {now : Nat} {b : Barter} (hfs : 1 ≤ fs.length) (h : barterBad l fs now b = false) :
    ∃ (f j : Nat) (x : Fair) (o : Offer), b.fair = f ∧ now ≤ f ∧ f < fs.length ∧ fs[f]? = some x ∧ b.offer = j ∧ l[j]? = some o ∧ openB o x = true ∧ 1 ≤ b.times ∧ b.times ≤ 1000000000000000 := by
  simp only [barterBad, Bool.not_eq_false', Bool.and_eq_true, inB, decide_eq_true_eq, offerOpen] at h
  obtain ⟨⟨⟨h1, h2⟩, h3, h4⟩, h5, h6⟩ := h
  have hf : b.fair.toNat < fs.length := by omega
  obtain ⟨x, hx⟩ : ∃ x, fs[b.fair.toNat]? = some x := ⟨_, List.getElem?_eq_getElem hf⟩
  simp only [List.getD, hx, Option.getD_some] at h4
  cases ho : l[b.offer.toNat]? with
  | none => rw [ho] at h4; cases h4
  | some o =>
    rw [ho] at h4
    exact ⟨b.fair.toNat, b.offer.toNat, x, o, by omega, by omega, hf, hx, by omega, ho, h4, h5, h6⟩
theorem RS.Ok.barter {l : List Offer} {fs : List Fair} {s : RS} {x : Offer} {t : Int} (h : s.Ok fs) (hx : x.valid = true) (ht : 1 ≤ t) (he : barterErr s.held x t = 0) : RS.Ok fs ⟨barterHeld s.held x t, s.losses, s.now⟩ := by
  simp [Offer.valid, inB, properB] at hx
  obtain ⟨hh, h2, h3⟩ := h
  refine ⟨⟨by simp [barterHeld, hh.1], fun g u hu => ?_⟩, h2, h3⟩
  have hgi : x.give.toNat < s.held.length := by rw [hh.1]; omega
  have hge : x.get.toNat < s.held.length := by rw [hh.1]; omega
  obtain ⟨a, ha⟩ : ∃ a, s.held[x.give.toNat]? = some a := ⟨_, List.getElem?_eq_getElem hgi⟩
  obtain ⟨b, hb⟩ : ∃ a, s.held[x.get.toNat]? = some a := ⟨_, List.getElem?_eq_getElem hge⟩
  obtain ⟨a1, a2, a3⟩ := hh.2 _ _ ha
  obtain ⟨b1, b2, b3⟩ := hh.2 _ _ hb
  simp only [barterErr, List.getD, ha, hb, Option.getD_some] at he
  simp only [barterHeld, List.getD, ha, hb, Option.getD_some] at hu
  have m1 : 0 ≤ t * x.units := Int.mul_nonneg (by omega) (by omega)
  have m2 : 0 ≤ t * x.lo := Int.mul_nonneg (by omega) (by omega)
  have m3 : t * x.lo ≤ t * x.hi := Int.mul_le_mul_of_nonneg_left (by omega) (by omega)
  split at he
  · cases he
  · split at he
    · cases he
    · rw [List.getElem?_set] at hu
      split at hu
      · split at hu
        · cases hu
          simp only
          omega
        · cases hu
      · rw [List.getElem?_set] at hu
        split at hu
        · first
            | (cases hu
               simp only
               omega)
            | (split at hu
               · cases hu
                 simp only
                 omega
               · cases hu)
        · exact hh.2 g u hu
theorem contains_here (l : List Offer) (f : Fair) (k : Int) : (hereOf l f.place f.day).contains k = offerOpen l f k := by
  unfold offerOpen
  by_cases hk : 0 ≤ k
  · obtain ⟨j, rfl⟩ : ∃ j : Nat, k = j := ⟨k.toNat, by omega⟩
    simp only [Int.toNat_natCast, hk, decide_true, Bool.true_and]
    cases ho : l[j]? with
    | none =>
      simp only
      rw [← Bool.not_eq_true, List.contains_iff_mem]
      intro hm
      obtain ⟨j', o, h1, h2, _⟩ := mem_hereOf hm
      have : j = j' := by omega
      subst this
      rw [ho] at h2; cases h2
    | some o =>
      simp only
      cases hop : openB o f with
      | true => rw [List.contains_iff_mem]; exact hereOf_mem ho hop
      | false =>
        rw [← Bool.not_eq_true, List.contains_iff_mem]
        intro hm
        obtain ⟨j', o', h1, h2, h3⟩ := mem_hereOf hm
        have : j = j' := by omega
        subst this
        rw [ho] at h2; cases h2
        rw [hop] at h3; cases h3
  · simp only [hk, decide_false, Bool.false_and]
    rw [← Bool.not_eq_true, List.contains_iff_mem]
    intro hm
    obtain ⟨j', o', h1, _⟩ := mem_hereOf hm
    omega
end Go.Proofs.Ytkbhmajcddmhnaa

/- What is in hand after a chain: plain words. -/
namespace Go.Proofs.Ytkbhmajcddmhnaa
open Go.RowKit
set_option linter.unusedVariables false

def fairAt (fs : List Fair) (i : Nat) : Fair := fs.getD i ⟨0, 0, []⟩
/-- good and units in hand -/
structure Hand where
  good : Int
  units : Int
  deriving DecidableEq
def roadHand (fs : List Fair) (i : Nat) (h : Hand) : Hand := ⟨h.good, if i + 1 < fs.length then lf h.units ((keepsOf fs i).getD h.good.toNat z0).lo else h.units⟩
def takeHand (o : Offer) (h : Hand) : Hand := ⟨o.get, h.units / o.units * o.lo⟩
/-- what is in hand when one leaves fair i, where k was chosen -/
def stepHand (l : List Offer) (fs : List Fair) (i : Nat) (k : Int) (h : Hand) : Option Hand :=
  if 0 ≤ k then
    if (offerAt l k).give = h.good ∧ openB (offerAt l k) (fairAt fs i) = true then some (roadHand fs i (takeHand (offerAt l k) h)) else none
  else some (roadHand fs i h)
def goneTo (l : List Offer) (fs : List Fair) (ch : List Int) (h : Hand) : Nat → Option Hand
  | 0 => some h
  | n + 1 => (goneTo l fs ch h n).bind (stepHand l fs n (ch.getD n (-1)))
def goneOf (l : List Offer) (fs : List Fair) (ch : List Int) (h : Hand) : Option Hand := goneTo l fs ch h fs.length

def HandOk (i : Nat) (h : Hand) : Prop := (∃ g : Nat, h.good = g ∧ g < 5) ∧ 0 ≤ h.units ∧ h.units ≤ 1000000 * 50 ^ i
theorem pow50 {i : Nat} (h : i ≤ 5) : (50 : Int) ^ i ≤ 312500000 := by
  have h6 : i = 0 ∨ i = 1 ∨ i = 2 ∨ i = 3 ∨ i = 4 ∨ i = 5 := by omega
  rcases h6 with rfl | rfl | rfl | rfl | rfl | rfl <;> decide
theorem HandOk.le {i : Nat} {h : Hand} (hh : HandOk i h) (hi : i ≤ 5) : h.units ≤ 312500000000000 := by
  have := pow50 hi
  have := hh.2.2
  omega
theorem pow50' {i : Nat} (h : i ≤ 4) : (50 : Int) ^ i ≤ 6250000 := by
  have h6 : i = 0 ∨ i = 1 ∨ i = 2 ∨ i = 3 ∨ i = 4 := by omega
  rcases h6 with rfl | rfl | rfl | rfl | rfl <;> decide
theorem HandOk.le4 {i : Nat} {h : Hand} (hh : HandOk i h) (hi : i ≤ 4) : h.units ≤ 6250000000000 := by
  have := pow50' hi
  have := hh.2.2
  omega
theorem div_bd {u a : Int} (h : 0 ≤ u) (ha : 1 ≤ a) : 0 ≤ u / a ∧ u / a ≤ u := by
  refine ⟨Int.ediv_nonneg h (by omega), ?_⟩
  exact Int.ediv_le_self _ h
theorem HandOk.take {i : Nat} {h : Hand} {o : Offer} (hh : HandOk i h) (hg : ∃ g : Nat, o.get = g ∧ g < 5) (hu : 1 ≤ o.units) (h1 : 1 ≤ o.lo) (h2 : o.lo ≤ 50) : HandOk (i + 1) (takeHand o h) := by
  obtain ⟨d1, d2⟩ := div_bd hh.2.1 hu
  obtain ⟨m1, m2⟩ := mul_bd d1 d2 (show 0 ≤ o.lo by omega) h2
  refine ⟨hg, m1, ?_⟩
  have := hh.2.2
  simp only [takeHand]
  rw [show (1000000 : Int) * 50 ^ (i + 1) = 1000000 * 50 ^ i * 50 by rw [Int.pow_succ, Int.mul_assoc]]
  omega
theorem HandOk.up {i : Nat} {h : Hand} (hh : HandOk i h) : HandOk (i + 1) h := by
  refine ⟨hh.1, hh.2.1, ?_⟩
  have := hh.2.2
  have h3 := hh.2.1
  rw [show (1000000 : Int) * 50 ^ (i + 1) = 1000000 * 50 ^ i * 50 by rw [Int.pow_succ, Int.mul_assoc]]
  omega
theorem keep_get {fs : List Fair} (ht : tripOk fs = true) {i : Nat} (hi : i < fs.length) {g : Nat} (hg : g < 5) : ∃ s, (keepsOf fs i)[g]? = some s ∧ 0 ≤ s.lo ∧ s.lo ≤ s.hi ∧ s.hi ≤ 1000 := by
  have hk := keeps_ok ht hi
  obtain ⟨s, hs⟩ : ∃ s, (keepsOf fs i)[g]? = some s := ⟨_, List.getElem?_eq_getElem (by rw [hk.1]; exact hg)⟩
  exact ⟨s, hs, hk.2 g s hs⟩
theorem HandOk.road {fs : List Fair} {i j : Nat} {h : Hand} (ht : tripOk fs = true) (hh : HandOk j h) (hi : i < fs.length) : HandOk j (roadHand fs i h) := by
  obtain ⟨⟨g, hg, hg5⟩, h0, h1⟩ := hh
  refine ⟨⟨g, hg, hg5⟩, ?_⟩
  simp only [roadHand]
  split
  · obtain ⟨s, hs, s0, s1, s2⟩ := keep_get ht hi hg5
    rw [hg, Int.toNat_natCast]
    simp only [List.getD, hs, Option.getD_some]
    have := lf_le h0 s0 (show s.lo ≤ 1000 by omega)
    omega
  · omega
theorem HandOk.step {l : List Offer} {fs : List Fair} {i : Nat} {k : Int} {h h' : Hand} (ho : offersOk l = true) (ht : tripOk fs = true) (hi : i < fs.length) (hk : k < l.length) (hh : HandOk i h) (hs : stepHand l fs i k h = some h') : HandOk (i + 1) h' := by
  unfold stepHand at hs
  split at hs
  · split at hs
    · cases hs
      obtain ⟨o, hoo⟩ : ∃ o, l[k.toNat]? = some o := ⟨_, List.getElem?_eq_getElem (by omega)⟩
      have e : offerAt l k = o := by simp [offerAt, List.getD, hoo]
      obtain ⟨gi, ge, hgi, hge, hgi5, hge5, _, hu1, _, hl1, hl2, hh2, _⟩ := offer_bounds ho hoo
      rw [e]
      exact (hh.take ⟨ge, hge, hge5⟩ hu1 hl1 (by omega)).road ht hi
    · cases hs
  · cases hs
    exact hh.up.road ht hi
theorem goneTo_none {l : List Offer} {fs : List Fair} {ch : List Int} {h : Hand} {n : Nat} (hn : goneTo l fs ch h n = none) : ∀ m, n ≤ m → goneTo l fs ch h m = none := by
  intro m hm
  induction m with
  | zero => obtain rfl : n = 0 := by omega
            exact hn
  | succ m ih =>
    rcases Nat.lt_or_ge n (m + 1) with h' | h'
    · simp only [goneTo, ih (by omega), Option.bind_none]
    · obtain rfl : n = m + 1 := by omega
      exact hn
theorem goneTo_ok {l : List Offer} {fs : List Fair} {ch : List Int} {h : Hand} (ho : offersOk l = true) (ht : tripOk fs = true) (hc : ∀ k ∈ ch, k < (l.length : Int)) (hh : HandOk 0 h) : ∀ {n : Nat}, n ≤ fs.length → ∀ {h' : Hand}, goneTo l fs ch h n = some h' → HandOk n h'
  | 0, _, h', e => by cases e; exact hh
  | n + 1, hn, h', e => by
    simp only [goneTo, Option.bind_eq_some_iff] at e
    obtain ⟨x, hx, hs⟩ := e
    refine (goneTo_ok ho ht hc hh (by omega) hx).step ho ht (by omega) ?_ hs
    cases hcn : ch[n]? with
    | none => simp [List.getD, hcn]; omega
    | some k => simp [List.getD, hcn]; exact hc k (List.mem_of_getElem? hcn)
end Go.Proofs.Ytkbhmajcddmhnaa

/- The best chain, by trying all lists in ascending order: plain words. -/
namespace Go.Proofs.Ytkbhmajcddmhnaa
open Go.RowKit
set_option linter.unusedVariables false

/-- the last m digits of w to the base b, each less 1 -/
def digits (b : Nat) : Nat → Nat → List Int
  | 0, _ => []
  | m + 1, w => digits b m (w / b) ++ [((w % b : Nat) : Int) - 1]
theorem digits_len (b : Nat) : ∀ (m w : Nat), (digits b m w).length = m
  | 0, _ => rfl
  | m + 1, w => by simp [digits, digits_len b m]
theorem digits_cons (b : Nat) : ∀ (m w : Nat), digits b (m + 1) w = (((w / b ^ m % b : Nat) : Int) - 1) :: digits b m w
  | 0, w => by simp [digits]
  | m + 1, w => by
    have h := digits_cons b m (w / b)
    rw [digits, h, List.cons_append, Nat.div_div_eq_div_mul, ← Nat.pow_succ']
    rfl
theorem digits_bd {b : Nat} (hb : 0 < b) : ∀ (m w : Nat), ∀ k ∈ digits b m w, -1 ≤ k ∧ k < (b : Int) - 1
  | 0, _, k, hk => by simp [digits] at hk
  | m + 1, w, k, hk => by
    simp only [digits, List.mem_append, List.mem_singleton] at hk
    rcases hk with hk | rfl
    · exact digits_bd hb m _ k hk
    · have := Nat.mod_lt w hb
      omega
/-- the list while it is filled from its end -/
def filling (b m t w : Nat) : List Int := List.replicate (m - t) 0 ++ digits b t w
theorem filling_len {b m t w : Nat} (h : t ≤ m) : (filling b m t w).length = m := by simp [filling, digits_len]; omega
theorem filling_zero (b m w : Nat) : filling b m 0 w = List.replicate m 0 := by simp [filling, digits]
theorem filling_all (b m w : Nat) : filling b m m w = digits b m w := by simp [filling]
theorem filling_step {b m t w : Nat} (h : t < m) : filling b m (t + 1) w = (filling b m t w).set (m - (t + 1)) (((w / b ^ t % b : Nat) : Int) - 1) := by
  unfold filling
  have e : m - t = (m - (t + 1)) + 1 := by omega
  rw [digits_cons, e, List.replicate_succ', List.append_assoc, List.set_append_right _ _ (by simp)]
  simp

/-- the chain found so far, and what it gains -/
abbrev Found := Option (List Int × Int)
def Found.most (b : Found) : Int := match b with | some x => x.2 | none => -1
def bestStep (l : List Offer) (fs : List Fair) (h0 : Hand) (want : Int) (acc : Found) (ch : List Int) : Found :=
  match goneOf l fs ch h0 with
  | some h => if h.good = want ∧ acc.most < h.units then some (ch, h.units) else acc
  | none => acc
def bestTo (l : List Offer) (fs : List Fair) (h0 : Hand) (want : Int) (k : Nat) : Found :=
  (List.range k).foldl (fun acc w => bestStep l fs h0 want acc (digits (l.length + 1) fs.length w)) none
theorem bestTo_succ (l : List Offer) (fs : List Fair) (h0 : Hand) (want : Int) (k : Nat) : bestTo l fs h0 want (k + 1) = bestStep l fs h0 want (bestTo l fs h0 want k) (digits (l.length + 1) fs.length k) := by
  simp [bestTo, List.range_succ]
structure Chosen where
  chain : List Int
  got : Int
  err : Int
def chosen (b : Found) : Chosen := match b with | some x => ⟨x.1, x.2, 0⟩ | none => ⟨[], 0, 6⟩
def argsOk (good units want : Int) : Bool := inB good 0 4 && inB want 0 4 && inB units 0 1000000
def bestOf (l : List Offer) (fs : List Fair) (good units want : Int) : Chosen :=
  if checkOf l fs ≠ 0 then ⟨[], 0, checkOf l fs⟩ else if argsOk good units want = false then ⟨[], 0, 2⟩ else chosen (bestTo l fs ⟨good, units⟩ want ((l.length + 1) ^ fs.length))
/-- what is found is a list of the right length, and gains something -/
def FoundOk (fs : List Fair) (b : Found) : Prop := match b with | some x => x.1.length = fs.length ∧ 0 ≤ x.2 | none => True
theorem bestStep_ok {l : List Offer} {fs : List Fair} {h0 : Hand} {want : Int} {acc : Found} {ch : List Int} (h : FoundOk fs acc) (hc : ch.length = fs.length) (hm : -1 ≤ acc.most) : FoundOk fs (bestStep l fs h0 want acc ch) ∧ -1 ≤ (bestStep l fs h0 want acc ch).most := by
  unfold bestStep
  split
  · split
    · rename_i hh
      simp only [FoundOk, Found.most]
      omega
    · exact ⟨h, hm⟩
  · exact ⟨h, hm⟩
theorem bestTo_ok (l : List Offer) (fs : List Fair) (h0 : Hand) (want : Int) (k : Nat) : FoundOk fs (bestTo l fs h0 want k) ∧ -1 ≤ (bestTo l fs h0 want k).most := by
  induction k with
  | zero => exact ⟨trivial, by simp [bestTo, Found.most]⟩
  | succ k ih =>
    rw [bestTo_succ]
    exact bestStep_ok ih.1 (digits_len _ _ _) ih.2
end Go.Proofs.Ytkbhmajcddmhnaa

/- Lists of offers that go round: plain words. -/
namespace Go.Proofs.Ytkbhmajcddmhnaa
open Go.RowKit
set_option linter.unusedVariables false

def openP (o : Offer) (p d : Int) : Bool := o.place == p && inB d o.from_ o.to
def nth (l : List Offer) (ls : List Int) (i : Nat) : Offer := offerAt l (ls.getD i 0)
def prodTo (f : Nat → Int) : Nat → Int
  | 0 => 1
  | n + 1 => prodTo f n * f n
def prevI (m i : Nat) : Nat := (i + m - 1) % m
def roundAt (l : List Offer) (p d : Int) (ls : List Int) (i : Nat) : Bool :=
  openP (nth l ls i) p d && (nth l ls i).give == (nth l ls (prevI ls.length i)).get && (List.range i).all fun k => (nth l ls k).give != (nth l ls i).give
def prodU (l : List Offer) (ls : List Int) (n : Nat) : Int := prodTo (fun i => (nth l ls i).units) n
def prodL (l : List Offer) (ls : List Int) (n : Nat) : Int := prodTo (fun i => (nth l ls i).lo) n
def roundsB (l : List Offer) (p d : Int) (ls : List Int) : Bool :=
  (List.range ls.length).all (roundAt l p d ls) && decide (prodU l ls ls.length < prodL l ls ls.length)
theorem prodTo_bd {f : Nat → Int} : ∀ {n : Nat}, (∀ i, i < n → 1 ≤ f i ∧ f i ≤ 50) → 1 ≤ prodTo f n ∧ prodTo f n ≤ 50 ^ n
  | 0, _ => by simp [prodTo]
  | n + 1, h => by
    obtain ⟨h1, h2⟩ := prodTo_bd (n := n) (fun i hi => h i (by omega))
    obtain ⟨h3, h4⟩ := h n (by omega)
    have m := Int.mul_le_mul h2 h4 (by omega) (by omega : (0 : Int) ≤ 50 ^ n)
    have m2 := Int.mul_le_mul h1 h3 (by omega) (by omega : (0 : Int) ≤ prodTo f n)
    simp only [prodTo, Int.pow_succ]
    omega
theorem rounds_stop {l : List Offer} {p d : Int} {ls : List Int} {i : Nat} (hi : i < ls.length) (h : roundAt l p d ls i = false) : roundsB l p d ls = false := by
  unfold roundsB
  rw [Bool.and_eq_false_iff]
  left
  rw [List.all_eq_false]
  exact ⟨i, by simpa using hi, by simp [h]⟩
theorem rounds_end {l : List Offer} {p d : Int} {ls : List Int} (h : ∀ i, i < ls.length → roundAt l p d ls i = true) : roundsB l p d ls = decide (prodU l ls ls.length < prodL l ls ls.length) := by
  unfold roundsB
  rw [List.all_eq_true.2 (fun i hi => h i (by simpa using hi)), Bool.true_and]
theorem nth_get {l : List Offer} {ls : List Int} (hb : ∀ k ∈ ls, 0 ≤ k ∧ k < (l.length : Int)) {i : Nat} (hi : i < ls.length) : ∃ j : Nat, ls[i]? = some (j : Int) ∧ j < l.length ∧ ∃ o, l[j]? = some o ∧ nth l ls i = o := by
  obtain ⟨k, hk⟩ : ∃ k, ls[i]? = some k := ⟨_, List.getElem?_eq_getElem hi⟩
  obtain ⟨h0, h1⟩ := hb k (List.mem_of_getElem? hk)
  obtain ⟨o, ho⟩ : ∃ o, l[k.toNat]? = some o := ⟨_, List.getElem?_eq_getElem (by omega)⟩
  refine ⟨k.toNat, ?_, by omega, o, ho, ?_⟩
  · rw [hk]; congr 1; omega
  · simp [nth, offerAt, List.getD, hk, ho]
end Go.Proofs.Ytkbhmajcddmhnaa

/- The first list of offers that goes round, the shortest first: plain words. -/
namespace Go.Proofs.Ytkbhmajcddmhnaa
open Go.RowKit
set_option linter.unusedVariables false

/-- the last m digits of w to the base b -/
def digs (b : Nat) : Nat → Nat → List Int
  | 0, _ => []
  | m + 1, w => digs b m (w / b) ++ [((w % b : Nat) : Int)]
theorem digs_len (b : Nat) : ∀ (m w : Nat), (digs b m w).length = m
  | 0, _ => rfl
  | m + 1, w => by simp [digs, digs_len b m]
theorem digs_cons (b : Nat) : ∀ (m w : Nat), digs b (m + 1) w = ((w / b ^ m % b : Nat) : Int) :: digs b m w
  | 0, w => by simp [digs]
  | m + 1, w => by
    have h := digs_cons b m (w / b)
    rw [digs, h, List.cons_append, Nat.div_div_eq_div_mul, ← Nat.pow_succ']
    rfl
theorem digs_bd {b : Nat} (hb : 0 < b) : ∀ (m w : Nat), ∀ k ∈ digs b m w, 0 ≤ k ∧ k < (b : Int)
  | 0, _, k, hk => by simp [digs] at hk
  | m + 1, w, k, hk => by
    simp only [digs, List.mem_append, List.mem_singleton] at hk
    rcases hk with hk | rfl
    · exact digs_bd hb m _ k hk
    · have := Nat.mod_lt w hb
      omega
def fill (b m t w : Nat) : List Int := List.replicate (m - t) 0 ++ digs b t w
theorem fill_len {b m t w : Nat} (h : t ≤ m) : (fill b m t w).length = m := by simp [fill, digs_len]; omega
theorem fill_zero (b m w : Nat) : fill b m 0 w = List.replicate m 0 := by simp [fill, digs]
theorem fill_all (b m w : Nat) : fill b m m w = digs b m w := by simp [fill]
theorem fill_step {b m t w : Nat} (h : t < m) : fill b m (t + 1) w = (fill b m t w).set (m - (t + 1)) ((w / b ^ t % b : Nat) : Int) := by
  unfold fill
  have e : m - t = (m - (t + 1)) + 1 := by omega
  rw [digs_cons, e, List.replicate_succ', List.append_assoc, List.set_append_right _ _ (by simp)]
  simp

/-- all lists of n indices, in ascending order -/
def cands (b n : Nat) : List (List Int) := (List.range (b ^ n)).map (digs b n)
def roundFind (l : List Offer) (p d : Int) : Option (List Int) := ((List.range 5).flatMap fun i => cands l.length (i + 1)).find? (roundsB l p d)
structure Went where
  list : List Int
  err : Int
def wentOf (l : List Offer) (p d : Int) : Went :=
  if offersOk l = false then ⟨[], 60⟩ else if (inB p 0 9999 && inB d 0 100000) = false then ⟨[], 2⟩ else
  match roundFind l p d with | some ls => ⟨ls, 0⟩ | none => ⟨[], 6⟩
theorem cands_none {l : List Offer} {p d : Int} {b n : Nat} : (∀ w, w < b ^ n → roundsB l p d (digs b n w) = false) → ∀ c ∈ cands b n, roundsB l p d c = false := by
  intro h c hc
  obtain ⟨w, hw, rfl⟩ := List.mem_map.1 hc
  exact h w (by simpa using hw)
theorem find_none {l : List Offer} {p d : Int} (h : ∀ i, i < 5 → ∀ c ∈ cands l.length (i + 1), roundsB l p d c = false) : roundFind l p d = none := by
  unfold roundFind
  rw [List.find?_eq_none]
  intro c hc
  obtain ⟨i, hi, hc⟩ := List.mem_flatMap.1 hc
  simp [h i (by simpa using hi) c hc]
theorem find_split {α : Type} {p : α → Bool} : ∀ {a b : List α} {x : α}, (∀ y ∈ a, p y = false) → p x = true → (a ++ x :: b).find? p = some x
  | [], b, x, _, hx => by simp [hx]
  | y :: a, b, x, h, hx => by
    rw [List.cons_append, List.find?_cons, h y (List.mem_cons_self ..)]
    exact find_split (fun z hz => h z (List.mem_cons_of_mem _ hz)) hx
theorem range_split {n k : Nat} (h : k < n) : List.range n = List.range k ++ k :: (List.range (n - k - 1)).map (fun i => k + 1 + i) := by
  have e : n = k + (1 + (n - k - 1)) := by omega
  conv => lhs; rw [e]
  rw [List.range_add, List.range_add]
  simp [Nat.add_assoc]
theorem find_some {l : List Offer} {p d : Int} {k w : Nat} (hk : k < 5) (h : ∀ i, i < k → ∀ c ∈ cands l.length (i + 1), roundsB l p d c = false) (hw : w < l.length ^ (k + 1)) (h2 : ∀ v, v < w → roundsB l p d (digs l.length (k + 1) v) = false)
    (hx : roundsB l p d (digs l.length (k + 1) w) = true) : roundFind l p d = some (digs l.length (k + 1) w) := by
  unfold roundFind
  rw [range_split hk, List.flatMap_append, List.flatMap_cons]
  rw [show cands l.length (k + 1) = (List.range w).map (digs l.length (k + 1)) ++ digs l.length (k + 1) w :: ((List.range (l.length ^ (k + 1) - w - 1)).map (fun i => w + 1 + i)).map (digs l.length (k + 1)) by
    unfold cands; rw [range_split hw, List.map_append, List.map_cons]]
  rw [List.append_assoc, ← List.append_assoc, List.cons_append]
  refine find_split (fun y hy => ?_) hx
  rcases List.mem_append.1 hy with hy | hy
  · obtain ⟨i, hi, hc⟩ := List.mem_flatMap.1 hy
    exact h i (by simpa using hi) y hc
  · obtain ⟨v, hv, rfl⟩ := List.mem_map.1 hy
    exact h2 v (by simpa using hv)
end Go.Proofs.Ytkbhmajcddmhnaa

/- Rounds found step by step: plain words. -/
namespace Go.Proofs.Ytkbhmajcddmhnaa
open Go.RowKit
set_option linter.unusedVariables false

def listProd : List Int → Int
  | [] => 1
  | x :: l => x * listProd l
def giveOf (l : List Offer) (k : Int) : Int := (offerAt l k).give
def getOf (l : List Offer) (k : Int) : Int := (offerAt l k).get
def unitsOf (l : List Offer) (k : Int) : Int := (offerAt l k).units
def loOf (l : List Offer) (k : Int) : Int := (offerAt l k).lo
def gives (l : List Offer) (ls : List Int) : List Int := ls.map (giveOf l)
/-- may k not come next? -/
def skipB (l : List Offer) (ls : List Int) (k : Int) : Bool := decide (giveOf l k ∈ gives l ls) || (decide (0 < ls.length) && getOf l (ls.getD (ls.length - 1) 0) != giveOf l k)
def closeB (l : List Offer) (ls : List Int) : Bool :=
  giveOf l (ls.getD 0 0) == getOf l (ls.getD (ls.length - 1) 0) && decide (listProd (ls.map (unitsOf l)) < listProd (ls.map (loOf l)))
def dfs (l : List Offer) (stall : List Int) : Nat → List Int → Option (List Int)
  | 0, ls => if closeB l ls = true then some ls else none
  | n + 1, ls => stall.findSome? fun k => if skipB l ls k = true then none else dfs l stall n (ls ++ [k])
theorem findSome_snoc {α β : Type} (f : α → Option β) (l : List α) (x : α) (h : l.findSome? f = none) : (l ++ [x]).findSome? f = f x := by
  rw [List.findSome?_append, h]
  simp
theorem findSome_take {α β : Type} {f : α → Option β} {l : List α} {k : Nat} {x : α} {y : β} (h : (l.take k).findSome? f = none) (hx : l[k]? = some x) (hy : f x = some y) : l.findSome? f = some y := by
  have hk := (List.getElem?_eq_some_iff.1 hx).1
  have e : l = l.take k ++ (x :: l.drop (k + 1)) := by
    have h2 := (List.getElem?_eq_some_iff.1 hx).2
    rw [← h2, ← List.drop_eq_getElem_cons hk, List.take_append_drop]
  rw [e, List.findSome?_append, h]
  simp [hy]
theorem take_none {α β : Type} {f : α → Option β} {l : List α} {k : Nat} {x : α} (h : (l.take k).findSome? f = none) (hx : l[k]? = some x) (hy : f x = none) : (l.take (k + 1)).findSome? f = none := by
  rw [List.take_add_one, hx]
  exact (findSome_snoc f _ x h).trans hy
theorem listProd_append (a b : List Int) : listProd (a ++ b) = listProd a * listProd b := by
  induction a with
  | nil => simp [listProd]
  | cons x a ih => simp [listProd, ih, Int.mul_assoc]
theorem listProd_bd : ∀ {l : List Int}, (∀ x ∈ l, 1 ≤ x ∧ x ≤ 50) → 1 ≤ listProd l ∧ listProd l ≤ 50 ^ l.length
  | [], _ => by simp [listProd]
  | x :: l, h => by
    obtain ⟨h1, h2⟩ := listProd_bd (l := l) (fun y hy => h y (List.mem_cons_of_mem _ hy))
    obtain ⟨h3, h4⟩ := h x (List.mem_cons_self ..)
    have m := Int.mul_le_mul h4 h2 (by omega) (by omega : (0 : Int) ≤ 50)
    have m2 := Int.mul_le_mul h3 h1 (by omega) (by omega : (0 : Int) ≤ x)
    simp only [listProd, List.length_cons, Int.pow_succ]
    rw [Int.mul_comm (50 ^ l.length) 50]
    omega
end Go.Proofs.Ytkbhmajcddmhnaa
