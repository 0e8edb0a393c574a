/- A run with what is known better: plain words. -/
import Derived.Test.YtkbhmajcddmhnaaVMoreLaw
import Derived.Test.YtkbhmajcddmhnaaVDoneLaw
namespace Go.Proofs.Ytkbhmajcddmhnaa
open Go.RowKit
set_option linter.unusedVariables false
set_option linter.unusedSimpArgs false
set_option linter.unusedSectionVars false

/-! ### losses in order -/
def LossLt (x y : Loss) : Prop := x.road < y.road ∨ x.road = y.road ∧ x.good < y.good
theorem mem_roadLosses {r : Int} {held ks : List Span} {z : Loss} : ∀ {n : Nat}, z ∈ roadLosses r held ks n ↔ ∃ g, g < n ∧ 0 < (roadLost (held.getD g z0) (ks.getD g z0)).hi ∧ z = ⟨r, g, (roadLost (held.getD g z0) (ks.getD g z0)).lo, (roadLost (held.getD g z0) (ks.getD g z0)).hi⟩
  | 0 => by simp [roadLosses]
  | n + 1 => by
    simp only [roadLosses, List.mem_append, mem_roadLosses (n := n), roadLoss]
    constructor
    · rintro (⟨g, h1, h2, h3⟩ | h)
      · exact ⟨g, by omega, h2, h3⟩
      · split at h
        · rename_i hp
          exact ⟨n, by omega, hp, by simpa using h⟩
        · cases h
    · rintro ⟨g, h1, h2, h3⟩
      by_cases e : g = n
      · subst e
        right
        rw [if_pos h2]
        simp [h3]
      · exact .inl ⟨g, by omega, h2, h3⟩
theorem roadLosses_sorted (r : Int) (held ks : List Span) : ∀ n, (roadLosses r held ks n).Pairwise LossLt
  | 0 => .nil
  | n + 1 => by
    simp only [roadLosses]
    rw [List.pairwise_append]
    refine ⟨roadLosses_sorted r held ks n, ?_, fun x hx y hy => ?_⟩
    · unfold roadLoss
      split
      · simp
      · exact .nil
    · obtain ⟨g, h1, _, rfl⟩ := mem_roadLosses.1 hx
      have : y ∈ roadLosses r held ks (n + 1) → y.road = r := fun h => by obtain ⟨_, _, _, rfl⟩ := mem_roadLosses.1 h; rfl
      unfold roadLoss at hy
      split at hy
      · simp at hy
        rw [hy]
        exact .inr ⟨rfl, by simp only; omega⟩
      · cases hy
/-- a state's losses are in order, each on a road that has been gone, of a good -/
def LossOk (s : RS) : Prop := s.losses.Pairwise LossLt ∧ ∀ x ∈ s.losses, 0 ≤ x.road ∧ x.road < s.now ∧ 0 ≤ x.good ∧ x.good < 5 ∧ 0 < x.hi
theorem LossOk.step {fs : List Fair} {s : RS} (h : LossOk s) : LossOk (s.step fs) := by
  refine ⟨?_, fun x hx => ?_⟩
  · simp only [RS.step]
    rw [List.pairwise_append]
    refine ⟨h.1, roadLosses_sorted _ _ _ _, fun x hx y hy => ?_⟩
    obtain ⟨g, h1, _, rfl⟩ := mem_roadLosses.1 hy
    exact .inl (h.2 x hx).2.1
  · simp only [RS.step, List.mem_append] at hx ⊢
    rcases hx with hx | hx
    · have := h.2 x hx
      omega
    · obtain ⟨g, h1, h2, rfl⟩ := mem_roadLosses.1 hx
      simp only
      omega
theorem LossOk.go {fs : List Fair} {s : RS} (h : LossOk s) : ∀ n, LossOk (s.go fs n)
  | 0 => h
  | n + 1 => (LossOk.go h n).step
theorem LossOk.to {fs : List Fair} {s : RS} (h : LossOk s) (t : Nat) : LossOk (s.to fs t) := h.go _
theorem LossOk.start (xs : List Int) : LossOk (startOf xs) := ⟨.nil, fun x hx => by simp [startOf] at hx⟩
theorem step_inr {l : List Offer} {fs : List Fair} {s s' : RS} {b : Barter} (h : stepOf l fs s b = .inr s') : barterBad l fs s.now b = false ∧ barterErr (s.to fs b.fair.toNat).held (offerAt l b.offer) b.times = 0 ∧
    s' = ⟨barterHeld (s.to fs b.fair.toNat).held (offerAt l b.offer) b.times, (s.to fs b.fair.toNat).losses, (s.to fs b.fair.toNat).now⟩ := by
  unfold stepOf at h
  split at h
  · cases h
  · rename_i h1
    split at h
    · cases h
    · rename_i h2
      cases h
      refine ⟨by simpa using h1, by simpa using h2, rfl⟩
theorem LossOk.run {l : List Offer} {fs : List Fair} {xs : List Int} {bs : List Barter} : ∀ {n : Nat} {s : RS}, runTo l fs xs bs n = .inr s → LossOk s
  | 0, s, h => by cases h; exact LossOk.start xs
  | n + 1, s, h => by
    simp only [runTo] at h
    cases hr : runTo l fs xs bs n with
    | inl e => rw [hr] at h; cases h
    | inr s0 =>
      rw [hr] at h
      cases hs : stepOf l fs s0 (bs.getD n ⟨0, 0, 0⟩) with
      | inl e => simp only [hs] at h; cases h
      | inr s1 =>
        simp only [hs] at h
        cases h
        obtain ⟨_, _, rfl⟩ := step_inr hs
        have := (LossOk.run hr).to (fs := fs) (bs.getD n ⟨0, 0, 0⟩).fair.toNat
        exact ⟨this.1, this.2⟩

/-! ### what is known better -/
def HIn (h h' : List Span) : Prop := h'.length = h.length ∧ ∀ g, (h.getD g z0).lo ≤ (h'.getD g z0).lo ∧ (h'.getD g z0).hi ≤ (h.getD g z0).hi
def LIn (x y : List Loss) : Prop := ∀ z ∈ y, ∃ q ∈ x, q.road = z.road ∧ q.good = z.good ∧ q.lo ≤ z.lo ∧ z.hi ≤ q.hi
theorem HIn.refl (h : List Span) : HIn h h := ⟨rfl, fun g => ⟨Int.le_refl _, Int.le_refl _⟩⟩
theorem LIn.nil : LIn [] [] := fun z hz => by cases hz
theorem held_get {h : List Span} (hh : HeldOk h) (g : Nat) : 0 ≤ (h.getD g z0).lo ∧ (h.getD g z0).lo ≤ (h.getD g z0).hi ∧ (h.getD g z0).hi ≤ 1000000000000000 := by
  cases hg : h[g]? with
  | none => simp [List.getD, hg, z0]
  | some s => simpa [List.getD, hg] using hh.2 g s hg
theorem keep_get' {h : List Span} (hh : KeepsOk h) (g : Nat) : 0 ≤ (h.getD g z0).lo ∧ (h.getD g z0).lo ≤ (h.getD g z0).hi ∧ (h.getD g z0).hi ≤ 1000 := by
  cases hg : h[g]? with
  | none => simp [List.getD, hg, z0]
  | some s => simpa [List.getD, hg] using hh.2 g s hg
theorem roadTo_getD {held : List Span} (ks : List Span) (h5 : held.length = 5) (g : Nat) : (roadTo held ks 5).getD g z0 = if g < 5 then roadSpan (held.getD g z0) (ks.getD g z0) else z0 := by
  split
  · rename_i h
    simp only [List.getD, roadTo_done held ks 5 g h (by omega), Option.getD_some]
  · rename_i h
    rw [List.getD, List.getElem?_eq_none (by rw [roadTo_len]; omega)]
    rfl
/-- what is lost does not shrink with what there is -/
theorem lost_mono {a b k m : Int} (h1 : a ≤ b) (k0 : 0 ≤ k) (k1 : k ≤ m) (k2 : m ≤ 1000) (a0 : 0 ≤ a) : a - lf a m ≤ b - lf b k := by
  have e1 := lf_mono a0 (Int.le_refl a) k0 k1
  have e2 : lf b k ≤ lf a k + (b - a) := by
    unfold lf
    have : b * k ≤ a * k + (b - a) * 1000 := by
      have := Int.mul_le_mul_of_nonneg_left (show k ≤ 1000 by omega) (show 0 ≤ b - a by omega)
      have e : b * k = a * k + (b - a) * k := by rw [← Int.add_mul]; congr 1; omega
      omega
    omega
  omega
theorem HIn.road {h h' ks ks' : List Span} (e : HIn h h') (hh : HeldOk h) (hh' : HeldOk h') (k : KeepsOk ks) (k' : KeepsOk ks') (ek : HIn ks ks') : HIn (roadTo h ks 5) (roadTo h' ks' 5) := by
  refine ⟨by rw [roadTo_len, roadTo_len]; exact e.1, fun g => ?_⟩
  rw [roadTo_getD ks hh.1 g, roadTo_getD ks' hh'.1 g]
  split
  · obtain ⟨a1, a2⟩ := e.2 g
    obtain ⟨b1, b2⟩ := ek.2 g
    obtain ⟨c1, c2, c3⟩ := held_get hh g
    obtain ⟨d1, d2, d3⟩ := keep_get' k g
    obtain ⟨c1', c2', c3'⟩ := held_get hh' g
    obtain ⟨d1', d2', d3'⟩ := keep_get' k' g
    exact ⟨lf_mono c1 a1 d1 b1, lf_mono (by omega) a2 (by omega) b2⟩
  · exact ⟨Int.le_refl _, Int.le_refl _⟩
theorem LIn.road {h h' ks ks' : List Span} {r : Int} (e : HIn h h') (hh : HeldOk h) (hh' : HeldOk h') (k : KeepsOk ks) (k' : KeepsOk ks') (ek : HIn ks ks') : LIn (roadLosses r h ks 5) (roadLosses r h' ks' 5) := by
  intro z hz
  obtain ⟨g, hg, hp, rfl⟩ := mem_roadLosses.1 hz
  obtain ⟨a1, a2⟩ := e.2 g
  obtain ⟨b1, b2⟩ := ek.2 g
  obtain ⟨c1, c2, c3⟩ := held_get hh g
  obtain ⟨d1, d2, d3⟩ := keep_get' k g
  obtain ⟨c1', c2', c3'⟩ := held_get hh' g
  obtain ⟨d1', d2', d3'⟩ := keep_get' k' g
  have m1 := lost_mono a1 (k := (ks'.getD g z0).hi) (m := (ks.getD g z0).hi) (by omega) b2 d3 c1
  have m2 := lost_mono a2 (k := (ks.getD g z0).lo) (m := (ks'.getD g z0).lo) d1 b1 (by omega) (by omega)
  simp only [roadLost] at hp ⊢
  exact ⟨_, mem_roadLosses.2 ⟨g, hg, by simp only [roadLost]; omega, rfl⟩, rfl, rfl, m1, m2⟩
theorem LIn.append {a b c d : List Loss} (h : LIn a b) (k : LIn c d) : LIn (a ++ c) (b ++ d) := by
  intro z hz
  rcases List.mem_append.1 hz with hz | hz
  · obtain ⟨q, h1, h2⟩ := h z hz
    exact ⟨q, List.mem_append.2 (.inl h1), h2⟩
  · obtain ⟨q, h1, h2⟩ := k z hz
    exact ⟨q, List.mem_append.2 (.inr h1), h2⟩
theorem getD_set2 {h : List Span} {i j : Nat} {a b : Span} (hi : i < h.length) (hj : j < h.length) (hne : i ≠ j) (g : Nat) : ((h.set i a).set j b).getD g z0 = if g = j then b else if g = i then a else h.getD g z0 := by
  simp only [List.getD]
  by_cases e1 : g = j
  · subst e1
    rw [List.getElem?_set_self (by simpa using hj), if_pos rfl]
    rfl
  · rw [List.getElem?_set_ne (fun e => e1 e.symm), if_neg e1]
    by_cases e2 : g = i
    · subst e2
      rw [List.getElem?_set_self hi, if_pos rfl]
      rfl
    · rw [List.getElem?_set_ne (fun e => e2 e.symm), if_neg e2]
section
variable {l m : List Offer} {fs fm : List Fair} (ho : offersOk l = true) (ht : tripOk fs = true) (no : NarO l m) (nt : NarT fs fm)
include ho ht no nt
theorem keeps_in {i : Nat} : HIn (keepsOf fs i) (keepsOf fm i) := by
  refine ⟨?_, fun g => by have := nt.keep ht i g; exact ⟨this.2.1, this.2.2.1⟩⟩
  cases hf : fs[i]? with
  | none =>
    have hm : fm[i]? = none := by rw [List.getElem?_eq_none_iff] at hf ⊢; rw [nt.1]; exact hf
    simp [keepsOf, List.getD, hf, hm]
  | some f =>
    obtain ⟨ks, hk, hm⟩ := nt.2 i f hf
    simp [keepsOf, List.getD, hf, hm, hk.1]
/-- two states, the second known better -/
structure StIn (fs fm : List Fair) (s t : RS) : Prop where
  now : t.now = s.now
  held : HIn s.held t.held
  loss : LIn s.losses t.losses
  ok : s.Ok fs
  ok' : t.Ok fm
theorem StIn.step {s t : RS} (h : StIn fs fm s t) (hn : s.now + 1 < fs.length) : StIn fs fm (s.step fs) (t.step fm) := by
  have k := keeps_ok ht (show s.now < fs.length by omega)
  have k' := keeps_ok (nt.ok ht) (show s.now < fm.length by rw [nt.1]; omega)
  have ek := keeps_in ho ht no nt (i := s.now)
  refine ⟨by simp only [RS.step, h.now], ?_, ?_, h.ok.step ht hn, h.ok'.step (nt.ok ht) (by rw [nt.1, h.now]; exact hn)⟩
  · simp only [RS.step, h.now]
    exact h.held.road h.ok.1 h.ok'.1 k k' ek
  · simp only [RS.step, h.now]
    exact h.loss.append (LIn.road h.held h.ok.1 h.ok'.1 k k' ek)
theorem StIn.go {s t : RS} (h : StIn fs fm s t) : ∀ n, s.now + n + 1 ≤ fs.length → StIn fs fm (s.go fs n) (t.go fm n)
  | 0, _ => h
  | n + 1, hn => StIn.step ho ht no nt (StIn.go h n (by omega)) (by rw [RS.go_now]; omega)
theorem StIn.to {s t : RS} (h : StIn fs fm s t) {i : Nat} (h1 : s.now ≤ i) (h2 : i + 1 ≤ fs.length) : StIn fs fm (s.to fs i) (t.to fm i) := by
  unfold RS.to
  rw [h.now]
  exact StIn.go ho ht no nt h _ (by omega)
theorem bad_same (n : Nat) (b : Barter) : barterBad m fm n b = barterBad l fs n b := by
  have hop : ∀ k : Int, offerOpen m (fm.getD b.fair.toNat ⟨0, 0, []⟩) k = offerOpen l (fs.getD b.fair.toNat ⟨0, 0, []⟩) k := fun k => by
    obtain ⟨f1, f2⟩ := nt.fairAt b.fair.toNat
    unfold Go.Proofs.Ytkbhmajcddmhnaa.fairAt at f1 f2
    unfold offerOpen
    cases hl : l[k.toNat]? with
    | none =>
      have hm : m[k.toNat]? = none := by rw [List.getElem?_eq_none_iff] at hl ⊢; rw [no.1]; exact hl
      rw [hm]
    | some o =>
      obtain ⟨t, _, hm⟩ := no.2 _ o hl
      rw [hm]
      simp only [openB, Offer.for_, f1, f2]
  unfold barterBad
  rw [hop, nt.1]
theorem StIn.barter {s t : RS} (h : StIn fs fm s t) {b : Barter} {s' : RS} (hs : stepOf l fs s b = .inr s') : ∃ t', stepOf m fm t b = .inr t' ∧ StIn fs fm s' t' := by
  obtain ⟨h1, h2, rfl⟩ := step_inr hs
  have htl := trip_len ht
  obtain ⟨f, j, x, o, hf, hnf, hfl, hfx, hj, hoj, hop, ht1, ht2⟩ := bad_false (by omega) h1
  have hto := StIn.to ho ht no nt h (i := b.fair.toNat) (by omega) (by omega)
  have hbad : barterBad m fm t.now b = false := by rw [h.now, bad_same ho ht no nt]; exact h1
  obtain ⟨a1, a2, a3, _, _, _, a7, a8, a9, a10, a11⟩ := no.offerAt ho b.offer
  have hoat : offerAt l b.offer = o := by simp [offerAt, List.getD, hj, hoj]
  obtain ⟨gi, ge, hgi, hge, hgi5, hge5, hgne, hu1, hu2, hlo1, hlo2, hhi, _⟩ := offer_bounds ho hoj
  have hval : o.valid = true := by
    simp only [offersOk, Bool.and_eq_true] at ho
    exact List.all_eq_true.1 ho.2 _ (List.mem_of_getElem? hoj)
  have hval' : (offerAt m b.offer).valid = true := by
    obtain ⟨u, hu, hm⟩ := no.2 j o hoj
    have : offerAt m b.offer = o.for_ u := by simp [offerAt, List.getD, hj, hm]
    rw [this]
    exact valid_for hval hu
  rw [hoat] at a1 a2 a3 a7 a8 a9 a10 h2
  have m1 := Int.mul_le_mul_of_nonneg_left a9 (show 0 ≤ b.times by omega)
  have m2 := Int.mul_le_mul_of_nonneg_left a10 (show 0 ≤ b.times by omega)
  have hgi' : o.give.toNat = gi := by omega
  have hge' : o.get.toNat = ge := by omega
  have e1 := hto.held.2 gi
  have e2 := hto.held.2 ge
  have herr : barterErr (t.to fm b.fair.toNat).held (offerAt m b.offer) b.times = 0 := by
    unfold barterErr at h2 ⊢
    rw [a1, a2, a3]
    rw [hgi', hge'] at h2 ⊢
    split at h2
    · cases h2
    · split at h2
      · cases h2
      · rw [if_neg (by omega), if_neg (by omega)]
  refine ⟨_, by unfold stepOf; rw [hbad]; simp only [Bool.false_eq_true, if_false]; rw [if_neg (by simp [herr])], ?_⟩
  refine ⟨hto.now, ?_, hto.loss, ?_, ?_⟩
  · rw [hoat]
    have hl1 := hto.ok.1.1
    have hl2 := hto.ok'.1.1
    refine ⟨by simp only [barterHeld, List.length_set]; exact hto.held.1, fun g => ?_⟩
    simp only [barterHeld, a1, a2, a3, hgi', hge']
    rw [getD_set2 (by omega) (by omega) hgne, getD_set2 (by omega) (by omega) hgne]
    split
    · simp only; omega
    · split
      · simp only; omega
      · exact hto.held.2 g
  · rw [hoat]
    exact RS.Ok.barter (l := l) hto.ok hval ht1 h2
  · exact RS.Ok.barter (l := m) hto.ok' hval' ht1 herr
theorem StIn.run {xs : List Int} {bs : List Barter} (hx : stocksOk xs = true) : ∀ {n : Nat} {s : RS}, runTo l fs xs bs n = .inr s → ∃ t, runTo m fm xs bs n = .inr t ∧ StIn fs fm s t
  | 0, s, h => by
    cases h
    exact ⟨_, rfl, rfl, HIn.refl _, LIn.nil, start_ok ht hx, start_ok (nt.ok ht) hx⟩
  | n + 1, s, h => by
    simp only [runTo] at h
    cases hr : runTo l fs xs bs n with
    | inl e => rw [hr] at h; cases h
    | inr s0 =>
      rw [hr] at h
      cases hs : stepOf l fs s0 (bs.getD n ⟨0, 0, 0⟩) with
      | inl e => simp only [hs] at h; cases h
      | inr s1 =>
        simp only [hs] at h
        cases h
        obtain ⟨t0, ht0, hin⟩ := StIn.run hx hr
        obtain ⟨t1, ht1, hin1⟩ := StIn.barter ho ht no nt hin hs
        exact ⟨t1, by simp only [runTo, ht0, ht1], hin1⟩
end
theorem runOf_done {l : List Offer} {fs : List Fair} {xs : List Int} {bs : List Barter} (hc : checkOf l fs = 0) (hx : stocksOk xs = true) (hb : bs.length ≤ 60) (he : (runOf l fs xs bs).err = 0) : ∃ s, runTo l fs xs bs bs.length = .inr s ∧ s.Ok fs ∧ runOf l fs xs bs = ⟨(s.to fs (fs.length - 1)).held, (s.to fs (fs.length - 1)).losses, 0, 0⟩ := by
  obtain ⟨ho, ht⟩ := checkOf_zero hc
  cases hr : runTo l fs xs bs bs.length with
  | inl e =>
    exfalso
    rw [runOf_inl hc hx hb hr] at he
    have : ∀ n, ∀ e : Nat × Int, runTo l fs xs bs n = .inl e → e.2 ≠ 0 := by
      intro n
      induction n with
      | zero => intro e h; cases h
      | succ n ih =>
        intro e h
        simp only [runTo] at h
        cases hr : runTo l fs xs bs n with
        | inl e' => rw [hr] at h; cases h; exact ih _ hr
        | inr s =>
          rw [hr] at h
          cases hs : stepOf l fs s (bs.getD n ⟨0, 0, 0⟩) with
          | inr s' => simp only [hs] at h; cases h
          | inl e' =>
            simp only [hs] at h
            cases h
            unfold stepOf at hs
            split at hs
            · cases hs; simp
            · split at hs
              · rename_i hne
                cases hs
                exact hne
              · cases hs
    exact this _ _ hr he
  | inr s =>
    obtain ⟨t, h1, h2⟩ := StIn.run ho ht (NarO.refl ho) (NarT.refl ht) hx hr
    exact ⟨s, rfl, h2.ok, runOf_inr hc hx hb hr⟩
/-- **with what is known better nothing is told wider** -/
theorem run_in {l m : List Offer} {fs fm : List Fair} (hc : checkOf l fs = 0) (no : NarO l m) (nt : NarT fs fm) {xs : List Int} {bs : List Barter} (hx : stocksOk xs = true) (hb : bs.length ≤ 60) {h : List Span} {x : List Loss} {q : Int} (he : runOf l fs xs bs = ⟨h, x, q, 0⟩) :
    ∃ h' y, runOf m fm xs bs = ⟨h', y, 0, 0⟩ ∧ h.length = 5 ∧ h'.length = 5 ∧ HIn h h' ∧ LIn x y ∧ x.Pairwise LossLt := by
  obtain ⟨ho, ht⟩ := checkOf_zero hc
  obtain ⟨s, h1, h2, h3⟩ := runOf_done hc hx hb (by rw [he])
  rw [he] at h3
  cases h3
  obtain ⟨t, t1, t2⟩ := StIn.run ho ht no nt hx h1
  have hc' : checkOf m fm = 0 := by unfold checkOf; rw [no.ok ho, nt.ok ht]; rfl
  have htl := trip_len ht
  have hto := StIn.to ho ht no nt t2 (i := fs.length - 1) (by have := h2.2.1; omega) (by omega)
  refine ⟨_, _, runOf_inr hc' hx hb t1, ?_⟩
  rw [nt.1]
  exact ⟨hto.ok.1.1, hto.ok'.1.1, hto.held, hto.loss, ((LossOk.run h1).to _).1⟩
/-- what a map names, when losses are put in, one after the other -/
def named (l : List Loss) (p : Int) (q : Int) : Option Loss := l.reverse.find? fun x => decide (x.road = p ∧ x.good = q)
theorem named_snoc (l : List Loss) (x : Loss) (p q : Int) : named (l ++ [x]) p q = if p = x.road ∧ q = x.good then some x else named l p q := by
  unfold named
  rw [List.reverse_append, List.reverse_singleton, List.singleton_append, List.find?_cons]
  by_cases h : x.road = p ∧ x.good = q
  · rw [if_pos ⟨h.1.symm, h.2.symm⟩]
    simp [h]
  · rw [if_neg (fun e => h ⟨e.1.symm, e.2.symm⟩)]
    simp only [h, decide_false]
theorem LossLt.ne {x y : Loss} (h : LossLt x y) : ¬(x.road = y.road ∧ x.good = y.good) := by rcases h with h | ⟨h1, h2⟩ <;> omega
theorem named_of {l : List Loss} (h : l.Pairwise LossLt) {x : Loss} (hx : x ∈ l) : named l x.road x.good = some x := by
  unfold named
  cases hf : l.reverse.find? fun y => decide (y.road = x.road ∧ y.good = x.good) with
  | none =>
    have := List.find?_eq_none.1 hf x (by simpa using hx)
    simp at this
  | some y =>
    have h1 := List.find?_some hf
    have h2 : y ∈ l := by simpa using List.mem_of_find?_eq_some hf
    simp only [decide_eq_true_eq] at h1
    obtain ⟨i, hi, rfl⟩ := List.getElem_of_mem hx
    obtain ⟨j, hj, rfl⟩ := List.getElem_of_mem h2
    rw [List.pairwise_iff_getElem] at h
    rcases Nat.lt_trichotomy i j with hh | hh | hh
    · exact absurd ⟨h1.1.symm, h1.2.symm⟩ (h i j hi hj hh).ne
    · subst hh; rfl
    · exact absurd h1 (h j i hj hi hh).ne
end Go.Proofs.Ytkbhmajcddmhnaa
