/- Worth by prices never rises: plain words. -/
import Derived.Test.YtkbhmajcddmhnaaVGr14
import Derived.Test.YtkbhmajcddmhnaaVRefBound
import Derived.Test.YtkbhmajcddmhnaaVBestLaw
import Derived.Test.YtkbhmajcddmhnaaVTruM
import Derived.Test.YtkbhmajcddmhnaaVFar
import Derived.Test.YtkbhmajcddmhnaaVNarTail
import Derived.Test.YtkbhmajcddmhnaaVGr9
import Derived.Test.YtkbhmajcddmhnaaVGoes
import Derived.Test.YtkbhmajcddmhnaaVGr10
import Derived.OpenShut
import Derived.ShutString
import Derived.ChangeOld
import Derived.Below
namespace Go.Proofs.Ytkbhmajcddmhnaa
open Go.RowKit
set_option linter.unusedVariables false
set_option linter.unusedSimpArgs false

/-- what the first n goods are worth at fair i -/
def wAt (ps : List (List Int)) (i : Nat) (held : List Int) : Nat → Int
  | 0 => 0
  | k + 1 => wAt ps i held k + held.getD k 0 * pr ps i k
theorem worth_wAt (xs : List Int) (ps : List (List Int)) : ∀ n, worthTo xs ps n = wAt ps 0 xs n
  | 0 => rfl
  | n + 1 => by simp only [worthTo, wAt, worth_wAt xs ps n]
theorem pr_bd {l : List Offer} {fs : List Fair} {ps : List (List Int)} (hp : Priced l fs ps) (i : Nat) (g : Int) : 0 ≤ pr ps i g ∧ pr ps i g ≤ 1000000 := by
  unfold pr
  cases hr : ps[i]? with
  | none => simp [List.getD, hr]
  | some r =>
    have h := hp.2.1 i r hr
    simp only [rowOk, Bool.and_eq_true, decide_eq_true_eq] at h
    simp only [List.getD, hr, Option.getD_some]
    cases hx : r[g.toNat]? with
    | none => simp
    | some x =>
      have := List.all_eq_true.1 h.2 x (List.mem_of_getElem? hx)
      simp only [inB, Bool.and_eq_true, decide_eq_true_eq] at this
      simpa using this
theorem wAt_mono {ps : List (List Int)} {i j : Nat} {a b : List Int} : ∀ {n : Nat}, (∀ g, g < n → a.getD g 0 * pr ps i g ≤ b.getD g 0 * pr ps j g) → wAt ps i a n ≤ wAt ps j b n
  | 0, _ => Int.le_refl _
  | n + 1, h => by
    have := wAt_mono (n := n) (fun g hg => h g (by omega))
    have := h n (by omega)
    simp only [wAt]
    omega
theorem wAt_set {ps : List (List Int)} {i g : Nat} {a : List Int} {x : Int} (hg : g < a.length) : ∀ n, wAt ps i (a.set g x) n = wAt ps i a n + (if g < n then (x - a.getD g 0) * pr ps i g else 0)
  | 0 => by simp [wAt]
  | n + 1 => by
    have ih := wAt_set (ps := ps) (i := i) (x := x) hg n
    simp only [wAt, ih, getD_set a g x hg]
    by_cases e : n = g
    · subst e
      rw [if_neg (by omega), if_pos rfl, if_pos (by omega), Int.sub_mul]
      omega
    · rw [if_neg e]
      by_cases h : g < n
      · rw [if_pos h, if_pos (by omega)]
        omega
      · rw [if_neg h, if_neg (by omega)]
        omega
theorem wAt_pos {ps : List (List Int)} {i : Nat} {a : List Int} (h : ∀ g, 0 ≤ a.getD g 0) (hp : ∀ g : Nat, 0 ≤ pr ps i g) : ∀ n, 0 ≤ wAt ps i a n
  | 0 => Int.le_refl _
  | n + 1 => by
    have := wAt_pos h hp n
    have := Int.mul_nonneg (h n) (hp n)
    simp only [wAt]
    omega
theorem wAt_term {ps : List (List Int)} {i : Nat} {a : List Int} (h : ∀ g, 0 ≤ a.getD g 0) (hp : ∀ g : Nat, 0 ≤ pr ps i g) {g : Nat} : ∀ {n : Nat}, g < n → a.getD g 0 * pr ps i g ≤ wAt ps i a n
  | 0, hg => by omega
  | n + 1, hg => by
    simp only [wAt]
    by_cases e : g = n
    · subst e
      have := wAt_pos h hp g
      omega
    · have := wAt_term h hp (show g < n by omega)
      have := Int.mul_nonneg (h n) (hp n)
      omega
theorem lf_price {h k K p q : Int} (h0 : 0 ≤ h) (hq : 0 ≤ q) (hk : k ≤ K) (hK : q * K ≤ 1000 * p) : lf h k * q ≤ h * p := by
  have h1 : lf h k * 1000 ≤ h * k := Int.ediv_mul_le _ (by omega)
  have h2 := Int.mul_le_mul_of_nonneg_right h1 hq
  have h3 := Int.mul_le_mul_of_nonneg_right hk hq
  have h4 : k * q ≤ 1000 * p := by rw [Int.mul_comm q K] at hK; omega
  have h5 := Int.mul_le_mul_of_nonneg_left h4 h0
  rw [show lf h k * 1000 * q = lf h k * q * 1000 by rw [Int.mul_right_comm], show h * k * q = h * (k * q) by rw [Int.mul_assoc]] at h2
  rw [show h * (1000 * p) = h * p * 1000 by rw [Int.mul_comm 1000 p, Int.mul_assoc]] at h5
  generalize lf h k * q = X at *
  generalize h * p = Y at *
  generalize h * (k * q) = Z at *
  omega
theorem priced_road {l : List Offer} {fs : List Fair} {ps : List (List Int)} (hp : Priced l fs ps) {i : Nat} (hi : i + 1 < fs.length) {g : Nat} (hg : g < 5) : pr ps (i + 1) g * ((keepsOf fs i).getD g z0).hi ≤ 1000 * pr ps i g := by
  obtain ⟨f, hf⟩ : ∃ f, fs[i]? = some f := ⟨_, List.getElem?_eq_getElem (by omega)⟩
  have := (hp.2.2 i f hf).2 hi g hg
  unfold RoadOk at this
  simp only [keepsOf, List.getD, hf, Option.getD_some]
  exact this
theorem worth_road {l : List Offer} {fs : List Fair} {ps : List (List Int)} {by_ : List Int} {t : TS} {k r : Nat} (hp : Priced l fs ps) (ht : tripOk fs = true) (hok : t.Ok k r) (hr : r + 1 < fs.length) : wAt ps (r + 1) (t.road by_ (keepsOf fs r)).held 5 ≤ wAt ps r t.held 5 := by
  refine wAt_mono fun g hg => ?_
  have hl5 := hok.held.1
  have hk := keeps_ok ht (show r < fs.length by omega)
  simp only [TS.road, TS.mid, setTo_get]
  rw [if_pos ⟨hg, by omega⟩]
  unfold TS.sev
  obtain ⟨d1, d2, d3⟩ := keep_get' hk g
  obtain ⟨i1, i2⟩ := inside_bd (v := pick by_ (100 + 5 * t.roads.length + g)) d2
  exact lf_price (hok.held.2 g).1 (pr_bd hp _ _).1 i2 (priced_road hp hr hg)
theorem worth_go {l : List Offer} {fs : List Fair} {ps : List (List Int)} {by_ : List Int} {t : TS} {k r : Nat} (hp : Priced l fs ps) (ht : tripOk fs = true) (hok : t.Ok k r) : ∀ n, r + n < fs.length → wAt ps (r + n) (t.go by_ fs n).held 5 ≤ wAt ps r t.held 5
  | 0, _ => Int.le_refl _
  | n + 1, hn => by
    have ih := worth_go (by_ := by_) hp ht hok n (by omega)
    have hok' := hok.go (by_ := by_) ht n (by omega)
    have := worth_road (by_ := by_) hp ht hok' (by omega)
    simp only [TS.go]
    rw [hok.roads.1]
    rw [show r + (n + 1) = r + n + 1 by omega]
    omega
theorem worth_to {l : List Offer} {fs : List Fair} {ps : List (List Int)} {by_ : List Int} {t : TS} {k r m : Nat} (hp : Priced l fs ps) (ht : tripOk fs = true) (hok : t.Ok k r) (h1 : r ≤ m) (h2 : m < fs.length) : wAt ps m (t.to by_ fs m).held 5 ≤ wAt ps r t.held 5 := by
  unfold TS.to
  rw [hok.roads.1]
  have := worth_go (by_ := by_) hp ht hok (m - r) (by omega)
  rw [show r + (m - r) = m by omega] at this
  exact this
theorem worth_step {l : List Offer} {fs : List Fair} {ps : List (List Int)} {by_ : List Int} {i k r : Nat} {b : Barter} {t t' : TS} (hp : Priced l fs ps) (ho : offersOk l = true) (ht : tripOk fs = true) (hok : t.Ok k r) (hs : goStep l fs by_ i b t = some t') : wAt ps t'.roads.length t'.held 5 ≤ wAt ps r t.held 5 := by
  unfold goStep at hs
  split at hs
  · cases hs
  · rename_i hb
    simp only [goBad, Bool.or_eq_true, decide_eq_true_eq, not_or, hok.roads.1] at hb
    obtain ⟨⟨⟨⟨⟨b1, b2⟩, b3⟩, b4⟩, b5⟩, b6⟩ := hb
    have hto := hok.to (by_ := by_) ht (m := b.fair.toNat) (by omega) (by omega)
    have hw := worth_to (by_ := by_) hp ht hok (m := b.fair.toNat) (by omega) (by omega)
    obtain ⟨o, hoj⟩ : ∃ o, l[b.offer.toNat]? = some o := ⟨_, List.getElem?_eq_getElem (by omega)⟩
    obtain ⟨f, hff⟩ : ∃ f, fs[b.fair.toNat]? = some f := ⟨_, List.getElem?_eq_getElem (by omega)⟩
    have hoat : offerAt l b.offer = o := by simp [offerAt, List.getD, hoj]
    have hfat : fs.getD b.fair.toNat ⟨0, 0, []⟩ = f := by simp [List.getD, hff]
    obtain ⟨gi, ge, hgi, hge, hgi5, hge5, hgne, hu1, hu2, hlo1, hlo2, hhi, _⟩ := offer_bounds ho hoj
    rw [hoat, hfat] at hs
    obtain ⟨n1, n2⟩ := got_bd (x := o) (v := pick by_ i) ⟨hlo1, hlo2, hhi⟩ (show 1 ≤ b.times by omega)
    split at hs
    · cases hs
    · rename_i hp2
      simp only [not_or] at hp2
      have hop : openB o f = true := by simpa using hp2.1
      have hoff := (hp.2.2 _ f hff).1 _ o hoj hop
      rw [hgi, hge] at hoff
      split at hs
      · cases hs
      · cases hs
        have hrl := hto.roads.1
        have hl5 := hto.held.1
        generalize t.to by_ fs b.fair.toNat = T at *
        simp only [TS.note, TS.take, TS.pay, hgi, hge, Int.toNat_natCast]
        rw [hrl, wAt_set (by simp; omega), wAt_set (by omega), if_pos hgi5, if_pos hge5, getD_set _ _ _ (by omega), if_neg (fun e => hgne e.symm)]
        have e1 : (T.held.getD gi 0 - b.times * o.units - T.held.getD gi 0) = -(b.times * o.units) := by omega
        have e2 : (T.held.getD ge 0 + got o b.times (pick by_ i) - T.held.getD ge 0) = got o b.times (pick by_ i) := by omega
        rw [e1, e2, Int.neg_mul]
        have q0 := (pr_bd hp b.fair.toNat ge).1
        have m1 := Int.mul_le_mul_of_nonneg_right n2 q0
        have m2 := Int.mul_le_mul_of_nonneg_left hoff (show 0 ≤ b.times by omega)
        rw [← Int.mul_assoc, ← Int.mul_assoc] at m2
        omega
theorem worth_goTo {l : List Offer} {fs : List Fair} {ps : List (List Int)} {xs : List Int} {bs : List Barter} {by_ : List Int} (hp : Priced l fs ps) (ho : offersOk l = true) (ht : tripOk fs = true) (hx : stocksOk xs = true) : ∀ {n : Nat} {t : TS}, goTo l fs xs bs by_ n = some t → wAt ps t.roads.length t.held 5 ≤ wAt ps 0 xs 5
  | 0, t, h => by cases h; exact Int.le_refl _
  | n + 1, t, h => by
    simp only [goTo, Option.bind_eq_some_iff] at h
    obtain ⟨s, hs, h⟩ := h
    obtain ⟨r, hr, hok⟩ := goTo_ok ho ht hx hs
    have ih := worth_goTo hp ho ht hx hs
    have := worth_step hp ho ht hok h
    rw [hok.roads.1] at ih
    omega
/-- **whatever anybody does, he has no more than the bound** -/
theorem goes_bound {l : List Offer} {fs : List Fair} {ps : List (List Int)} {xs : List Int} {bs : List Barter} {by_ : List Int} (hp : Priced l fs ps) (ho : offersOk l = true) (ht : tripOk fs = true) (hx : stocksOk xs = true) {t : TS} (h : goesOf l fs xs bs by_ = some t) {g : Nat} (hg : g < 5) (h0 : 0 < pr ps (fs.length - 1) g) :
    L5 t ∧ (∀ g, 0 ≤ t.held.getD g 0 ∧ t.held.getD g 0 ≤ 1000000000000000) ∧ t.held.getD g 0 ≤ worthTo xs ps 5 / pr ps (fs.length - 1) g := by
  unfold goesOf at h
  have htl := trip_len ht
  cases h1 : goTo l fs xs bs by_ bs.length with
  | none => rw [h1] at h; cases h
  | some t0 =>
    rw [h1] at h
    simp only [Option.map_some, Option.some.injEq] at h
    subst h
    obtain ⟨r, hr, hok⟩ := goTo_ok ho ht hx h1
    have hto := hok.to (by_ := by_) ht (m := fs.length - 1) (by omega) (by omega)
    have w1 := worth_goTo hp ho ht hx h1
    have w2 := worth_to (by_ := by_) hp ht hok (m := fs.length - 1) (by omega) (by omega)
    rw [hok.roads.1] at w1
    have w3 := wAt_term (ps := ps) (i := fs.length - 1) (a := (t0.to by_ fs (fs.length - 1)).held) (fun g => (hto.held.2 g).1) (fun g => (pr_bd hp _ _).1) hg
    refine ⟨hto.l5, fun g => ?_, Int.le_ediv_of_mul_le h0 ?_⟩
    · have := hto.held.2 g
      omega
    · rw [worth_wAt]
      omega
/-! ### the best chain -/
theorem worth_chain {l : List Offer} {fs : List Fair} {ps : List (List Int)} {c : List Int} {h0 : Hand} (hp : Priced l fs ps) (ho : offersOk l = true) (ht : tripOk fs = true) (hc : ∀ k ∈ c, k < (l.length : Int)) (hh : HandOk 0 h0) : ∀ {n : Nat}, n ≤ fs.length → ∀ {h : Hand}, goneTo l fs c h0 n = some h → h.units * pr ps (min n (fs.length - 1)) h.good ≤ h0.units * pr ps 0 h0.good
  | 0, _, h, e => by
    cases e
    rw [Nat.zero_min]
    exact Int.le_refl _
  | n + 1, hn, h, e => by
    simp only [goneTo, Option.bind_eq_some_iff] at e
    obtain ⟨x, hx, hs⟩ := e
    have ih := worth_chain hp ho ht hc hh (by omega) hx
    have hxo := goneTo_ok ho ht hc hh (by omega) hx
    rw [Nat.min_eq_left (by omega)] at ih
    have hck : c.getD n (-1) < (l.length : Int) := by
      cases hcn : c[n]? with
      | none => simp [List.getD, hcn]; omega
      | some k => simp [List.getD, hcn]; exact hc k (List.mem_of_getElem? hcn)
    -- the barter
    have key : ∃ y : Hand, h = roadHand fs n y ∧ HandOk (n + 1) y ∧ y.units * pr ps n y.good ≤ x.units * pr ps n x.good := by
      unfold stepHand at hs
      split at hs
      · rename_i hk
        split at hs
        · rename_i hg
          cases hs
          obtain ⟨o, hoo⟩ : ∃ o, l[(c.getD n (-1)).toNat]? = some o := ⟨_, List.getElem?_eq_getElem (by omega)⟩
          obtain ⟨f, hff⟩ : ∃ f, fs[n]? = some f := ⟨_, List.getElem?_eq_getElem (by omega)⟩
          have eo : offerAt l (c.getD n (-1)) = o := by unfold offerAt; rw [List.getD, hoo]; rfl
          have ef : fairAt fs n = f := by simp [fairAt, List.getD, hff]
          obtain ⟨gi, ge, hgi, hge, hgi5, hge5, _, hu1, _, hl1, hl2, hh2, _⟩ := offer_bounds ho hoo
          rw [eo, ef] at hg
          refine ⟨takeHand o x, by rw [eo], hxo.take ⟨ge, hge, hge5⟩ hu1 hl1 (by omega), ?_⟩
          have hoff := (hp.2.2 n f hff).1 _ o hoo hg.2
          simp only [takeHand]
          rw [← hg.1]
          obtain ⟨d0, d1⟩ := div_bd hxo.2.1 hu1
          have hdu : x.units / o.units * o.units ≤ x.units := Int.ediv_mul_le _ (by omega)
          generalize x.units / o.units = D at *
          have q0 := (pr_bd hp n o.get).1
          have q1 := (pr_bd hp n o.give).1
          have m0 := Int.mul_le_mul_of_nonneg_left hl2 d0
          have m1 := Int.mul_le_mul_of_nonneg_right m0 q0
          have m2 := Int.mul_le_mul_of_nonneg_left hoff d0
          have m3 := Int.mul_le_mul_of_nonneg_right hdu q1
          rw [← Int.mul_assoc, ← Int.mul_assoc] at m2
          omega
        · cases hs
      · cases hs
        exact ⟨x, rfl, hxo.up, Int.le_refl _⟩
    obtain ⟨y, rfl, hy, hw⟩ := key
    obtain ⟨⟨g, hg, hg5⟩, y0, _⟩ := hy
    simp only [roadHand]
    by_cases hl : n + 1 < fs.length
    · rw [if_pos hl, Nat.min_eq_left (by omega)]
      have hk := keeps_ok ht (show n < fs.length by omega)
      obtain ⟨d1, d2, d3⟩ := keep_get' hk g
      rw [hg] at hw ⊢
      rw [Int.toNat_natCast]
      have := lf_price (p := pr ps n g) (q := pr ps (n + 1) g) (K := ((keepsOf fs n).getD g z0).hi) y0 (pr_bd hp _ _).1 d2 (priced_road hp hl hg5)
      omega
    · rw [if_neg hl, Nat.min_eq_right (by omega), show fs.length - 1 = n by omega]
      omega
theorem best_bound {l : List Offer} {fs : List Fair} {ps : List (List Int)} {xs : List Int} (hc : checkOf l fs = 0) (hp : Priced l fs ps) (hx : stocksOk xs = true) {g : Nat} (hg : g < 5) {want : Int} (h0 : 0 < pr ps (fs.length - 1) want) (hb : (bestOf l fs g (xs.getD g 0) want).err = 0) :
    (bestOf l fs g (xs.getD g 0) want).got ≤ worthTo xs ps 5 / pr ps (fs.length - 1) want := by
  obtain ⟨ho, ht⟩ := checkOf_zero hc
  have htl := trip_len ht
  obtain ⟨h5, hbd⟩ := stock_get hx
  have hpos : ∀ g, 0 ≤ xs.getD g 0 ∧ xs.getD g 0 ≤ 1000000 := fun g => by
    cases hxg : xs[g]? with
    | none => simp [List.getD, hxg]
    | some x =>
      have := hbd g x hxg
      simp only [List.getD, hxg, Option.getD_some]
      omega
  have hh : HandOk 0 ⟨(g : Int), xs.getD g 0⟩ := ⟨⟨g, rfl, hg⟩, (hpos g).1, by have := (hpos g).2; show xs.getD g 0 ≤ 1000000 * 50 ^ 0; omega⟩
  have spec := best_spec (want := want) ho ht hh
  have w := wAt_term (ps := ps) (i := 0) (a := xs) (fun g => (hpos g).1) (fun g => (pr_bd hp _ _).1) hg
  unfold bestOf at hb ⊢
  rw [if_neg (by simp [hc])] at hb ⊢
  split at hb
  · cases hb
  · rename_i ha
    rw [if_neg ha]
    cases hF : bestTo l fs ⟨(g : Int), xs.getD g 0⟩ want ((l.length + 1) ^ fs.length) with
    | none => rw [hF] at hb; cases hb
    | some x =>
      rw [hF] at spec
      obtain ⟨hck, hv, _⟩ := spec
      have hgo := gains_some hv
      have := worth_chain hp ho ht (fun k hk => (hck.2 k hk).2) hh (Nat.le_refl _) hgo
      simp only [chosen] at this ⊢
      rw [Nat.min_eq_right (by omega)] at this
      refine Int.le_ediv_of_mul_le h0 ?_
      rw [worth_wAt]
      omega
end Go.Proofs.Ytkbhmajcddmhnaa

/- The law MarketBounded. -/
namespace Go.Proofs.Ytkbhmajcddmhnaa
open Go.RowKit
set_option linter.unusedVariables false
set_option linter.unusedSimpArgs false

set_option maxRecDepth 100000 in
set_option maxHeartbeats 4000000 in
theorem boundedTail {w w7 : World} {a : Option Addr} {n cap : Nat} {l : List Offer} {fa : Option Addr} {fn fc : Nat} {fs : List Fair} {sa : Option Addr} {sc : Nat} {xs : List Int} {want M : Int}
    (hl : OffersAt w7 a n l) (hf : FairsAt w7 fa fn fs) (hs : IntsAt .i64 w7 sa 5 xs) (hn : n ≤ 1000000) (hfn : fn ≤ 1000000) (hx07 : Ext w w7)
    (hb : ∀ k : Nat, k < 5 → (bestOf l fs k (xs.getD k 0) want).err = 0 → (bestOf l fs k (xs.getD k 0) want).got ≤ M)
    {u3 : Value} {u5 u6 u7 u8 u9 u10 u11 u12 u13 u14 u17 u18 u19 u20 u21 u22 u23 u24 u25 u26 u27 u28 u29 u30 u31 u32 u33 u34 u35 u36 u37 u38 u39 u40 u41 u42 u43 u44 u45 u46 u47 u48 u49 u50 u51 u52 u53 u54 u55 u56 u57 u58 u59 u60 u61 u62 u63 u64 u65 u66 u67 u68 u69 u70 u71 u72 u73 u74 u75 u76 u77 u78 u79 u80 u81 u82 u83 u84 u85 u86 u87 u88 u89 u90 u91 u92 u93 u94 u95 u96 u97 u98 u99 u100 u101 u102 u103 u104 u105 u106 u107 u108 u109 u110 u111 u112 u113 u114 u115 u116 u117 u118 u119 u120 u121 u122 u123 u124 u125 u126 u127 u128 u129 u130 : Value} :
    (restFrom Try.f10 12).wp Try.prog (bodyPost Try.prog Try.f10 fun e w' => e = .returned (.bool true) ∧ Ext w w')
      ⟨#[.slice a n cap, .slice fa fn fc, .slice sa 5 sc, u3, .int .i64 want, u5, u6, u7, u8, u9, u10, u11, u12, u13, u14, .bool true, .int .i64 M, u17, u18, u19, u20, u21, u22, u23, u24, u25, u26, u27, u28, u29, u30, u31, u32, u33, u34, u35, u36, u37, u38, u39, u40, u41, u42, u43, u44, u45, u46, u47, u48, u49, u50, u51, u52, u53, u54, u55, u56, u57, u58, u59, u60, u61, u62, u63, u64, u65, u66, u67, u68, u69, u70, u71, u72, u73, u74, u75, u76, u77, u78, u79, u80, u81, u82, u83, u84, u85, u86, u87, u88, u89, u90, u91, u92, u93, u94, u95, u96, u97, u98, u99, u100, u101, u102, u103, u104, u105, u106, u107, u108, u109, u110, u111, u112, u113, u114, u115, u116, u117, u118, u119, u120, u121, u122, u123, u124, u125, u126, u127, u128, u129, u130], []⟩ w7 := by
  have Hl := Lib.hid hl
  have Hf := Lib.hid hf
  have Hs := Lib.hid hs
  have Hx07 := Lib.hid hx07
  have Hb := Lib.hid hb
  clear hl hf hs hx07 hb
  conv => arg 2; whnf
  go_wp2_with fail
  go_loopw [107] (fun i wr => ∃ k : Nat, k ≤ 5 ∧ i = .int .i64 k ∧ Ext w7 wr) (fun i _ => 5 - (intOf i).toNat)
  case atStart => exact ⟨0, Nat.zero_le _, rfl, Ext.refl _⟩
  case round =>
    obtain ⟨k, hk, rfl, hx⟩ := hrel
    by_cases hlt : k < 5
    · have hlt' : decide ((k : Int) < 5) = true := by simp; omega
      obtain ⟨sb, so, y, rfl, hyk, hsb, d0⟩ := (Hs.out.ext hx).get k hlt
      have hbk := Hb.out k hlt
      rw [show xs.getD k 0 = y by simp [List.getD, hyk]] at hbk
      have hbest := mBest_any a n cap l fa fn fc fs (k : Int) y want wr (Hl.out.ext hx) (Hf.out.ext hx) hn hfn
      generalize bestOf l fs (k : Int) y want = T at *
      obtain ⟨B, V, E⟩ := T
      simp only at hbk
      by_cases hE : E = 0
      · subst hE
        have hV := hbk rfl
        have hVB : decide (M < V) = false := decide_eq_false (by omega)
        have Hx := Lib.hid hx
        have Hbest := Lib.hid hbest
        clear hx hbest
        clear hbk hyk
        go_wp2_with (go_at_call 28; refine Hbest.out.mono ?_; rintro e w8 ⟨ba, bn, bc, rfl, hx8, _, _⟩)
        go_roundw
        case rel => exact ⟨k + 1, by omega, by go_num, Hx.out.trans hx8⟩
        case measure => simp [intOf]; omega
      · have hEB : (E == 0) = false := by rw [beq_eq_false_iff_ne]; exact hE
        have Hx := Lib.hid hx
        have Hbest := Lib.hid hbest
        clear hx hbest
        clear hbk hyk
        go_wp2_with (go_at_call 28; refine Hbest.out.mono ?_; rintro e w8 ⟨ba, bn, bc, rfl, hx8, _, _⟩)
        go_roundw
        case rel => exact ⟨k + 1, by omega, by go_num, Hx.out.trans hx8⟩
        case measure => simp [intOf]; omega
    · obtain rfl : k = 5 := by omega
      rw [show ((5 : Nat) : Int) = 5 from rfl]
      have hx0 := Hx07.out.trans hx
      have Hx0 := Lib.hid hx0
      clear hx0
      clear hx
      go_wp2_with fail
      go_ret
      exact ⟨rfl, Hx0.out⟩
set_option maxRecDepth 100000 in
set_option maxHeartbeats 4000000 in
theorem lawBounded_any (a : Option Addr) (n cap : Nat) (l : List Offer) (fa : Option Addr) (fn fc : Nat) (fs : List Fair) (sa : Option Addr) (sn sc : Nat) (xs : List Int) (ba : Option Addr) (bn bc : Nat) (bs : List Barter) (want : Int) (pa : Option Addr) (pn pc : Nat) (ps : List (List Int)) (ca : Option Addr) (cn cc : Nat) (by_ : List Int) (w : World)
    (hl : OffersAt w a n l) (hf : FairsAt w fa fn fs) (hs : IntsAt .i64 w sa sn xs) (hp : BartersAt w ba bn bs) (hpr : RowsAt w pa pn ps) (hpn : pn ≤ maxLen) (hby : IntsAt .u32 w ca cn by_) (hu : u32s by_) (hn : n ≤ maxLen) (hfn : fn ≤ maxLen) (hsn : sn ≤ maxLen) (hbn : bn ≤ maxLen) (hcn : cn ≤ maxLen) :
    Calls Try.prog 10 #[.slice a n cap, .slice fa fn fc, .slice sa sn sc, .slice ba bn bc, .int .i64 want, .slice pa pn pc, .slice ca cn cc] w fun e w' => e = .returned (.bool true) ∧ Ext w w' := by
  have hal := fun W => alive_any W
  have hrd := fun W (hW : Ext w W) => ready_any a n cap l fa fn fc fs W (hl.ext hW) (hf.ext hW) hn hfn
  have hst := fun W (hW : Ext w W) => stocks_all sa sn sc xs W (hs.ext hW) hsn
  unfold maxLen at hn hfn hsn hbn hcn hpn
  cases hr : readyB l fs with
  | false =>
    rw [hr] at hrd
    have Hal := Lib.hid hal
    have Hrd := Lib.hid hrd
    clear hal hrd
    clear hl hf hr hby hu hs hp hpr hst
    go_enter Try.func10, Try.ntmps10
    go_wp2_with (first | (go_at_call 32; refine (Hal.out _).mono ?_; rintro e w1 ⟨rfl, hx1⟩) | (go_at_call 33; refine (Hrd.out _ hx1).mono ?_; rintro e w2 ⟨rfl, hx2⟩; have hx02 := hx1.trans hx2) | (go_at_call 34; refine (Hst.out _ hx02).mono ?_; rintro e w3 ⟨rfl, hx3⟩; have hx03 := hx02.trans hx3))
    go_ret
    exact ⟨rfl, hx02⟩
  | true =>
  have hr2 := hr
  simp only [readyB, Bool.and_eq_true, Bool.not_eq_true', decide_eq_true_eq] at hr2
  obtain ⟨ho, ht⟩ := checkOf_zero hr2.2
  rw [hr] at hrd
  have hc0 := hr2.2
  clear hr hr2
  cases hxo : stocksOk xs with
  | false =>
    rw [hxo] at hst
    have Hal := Lib.hid hal
    have Hrd := Lib.hid hrd
    have Hst := Lib.hid hst
    clear hal hrd hst
    clear hl hf hby hu hs hp hpr hxo ho ht hc0
    go_enter Try.func10, Try.ntmps10
    go_wp2_with (first | (go_at_call 32; refine (Hal.out _).mono ?_; rintro e w1 ⟨rfl, hx1⟩) | (go_at_call 33; refine (Hrd.out _ hx1).mono ?_; rintro e w2 ⟨rfl, hx2⟩; have hx02 := hx1.trans hx2) | (go_at_call 34; refine (Hst.out _ hx02).mono ?_; rintro e w3 ⟨rfl, hx3⟩; have hx03 := hx02.trans hx3))
    go_ret
    exact ⟨rfl, hx03⟩
  | true =>
  rw [hxo] at hst
  by_cases b1 : 60 < bn
  · have b1' : decide ((60 : Int) < (bn : Int)) = true := by simp; omega
    have Hal := Lib.hid hal
    have Hrd := Lib.hid hrd
    have Hst := Lib.hid hst
    clear hal hrd hst
    clear hl hf hby hu hs hp hpr hxo ho ht hc0
    go_enter Try.func10, Try.ntmps10
    go_wp2_with (first | (go_at_call 32; refine (Hal.out _).mono ?_; rintro e w1 ⟨rfl, hx1⟩) | (go_at_call 33; refine (Hrd.out _ hx1).mono ?_; rintro e w2 ⟨rfl, hx2⟩; have hx02 := hx1.trans hx2) | (go_at_call 34; refine (Hst.out _ hx02).mono ?_; rintro e w3 ⟨rfl, hx3⟩; have hx03 := hx02.trans hx3))
    go_ret
    exact ⟨rfl, hx03⟩
  have b1' : decide ((60 : Int) < (bn : Int)) = false := by simp; omega
  by_cases v1 : want < 0
  · have v1' : decide (want < 0) = true := decide_eq_true v1
    have Hal := Lib.hid hal
    have Hrd := Lib.hid hrd
    have Hst := Lib.hid hst
    clear hal hrd hst
    clear hl hf hby hu hs hp hpr hxo ho ht hc0
    go_enter Try.func10, Try.ntmps10
    go_wp2_with (first | (go_at_call 32; refine (Hal.out _).mono ?_; rintro e w1 ⟨rfl, hx1⟩) | (go_at_call 33; refine (Hrd.out _ hx1).mono ?_; rintro e w2 ⟨rfl, hx2⟩; have hx02 := hx1.trans hx2) | (go_at_call 34; refine (Hst.out _ hx02).mono ?_; rintro e w3 ⟨rfl, hx3⟩; have hx03 := hx02.trans hx3))
    go_ret
    exact ⟨rfl, hx03⟩
  have v1' : decide (want < 0) = false := decide_eq_false v1
  by_cases v2 : 5 ≤ want
  · have v2' : decide (5 ≤ want) = true := decide_eq_true v2
    have Hal := Lib.hid hal
    have Hrd := Lib.hid hrd
    have Hst := Lib.hid hst
    clear hal hrd hst
    clear hl hf hby hu hs hp hpr hxo ho ht hc0
    go_enter Try.func10, Try.ntmps10
    go_wp2_with (first | (go_at_call 32; refine (Hal.out _).mono ?_; rintro e w1 ⟨rfl, hx1⟩) | (go_at_call 33; refine (Hrd.out _ hx1).mono ?_; rintro e w2 ⟨rfl, hx2⟩; have hx02 := hx1.trans hx2) | (go_at_call 34; refine (Hst.out _ hx02).mono ?_; rintro e w3 ⟨rfl, hx3⟩; have hx03 := hx02.trans hx3))
    go_ret
    exact ⟨rfl, hx03⟩
  have v2' : decide (5 ≤ want) = false := decide_eq_false v2
  have hnl := hl.1
  have hfl := hf.1
  have hsl := hs.1
  have hbl := hp.1
  have hol := offers_len ho
  have htl := trip_len ht
  have hs5 : xs.length = 5 := by simp only [stocksOk, Bool.and_eq_true, decide_eq_true_eq] at hxo; exact hxo.1
  obtain rfl : sn = 5 := by omega
  have h2 : inB want 0 4 = true := by simp [inB]; omega
  have hbnd := fun W (hW : Ext w W) => bound_all a n cap l fa fn fc fs sa sc xs pa pn pc ps want W (hl.ext hW) (hf.ext hW) (hs.ext hW) (hpr.ext hW) hpn ho ht hxo h2
  have hpri := fun W (hW : Ext w W) => prices_all a n cap l fa fn fc fs pa pn pc ps want W (hl.ext hW) (hf.ext hW) (hpr.ext hW) hpn ho ht (by omega) (by omega)
  cases hq : PB (Priced l fs ps ∧ 0 < pr ps (fs.length - 1) want) with
  | false =>
    have hb : boundOf l fs xs want ps = (0, 64) := by unfold boundOf; rw [if_neg (by simp [hc0]), if_neg (by simp [hxo, h2]), if_pos hq]
    rw [hb] at hbnd
    rw [hq] at hpri
    have Hal := Lib.hid hal
    have Hrd := Lib.hid hrd
    have Hst := Lib.hid hst
    have Hbnd := Lib.hid hbnd
    have Hpri := Lib.hid hpri
    clear hal hrd hst hbnd hpri
    clear hl hf hby hu hs hp hpr hxo ho ht hc0 hs5 hbl hsl hnl hfl hq hb
    go_enter Try.func10, Try.ntmps10
    go_wp2_with (first | (go_at_call 32; refine (Hal.out _).mono ?_; rintro e w1 ⟨rfl, hx1⟩) | (go_at_call 33; refine (Hrd.out _ hx1).mono ?_; rintro e w2 ⟨rfl, hx2⟩; have hx02 := hx1.trans hx2) | (go_at_call 34; refine (Hst.out _ hx02).mono ?_; rintro e w3 ⟨rfl, hx3⟩; have hx03 := hx02.trans hx3) | (go_at_call 16; refine (Hbnd.out _ hx03).mono ?_; rintro e w4 ⟨rfl, hx4⟩; have hx04 := hx03.trans hx4) | (go_at_call 37; refine (Hpri.out _ hx04).mono ?_; rintro e w5 ⟨rfl, hx5⟩; have hx05 := hx04.trans hx5))
    go_ret
    exact ⟨rfl, hx05⟩
  | true =>
    obtain ⟨hP, hp0⟩ := PB_elim hq
    have hb : boundOf l fs xs want ps = (worthTo xs ps 5 / pr ps (fs.length - 1) want, 0) := by unfold boundOf; rw [if_neg (by simp [hc0]), if_neg (by simp [hxo, h2]), if_neg (by rw [hq]; simp)]
    obtain ⟨g, rfl⟩ : ∃ g : Nat, want = g := ⟨want.toNat, by omega⟩
    have hbest := fun (k : Nat) (hk : k < 5) => best_bound hc0 hP hxo hk hp0
    have hgb := fun t (ht' : goesOf l fs xs bs by_ = some t) => goes_bound hP ho ht hxo ht' (show g < 5 by omega) hp0
    have hgo := fun W (hW : Ext w W) => goes_any a n cap l fa fn fc fs sa sc xs ba bn bc bs ca cn cc by_ W (hl.ext hW) (hf.ext hW) (hs.ext hW) (hp.ext hW) (hby.ext hW) hu ho ht hxo (by omega) (by omega)
    rw [hb] at hbnd
    rw [hq] at hpri
    obtain ⟨M, hM⟩ : ∃ M, worthTo xs ps 5 / pr ps (fs.length - 1) g = M := ⟨_, rfl⟩
    rw [hM] at hbnd hgb
    simp only [hM] at hbest
    have htail := fun W (hW : Ext w W) => @boundedTail w W a n cap l fa fn fc fs sa sc xs g M (hl.ext hW) (hf.ext hW) (hs.ext hW) (by omega) (by omega) hW hbest
    cases hgoes : goesOf l fs xs bs by_ with
    | none =>
      rw [hgoes] at hgo
      have Hal := Lib.hid hal
      have Hrd := Lib.hid hrd
      have Hst := Lib.hid hst
      have Hbnd := Lib.hid hbnd
      have Hpri := Lib.hid hpri
      have Hgo := Lib.hid hgo
      have Htail := Lib.hid htail
      clear hal hrd hst hbnd hpri hgo htail
      clear hl hf hby hu hs hp hpr hxo ho ht hc0 hs5 hbl hsl hnl hfl hq hb hP hp0 hM hbest hgb hgoes h2
      go_enter Try.func10, Try.ntmps10
      go_upto_region 7 with (first | (go_at_call 32; refine (Hal.out _).mono ?_; rintro e w1 ⟨rfl, hx1⟩) | (go_at_call 33; refine (Hrd.out _ hx1).mono ?_; rintro e w2 ⟨rfl, hx2⟩; have hx02 := hx1.trans hx2) | (go_at_call 34; refine (Hst.out _ hx02).mono ?_; rintro e w3 ⟨rfl, hx3⟩; have hx03 := hx02.trans hx3) | (go_at_call 16; refine (Hbnd.out _ hx03).mono ?_; rintro e w4 ⟨rfl, hx4⟩; have hx04 := hx03.trans hx4))
      go_upto_region 10 with (first | (go_at_call 37; refine (Hpri.out _ hx04).mono ?_; rintro e w5 ⟨rfl, hx5⟩; have hx05 := hx04.trans hx5) | (go_at_call 35; refine (Hgo.out _ hx05).mono ?_; rintro e w6 ⟨v, rfl, hv1, hv2, hx6⟩; have hx06 := hx05.trans hx6; have cp1 : (Try.prog.info? 66).map (·.size) = some v.size := (by rw [info66, hv1]); have cp2 : (#[.int .i64 0, .int .i64 0, .int .i64 0, .int .i64 0, .int .i64 0, .int .i64 0, .int .i64 0, .int .i64 0, .int .i64 0, .int .i64 0, .int .i64 0, .int .i64 0, .int .i64 0, .int .i64 0, .int .i64 0, .int .i64 0, .int .i64 0, .int .i64 0, .int .i64 0, .int .i64 0, .slice none 0 0] : Array Value).size = v.size := (by rw [hv1]; rfl); have hz6 := heap_alloc_new w6 (.cells #[.int .i64 0, .int .i64 0, .int .i64 0, .int .i64 0, .int .i64 0, .int .i64 0, .int .i64 0, .int .i64 0, .int .i64 0, .int .i64 0, .int .i64 0, .int .i64 0, .int .i64 0, .int .i64 0, .int .i64 0, .int .i64 0, .int .i64 0, .int .i64 0, .int .i64 0, .int .i64 0, .slice none 0 0] 66); have hx67 := below_setRow ((Ext.refl w6).alloc (.cells #[.int .i64 0, .int .i64 0, .int .i64 0, .int .i64 0, .int .i64 0, .int .i64 0, .int .i64 0, .int .i64 0, .int .i64 0, .int .i64 0, .int .i64 0, .int .i64 0, .int .i64 0, .int .i64 0, .int .i64 0, .int .i64 0, .int .i64 0, .int .i64 0, .int .i64 0, .int .i64 0, .slice none 0 0] 66)) (Nat.le_refl _) v) | (refine wpList_store_row rfl 66 (.tmp 18) (.tmp 94) rfl w6.heap.size _ rfl rfl 66 _ hz6 cp1 cp2 hv2 ?_))
      have hx07 := hx06.trans hx67
      clear cp1 cp2 hz6 hx67 hv1 hv2 hx1 hx2 hx3 hx4 hx5 hx6 hx02 hx03 hx04 hx05 hx06
      generalize (w6.alloc (.cells #[.int .i64 0, .int .i64 0, .int .i64 0, .int .i64 0, .int .i64 0, .int .i64 0, .int .i64 0, .int .i64 0, .int .i64 0, .int .i64 0, .int .i64 0, .int .i64 0, .int .i64 0, .int .i64 0, .int .i64 0, .int .i64 0, .int .i64 0, .int .i64 0, .int .i64 0, .int .i64 0, .slice none 0 0] 66)).setRow w6.heap.size v = w7 at *
      go_upto_if 104 with fail
      iterate 4 go_step
      exact Htail.out _ hx07
    | some t =>
      rw [hgoes] at hgo
      obtain ⟨hl5, hH0, hH⟩ := hgb t hgoes
      have hcp : ∀ (ra : Option Addr) (rc : Nat), (Try.prog.info? 66).map (·.size) = some (truCells t (.slice ra t.roads.length rc)).toArray.size ∧ (#[.int .i64 0, .int .i64 0, .int .i64 0, .int .i64 0, .int .i64 0, .int .i64 0, .int .i64 0, .int .i64 0, .int .i64 0, .int .i64 0, .int .i64 0, .int .i64 0, .int .i64 0, .int .i64 0, .int .i64 0, .int .i64 0, .int .i64 0, .int .i64 0, .int .i64 0, .int .i64 0, .slice none 0 0] : Array Value).size = (truCells t (.slice ra t.roads.length rc)).toArray.size ∧ (truCells t (.slice ra t.roads.length rc)).toArray.all (·.oneCell') = true := fun ra rc => ⟨by rw [info66, tru_size hl5], by rw [tru_size hl5]; rfl, tru_one⟩
      have hset := fun (W : World) (b : Nat) (c : Array Value) (v : Array Value) (hb : W.heap[b]? = some (.cells c 66 (0, 0))) => setRow_heap W b c v 66 (0, 0) hb
      have hg5 : g < 5 := by omega
      have Hal := Lib.hid hal
      have Hrd := Lib.hid hrd
      have Hst := Lib.hid hst
      have Hbnd := Lib.hid hbnd
      have Hpri := Lib.hid hpri
      have Hgo := Lib.hid hgo
      have Htail := Lib.hid htail
      have Hcp := Lib.hid hcp
      have Hset := Lib.hid hset
      have Hl5 := Lib.hid hl5
      clear hal hrd hst hbnd hpri hgo htail hcp hset hl5
      clear hl hf hby hu hs hp hpr hxo ho ht hc0 hs5 hbl hsl hnl hfl hq hb hP hp0 hM hbest hgb hgoes h2
      go_enter Try.func10, Try.ntmps10
      go_upto_region 7 with (first | (go_at_call 32; refine (Hal.out _).mono ?_; rintro e w1 ⟨rfl, hx1⟩) | (go_at_call 33; refine (Hrd.out _ hx1).mono ?_; rintro e w2 ⟨rfl, hx2⟩; have hx02 := hx1.trans hx2) | (go_at_call 34; refine (Hst.out _ hx02).mono ?_; rintro e w3 ⟨rfl, hx3⟩; have hx03 := hx02.trans hx3) | (go_at_call 16; refine (Hbnd.out _ hx03).mono ?_; rintro e w4 ⟨rfl, hx4⟩; have hx04 := hx03.trans hx4))
      go_upto_region 10 with (first | (go_at_call 37; refine (Hpri.out _ hx04).mono ?_; rintro e w5 ⟨rfl, hx5⟩; have hx05 := hx04.trans hx5) | (go_at_call 35; refine (Hgo.out _ hx05).mono ?_; rintro e w6 ⟨ra, rc, rfl, hx6, _⟩; have hx06 := hx05.trans hx6; obtain ⟨cp1, cp2, cp3⟩ := Hcp.out ra rc; have hz6 := heap_alloc_new w6 (.cells #[.int .i64 0, .int .i64 0, .int .i64 0, .int .i64 0, .int .i64 0, .int .i64 0, .int .i64 0, .int .i64 0, .int .i64 0, .int .i64 0, .int .i64 0, .int .i64 0, .int .i64 0, .int .i64 0, .int .i64 0, .int .i64 0, .int .i64 0, .int .i64 0, .int .i64 0, .int .i64 0, .slice none 0 0] 66); have hx67 := below_setRow ((Ext.refl w6).alloc (.cells #[.int .i64 0, .int .i64 0, .int .i64 0, .int .i64 0, .int .i64 0, .int .i64 0, .int .i64 0, .int .i64 0, .int .i64 0, .int .i64 0, .int .i64 0, .int .i64 0, .int .i64 0, .int .i64 0, .int .i64 0, .int .i64 0, .int .i64 0, .int .i64 0, .int .i64 0, .int .i64 0, .slice none 0 0] 66)) (Nat.le_refl _) (truCells t (.slice ra t.roads.length rc)).toArray; have hT7 := Hset.out _ _ _ (truCells t (.slice ra t.roads.length rc)).toArray hz6) | (refine wpList_store_row rfl 66 (.tmp 18) (.tmp 94) rfl w6.heap.size _ rfl rfl 66 _ hz6 cp1 cp2 cp3 ?_))
      have hT7 : TrAt _ _ t (.slice ra t.roads.length rc) := hT7
      have hx07 := hx06.trans hx67
      clear cp1 cp2 cp3 hz6 hx67 Hcp Hset hx1 hx2 hx3 hx4 hx5 hx6 hx02 hx03 hx04 hx05 hx06
      generalize (w6.alloc (.cells #[.int .i64 0, .int .i64 0, .int .i64 0, .int .i64 0, .int .i64 0, .int .i64 0, .int .i64 0, .int .i64 0, .int .i64 0, .int .i64 0, .int .i64 0, .int .i64 0, .int .i64 0, .int .i64 0, .int .i64 0, .int .i64 0, .int .i64 0, .int .i64 0, .int .i64 0, .int .i64 0, .slice none 0 0] 66)).setRow w6.heap.size (truCells t (.slice ra t.roads.length rc)).toArray = w7 at *
      generalize w6.heap.size = tb at *
      have cH := hT7.cH Hl5.out hg5
      have hHg := hH0 g
      generalize t.held.getD g 0 = H at *
      have hHB : decide (M < H) = false := decide_eq_false (by omega)
      have Hx07 := Lib.hid hx07
      clear hx07
      clear hT7 hH0
      go_upto_if 104 with fail
      iterate 4 go_step
      exact Htail.out _ Hx07.out
end Go.Proofs.Ytkbhmajcddmhnaa

/- It is proved that MarketBounded returns true whatever the input, and that the input reads as it did. No conditions. -/
namespace Go.Proofs.Ytkbhmajcddmhnaa.marketBoundedDone
open Go.ChangeShapes Go.WideShapes Go.ChangeAt Go.RowKit
open Go.ChangeMaps (open_string shut_string)
set_option linter.unusedVariables false

theorem own : ownKnob Try.prog.godebug = none := by kernel_rfl
theorem laidOut : laidOutB Try.prog = true := by kernel_rfl

set_option maxRecDepth 100000 in
theorem lifted (os : Os) (started : os.Started) (H : Type) (enc : TypeId × Value → H) :
    ReturnsInHanded {} Try.checked os 10 .any (Rows.marketBoundedSpec.pre6 enc Try.prog Try.f10 Rows.marketBoundedRow.domain false) (Rows.marketBoundedSpec.post enc Try.prog Try.f10 false true false false) := by
  refine returnsInHanded_of_change (C := Try.checked) own started (by kernel_rfl) Try.func10
    (ChangeSpec.witness6 (enc := enc) (C := Try.checked) false ⟨#[], #[.slice none 0 0, .slice none 0 0, .slice none 0 0, .slice none 0 0, .int .i64 0, .slice none 0 0, .slice none 0 0], []⟩ 8 (by kernel_rfl) (by kernel_rfl) (by kernel_rfl) (by kernel_rfl)) ?_
  intro W base args ds gs before hval0 hW hcnd _
  have hval : ∀ (j : Nat) t v, Try.f10.params[j]? = some t → args[j]? = some v → Value.okWide Try.prog W .any base t v := hval0
  have hW' := hW
  obtain ⟨p, q, hA0, hV, rfl, hfz, hnd⟩ := hW
  have hA : DataW.TrodAll enc Try.prog W 0 (fun _ => true) true Try.f10.params.toList args.toList ds p := hA0
  rw [Try.params10] at hA hval
  obtain ⟨v0, vs0, d0, ds0, p0, q0, hargs, rfl, rfl, h0, r0⟩ := trodAll_cons hA
  obtain ⟨v1, vs1, d1, ds1, p1, q1, rfl, rfl, rfl, h1, r1⟩ := trodAll_cons r0
  obtain ⟨v2, vs2, d2, ds2, p2, q2, rfl, rfl, rfl, h2, r2⟩ := trodAll_cons r1
  obtain ⟨v3, vs3, d3, ds3, p3, q3, rfl, rfl, rfl, h3, r3⟩ := trodAll_cons r2
  obtain ⟨v4, vs4, d4, ds4, p4, q4, rfl, rfl, rfl, h4, r4⟩ := trodAll_cons r3
  obtain ⟨v5, vs5, d5, ds5, p5, q5, rfl, rfl, rfl, h5, r5⟩ := trodAll_cons r4
  obtain ⟨v6, vs6, d6, ds6, p6, q6, rfl, rfl, rfl, h6, r6⟩ := trodAll_cons r5
  obtain ⟨rfl, rfl, rfl⟩ := trodAll_nil r6
  obtain rfl : args = #[v0, v1, v2, v3, v4, v5, v6] := by cases args; simp_all
  obtain ⟨rfl, rfl⟩ := trodVars_none hV
  obtain ⟨a0, len0, cap0, rfl⟩ := okWide_slice Try.underlying22 (hval 0 22 v0 rfl rfl)
  have k0 := h0
  have lt0 : ∀ x ∈ p0, x.block < W.heap.size := by obtain ⟨m, hm⟩ := k0; exact DataW.trod_lt m _ _ _ hm
  obtain ⟨lc0, cm0, l0, w0⟩ : len0 ≤ cap0 ∧ cap0 ≤ maxLen ∧ ∃ l, OffersAt W a0 len0 l := by
    obtain ⟨fuel, hf⟩ := h0
    exact take_offers hf
  obtain ⟨a1, len1, cap1, rfl⟩ := okWide_slice Try.underlying23 (hval 1 23 v1 rfl rfl)
  have k1 := h1
  have lt1 : ∀ x ∈ p1, x.block < W.heap.size := by obtain ⟨m, hm⟩ := k1; exact DataW.trod_lt m _ _ _ hm
  obtain ⟨lc1, cm1, l1, w1⟩ : len1 ≤ cap1 ∧ cap1 ≤ maxLen ∧ ∃ l, FairsAt W a1 len1 l := by
    obtain ⟨fuel, hf⟩ := h1
    exact take_fairs hf
  obtain ⟨a2, len2, cap2, rfl⟩ := okWide_slice Try.underlying24 (hval 2 24 v2 rfl rfl)
  have k2 := h2
  have lt2 : ∀ x ∈ p2, x.block < W.heap.size := by obtain ⟨m, hm⟩ := k2; exact DataW.trod_lt m _ _ _ hm
  obtain ⟨lc2, cm2, l2, w2⟩ : len2 ≤ cap2 ∧ cap2 ≤ maxLen ∧ ∃ l, IntsAt .i64 W a2 len2 l ∧ ∀ i ∈ l, (Lit.int .i64 i).wf = true := by
    obtain ⟨fuel, hf⟩ := h2
    exact take_ints Try.underlying24 Try.underlying3 (by kernel_rfl) hf
  obtain ⟨a3, len3, cap3, rfl⟩ := okWide_slice Try.underlying33 (hval 3 33 v3 rfl rfl)
  have k3 := h3
  have lt3 : ∀ x ∈ p3, x.block < W.heap.size := by obtain ⟨m, hm⟩ := k3; exact DataW.trod_lt m _ _ _ hm
  obtain ⟨lc3, cm3, l3, w3⟩ : len3 ≤ cap3 ∧ cap3 ≤ maxLen ∧ ∃ l, BartersAt W a3 len3 l := by
    obtain ⟨fuel, hf⟩ := h3
    exact take_barters hf
  obtain ⟨a4, rfl, rfl, rfl, w4⟩ := open_int Try.underlying3 (hval 4 3 v4 rfl rfl) h4
  obtain ⟨a5, len5, cap5, rfl⟩ := okWide_slice Try.underlying25 (hval 5 25 v5 rfl rfl)
  have k5 := h5
  have lt5 : ∀ x ∈ p5, x.block < W.heap.size := by obtain ⟨m, hm⟩ := k5; exact DataW.trod_lt m _ _ _ hm
  obtain ⟨lc5, cm5, l5, w5⟩ : len5 ≤ cap5 ∧ cap5 ≤ maxLen ∧ ∃ l, RowsAt W a5 len5 l := by
    obtain ⟨fuel, hf⟩ := h5
    exact take_rows hf
  obtain ⟨a6, len6, cap6, rfl⟩ := okWide_slice Try.underlying60 (hval 6 60 v6 rfl rfl)
  have k6 := h6
  have lt6 : ∀ x ∈ p6, x.block < W.heap.size := by obtain ⟨m, hm⟩ := k6; exact DataW.trod_lt m _ _ _ hm
  obtain ⟨lc6, cm6, l6, w6⟩ : len6 ≤ cap6 ∧ cap6 ≤ maxLen ∧ ∃ l, IntsAt .u32 W a6 len6 l ∧ ∀ i ∈ l, (Lit.int .u32 i).wf = true := by
    obtain ⟨fuel, hf⟩ := h6
    exact take_ints Try.underlying60 Try.underlying137 (by kernel_rfl) hf
  clear hA0 hval0
  refine (lawBounded_any a0 len0 cap0 l0 a1 len1 cap1 l1 a2 len2 cap2 l2 a3 len3 cap3 l3 a4 a5 len5 cap5 l5 a6 len6 cap6 l6 W w0 w1 w2.1 w3 w5 (Nat.le_trans lc5 cm5) w6.1 (wf_u32 w6.2) (Nat.le_trans lc0 cm0) (Nat.le_trans lc1 cm1) (Nat.le_trans lc2 cm2) (Nat.le_trans lc3 cm3) (Nat.le_trans lc6 cm6)).mono fun e W' ⟨he, bel⟩ => ?_
  subst he
  exact ⟨_, rfl, _, _, _, [], _, [], hW', trodAll_mk1 (shut_bool Try.underlying4 _), (trodAll_cons_mk (Below.trod laidOut (by kernel_rfl) (of_decide_eq_true (by kernel_rfl)) k0 bel lt0) (trodAll_cons_mk (Below.trod laidOut (by kernel_rfl) (of_decide_eq_true (by kernel_rfl)) k1 bel lt1) (trodAll_cons_mk (Below.trod laidOut (by kernel_rfl) (of_decide_eq_true (by kernel_rfl)) k2 bel lt2) (trodAll_cons_mk (Below.trod laidOut (by kernel_rfl) (of_decide_eq_true (by kernel_rfl)) k3 bel lt3) (trodAll_cons_mk (shut_int Try.underlying3 w4) (trodAll_cons_mk (Below.trod laidOut (by kernel_rfl) (of_decide_eq_true (by kernel_rfl)) k5 bel lt5) (trodAll_cons_mk (Below.trod laidOut (by kernel_rfl) (of_decide_eq_true (by kernel_rfl)) k6 bel lt6) trodAll_mk0))))))), rfl, bel.frame _, fun h => by cases h⟩

theorem over : Rows.marketBoundedRow.holds Try.pinned (OpenSpec.ofChange Rows.marketBoundedSpec) :=
  OpenClaim.holds_of_wide 10 Try.f10 rfl rfl rfl rfl rfl rfl rfl ⟨rfl, rfl, rfl, rfl, rfl⟩ rfl rfl rfl rfl rfl (by kernel_rfl) Try.func10 (by kernel_rfl)
    (of_decide_eq_true (by kernel_rfl)) (by unfold Func.isWrapper; first | (rw [if_pos (by decide +kernel)]; kernel_rfl) | (rw [if_neg (by decide +kernel)]; exact ⟨rfl, rfl⟩))
    (fun os started H enc _ => lifted os started H enc)

theorem proved : Rows.MarketBoundedSaid := over
#print axioms proved
end Go.Proofs.Ytkbhmajcddmhnaa.marketBoundedDone
