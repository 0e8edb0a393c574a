/- Contracts of the reference's comparisons: equal lists give true. -/
import Derived.Test.YtkbhmajcddmhnaaVGr5
namespace Go.Proofs.Ytkbhmajcddmhnaa
open Go.RowKit
set_option linter.unusedVariables false

set_option maxHeartbeats 1000000 in
theorem same_ints (a b : Option Addr) (n ca cb : Nat) (l : List Int) (w : World) (ha : IntsAt .i64 w a n l) (hb : IntsAt .i64 w b n l) (hn : n ≤ 1000000) :
    Calls Try.prog 27 #[.slice a n ca, .slice b n cb] w fun e w' => e = .returned (.bool true) ∧ Ext w w' := by
  have Ha := Lib.hid ha
  have Hb := Lib.hid hb
  clear ha hb
  go_enter Try.func27, Try.ntmps27
  go_wp2_with fail
  go_loopw [5] (fun i wr => ∃ k : Nat, k ≤ n ∧ i = .int .i64 k ∧ Ext w wr) (fun i _ => n - (intOf i).toNat)
  case atStart => exact ⟨0, Nat.zero_le _, rfl, Ext.refl _⟩
  case round =>
    obtain ⟨k, hk, rfl, hx⟩ := hrel
    by_cases hlt : k < n
    · obtain ⟨ba, oa, x, rfl, hx1, hba, e0⟩ := (Ha.out.ext hx).get k hlt
      obtain ⟨bb, ob, y, rfl, hx2, hbb, d0⟩ := (Hb.out.ext hx).get k hlt
      obtain rfl : x = y := by rw [hx1] at hx2; cases hx2; rfl
      have hlt' : decide ((k : Int) < (n : Int)) = true := by simp; omega
      clear hx1 hx2
      go_wp2_with fail
      go_quiet (fail)
      go_wp2_with fail
      go_roundw
      case rel => exact ⟨k + 1, by omega, by go_num, hx.drewN _⟩
      case measure => simp [intOf]; omega
    · have hlt' : decide ((k : Int) < (n : Int)) = false := by simp; omega
      go_wp2_with fail
      go_ret
      exact ⟨rfl, hx⟩

set_option maxHeartbeats 1000000 in
theorem same_spans (a b : Option Addr) (n ca cb : Nat) (l : List Span) (w : World) (ha : SpansAt w a n l) (hb : SpansAt w b n l) (hn : n ≤ 1000000) :
    Calls Try.prog 21 #[.slice a n ca, .slice b n cb] w fun e w' => e = .returned (.bool true) ∧ Ext w w' := by
  have Ha := Lib.hid ha
  have Hb := Lib.hid hb
  clear ha hb
  go_enter Try.func21, Try.ntmps21
  go_wp2_with fail
  go_loopw [5] (fun i wr => ∃ k : Nat, k ≤ n ∧ i = .int .i64 k ∧ Ext w wr) (fun i _ => n - (intOf i).toNat)
  case atStart => exact ⟨0, Nat.zero_le _, rfl, Ext.refl _⟩
  case round =>
    obtain ⟨k, hk, rfl, hx⟩ := hrel
    by_cases hlt : k < n
    · obtain ⟨ba, oa, x, rfl, hx1, hba, e0, e1⟩ := (Ha.out.ext hx).get k hlt
      obtain ⟨bb, ob, y, rfl, hx2, hbb, d0, d1⟩ := (Hb.out.ext hx).get k hlt
      obtain rfl : x = y := by rw [hx1] at hx2; cases hx2; rfl
      have hlt' : decide ((k : Int) < (n : Int)) = true := by simp; omega
      clear hx1 hx2
      go_wp2_with fail
      go_quiet (fail)
      go_wp2_with fail
      go_roundw
      case rel => exact ⟨k + 1, by omega, by go_num, hx.drewN _⟩
      case measure => simp [intOf]; omega
    · have hlt' : decide ((k : Int) < (n : Int)) = false := by simp; omega
      go_wp2_with fail
      go_ret
      exact ⟨rfl, hx⟩

set_option maxHeartbeats 1000000 in
theorem same_losses (a b : Option Addr) (n ca cb : Nat) (l : List Loss) (w : World) (ha : LossesAt w a n l) (hb : LossesAt w b n l) (hn : n ≤ 1000000) :
    Calls Try.prog 22 #[.slice a n ca, .slice b n cb] w fun e w' => e = .returned (.bool true) ∧ Ext w w' := by
  have Ha := Lib.hid ha
  have Hb := Lib.hid hb
  clear ha hb
  go_enter Try.func22, Try.ntmps22
  go_wp2_with fail
  go_loopw [5] (fun i wr => ∃ k : Nat, k ≤ n ∧ i = .int .i64 k ∧ Ext w wr) (fun i _ => n - (intOf i).toNat)
  case atStart => exact ⟨0, Nat.zero_le _, rfl, Ext.refl _⟩
  case round =>
    obtain ⟨k, hk, rfl, hx⟩ := hrel
    by_cases hlt : k < n
    · obtain ⟨ba, oa, x, rfl, hx1, hba, e0, e1, e2, e3⟩ := (Ha.out.ext hx).get k hlt
      obtain ⟨bb, ob, y, rfl, hx2, hbb, d0, d1, d2, d3⟩ := (Hb.out.ext hx).get k hlt
      obtain rfl : x = y := by rw [hx1] at hx2; cases hx2; rfl
      have hlt' : decide ((k : Int) < (n : Int)) = true := by simp; omega
      clear hx1 hx2
      go_wp2_with fail
      go_quiet (fail)
      go_wp2_with fail
      go_roundw
      case rel => exact ⟨k + 1, by omega, by go_num, hx.drewN _⟩
      case measure => simp [intOf]; omega
    · have hlt' : decide ((k : Int) < (n : Int)) = false := by simp; omega
      go_wp2_with fail
      go_ret
      exact ⟨rfl, hx⟩

set_option maxHeartbeats 1000000 in
theorem same_offers (a b : Option Addr) (n ca cb : Nat) (l : List Offer) (w : World) (ha : OffersAt w a n l) (hb : OffersAt w b n l) (hn : n ≤ 1000000) :
    Calls Try.prog 25 #[.slice a n ca, .slice b n cb] w fun e w' => e = .returned (.bool true) ∧ Ext w w' := by
  have Ha := Lib.hid ha
  have Hb := Lib.hid hb
  clear ha hb
  go_enter Try.func25, Try.ntmps25
  go_wp2_with fail
  go_loopw [5] (fun i wr => ∃ k : Nat, k ≤ n ∧ i = .int .i64 k ∧ Ext w wr) (fun i _ => n - (intOf i).toNat)
  case atStart => exact ⟨0, Nat.zero_le _, rfl, Ext.refl _⟩
  case round =>
    obtain ⟨k, hk, rfl, hx⟩ := hrel
    by_cases hlt : k < n
    · obtain ⟨ba, oa, x, rfl, hx1, hba, e0, e1, e2, e3, e4, e5, e6, e7⟩ := (Ha.out.ext hx).get k hlt
      obtain ⟨bb, ob, y, rfl, hx2, hbb, d0, d1, d2, d3, d4, d5, d6, d7⟩ := (Hb.out.ext hx).get k hlt
      obtain rfl : x = y := by rw [hx1] at hx2; cases hx2; rfl
      have hlt' : decide ((k : Int) < (n : Int)) = true := by simp; omega
      clear hx1 hx2
      go_wp2_with fail
      go_quiet (fail)
      go_wp2_with fail
      go_roundw
      case rel => exact ⟨k + 1, by omega, by go_num, hx.drewN _⟩
      case measure => simp [intOf]; omega
    · have hlt' : decide ((k : Int) < (n : Int)) = false := by simp; omega
      go_wp2_with fail
      go_ret
      exact ⟨rfl, hx⟩

end Go.Proofs.Ytkbhmajcddmhnaa

/- Contracts of the reference: SameTrip (equal trips give true), TwinTrip (a trip in new memory). -/
namespace Go.Proofs.Ytkbhmajcddmhnaa
open Go.RowKit
set_option linter.unusedVariables false
set_option linter.unusedSimpArgs false

set_option maxRecDepth 100000 in
set_option maxHeartbeats 2000000 in
theorem same_trip (a b : Option Addr) (n ca cb : Nat) (l : List Fair) (w : World) (ha : FairsAt w a n l) (hb : FairsAt w b n l) (hn : n ≤ 1000000) (hk : ∀ f ∈ l, f.keeps.length ≤ 1000000) :
    Calls Try.prog 26 #[.slice a n ca, .slice b n cb] w fun e w' => e = .returned (.bool true) ∧ Ext w w' := by
  have Ha := Lib.hid ha
  have Hb := Lib.hid hb
  have Hk := Lib.hid hk
  clear ha hb hk
  go_enter Try.func26, Try.ntmps26
  go_wp2_with fail
  go_loopw [5] (fun i wr => ∃ k : Nat, k ≤ n ∧ i = .int .i64 k ∧ Ext w wr) (fun i _ => n - (intOf i).toNat)
  case atStart => exact ⟨0, Nat.zero_le _, rfl, Ext.refl _⟩
  case round =>
    obtain ⟨k, hk, rfl, hx⟩ := hrel
    by_cases hlt : k < n
    · obtain ⟨ba, oa, x, aa, an, ac, rfl, hx1, hba, e0, e1, e2, _, _, e3⟩ := (Ha.out.ext hx).get k hlt
      obtain ⟨bb, ob, y, da, dn, dc, rfl, hx2, hbb, d0, d1, d2, _, _, d3⟩ := (Hb.out.ext hx).get k hlt
      obtain rfl : x = y := by rw [hx1] at hx2; cases hx2; rfl
      have hkl := Hk.out x (List.mem_of_getElem? hx1)
      obtain rfl : an = dn := by rw [← e3.1, ← d3.1]
      have hs := fun W (hW : Ext wr W) => same_spans aa da an ac dc x.keeps W (e3.ext hW) (d3.ext hW) (by rw [← e3.1]; exact hkl)
      have Hs := Lib.hid hs
      have hlt' : decide ((k : Int) < (n : Int)) = true := by simp; omega
      have Hx := Lib.hid hx
      clear hx1 hx2 e3 d3 hkl hs hx
      go_wp2_with fail
      refine wp_region_ext (by kernel_rfl) (by kernel_rfl) (fun f hf hs => ?_)
      have g0 := fun q => (hf q).cell e0
      have g1 := fun q => (hf q).cell e1
      have g2 := fun q => (hf q).cell e2
      have g3 := fun q => (hf q).cell d0
      have g4 := fun q => (hf q).cell d1
      have g5 := fun q => (hf q).cell d2
      have Hf := Lib.hid hf
      have HS := Lib.hid hs
      clear hf hs
      repeat (go_big_quiet_step ((go_at_call 21; exact Calls.ext_of (Hf.out _) HS.out (Hs.out _ (Hf.out _)))))
      refine wpQuiet_nil ?_
      intro W1 hW1
      clear g0 g1 g2 g3 g4 g5
      go_wp2_with fail
      go_roundw
      case rel => exact ⟨k + 1, by omega, by go_num, Hx.out.trans hW1⟩
      case measure => simp [intOf]; omega
    · have hlt' : decide ((k : Int) < (n : Int)) = false := by simp; omega
      go_wp2_with fail
      go_ret
      exact ⟨rfl, hx⟩

theorem info70 : (Try.prog.info? 70).map (fun i => (i.zero, i.size, i.bytes)) = some (some (.agg #[.int .i64 0, .int .i64 0]), 2, 16) := by kernel_rfl
theorem elem35 : Elem Try.prog 35 70 2 := by
  obtain ⟨i, h1, h2, h3, h4⟩ := info_parts info70
  exact ⟨Try.underlying35, ⟨i, _, _, h1, h2, h3, h4, rfl, by decide⟩, by decide⟩
theorem info83 : (Try.prog.info? 83).map (fun i => (i.zero, i.size, i.bytes)) = some (some (.agg #[.int .i64 0, .int .i64 0, .slice none 0 0]), 3, 40) := by kernel_rfl
theorem elem23 : Elem Try.prog 23 83 3 := by
  obtain ⟨i, h1, h2, h3, h4⟩ := info_parts info83
  exact ⟨Try.underlying23, ⟨i, _, _, h1, h2, h3, h4, rfl, by decide⟩, by decide⟩
theorem info81 : (Try.prog.info? 81).map (fun i => (i.zero, i.size, i.bytes)) = some (some (.agg #[.int .i64 0, .int .i64 0, .int .i64 0, .int .i64 0, .int .i64 0, .int .i64 0, .int .i64 0, .int .i64 0]), 8, 64) := by kernel_rfl
theorem elem22 : Elem Try.prog 22 81 8 := by
  obtain ⟨i, h1, h2, h3, h4⟩ := info_parts info81
  exact ⟨Try.underlying22, ⟨i, _, _, h1, h2, h3, h4, rfl, by decide⟩, by decide⟩
theorem info46 : (Try.prog.info? 46).map (fun i => (i.zero, i.size, i.bytes)) = some (some (.agg #[.int .i64 0, .int .i64 0, .int .i64 0]), 3, 24) := by kernel_rfl
theorem elem33 : Elem Try.prog 33 46 3 := by
  obtain ⟨i, h1, h2, h3, h4⟩ := info_parts info46
  exact ⟨Try.underlying33, ⟨i, _, _, h1, h2, h3, h4, rfl, by decide⟩, by decide⟩

theorem Owns.empty (w : World) (base : Nat) (e : TypeId) (sz : Nat) (hb : base ≤ w.heap.size) : Owns (w.alloc (.cells #[] e)) base e sz (.slice (some ⟨w.heap.size, 0, none⟩) 0 0) [] :=
  ⟨⟨by simp, .inr ⟨w.heap.size, 0, #[], rfl, hb, heap_alloc_new w _, Nat.le_refl _, by decide, by simp, by simp⟩⟩, by simp⟩

def spanRows (l : List Span) : List (List Value) := l.map Span.cells
theorem spanRows_append (l m : List Span) : spanRows (l ++ m) = spanRows l ++ spanRows m := by simp [spanRows]
theorem spanRows_row (l : List Span) : ∀ r ∈ spanRows l, r.length = 2 ∧ ∀ u ∈ r, u.oneCell' = true := by
  intro r hr
  obtain ⟨z, _, rfl⟩ := List.mem_map.1 hr
  exact ⟨rfl, fun u hu => by simp [Span.cells] at hu; rcases hu with rfl | rfl <;> rfl⟩
theorem SpansAt.src {w : World} {a : Option Addr} {n : Nat} {l : List Span} (h : SpansAt w a n l) : SlAt w 2 a n (fun i => (spanRows l).getD i []) :=
  h.2.congr fun i hi => by
    have : i < l.length := by rw [h.1]; exact hi
    simp [spanRows, List.getD, List.getElem?_map, List.getElem?_eq_getElem this]
theorem spans_of_owns {w : World} {B : Nat} {e : TypeId} {v : Value} {l : List Span} (h : Owns w B e 2 v (spanRows l)) : ∃ a c, v = .slice a l.length c ∧ From B a ∧ l.length ≤ c ∧ c ≤ maxLen ∧ SpansAt w a l.length l := by
  obtain ⟨a, c, hv, h0, h1, h2, h3⟩ := h.slAt
  have e : (spanRows l).length = l.length := by simp [spanRows]
  rw [e] at hv h1 h3
  refine ⟨a, c, hv, h0, h1, h2, rfl, h3.congr fun i hi => ?_⟩
  simp [spanRows, List.getD, List.getElem?_map, List.getElem?_eq_getElem hi]
def offerRows (l : List Offer) : List (List Value) := l.map Offer.cells
theorem offerRows_row (l : List Offer) : ∀ r ∈ offerRows l, r.length = 8 ∧ ∀ u ∈ r, u.oneCell' = true := by
  intro r hr
  obtain ⟨z, _, rfl⟩ := List.mem_map.1 hr
  exact ⟨rfl, fun u hu => by simp [Offer.cells] at hu; rcases hu with rfl | rfl | rfl | rfl | rfl | rfl | rfl | rfl <;> rfl⟩
theorem OffersAt.src {w : World} {a : Option Addr} {n : Nat} {l : List Offer} (h : OffersAt w a n l) : SlAt w 8 a n (fun i => (offerRows l).getD i []) :=
  h.2.congr fun i hi => by
    have : i < l.length := by rw [h.1]; exact hi
    simp [offerRows, List.getD, List.getElem?_map, List.getElem?_eq_getElem this]
theorem offers_of_owns {w : World} {B : Nat} {e : TypeId} {v : Value} {l : List Offer} (h : Owns w B e 8 v (offerRows l)) : ∃ a c, v = .slice a l.length c ∧ From B a ∧ l.length ≤ c ∧ c ≤ maxLen ∧ OffersAt w a l.length l := by
  obtain ⟨a, c, hv, h0, h1, h2, h3⟩ := h.slAt
  have e : (offerRows l).length = l.length := by simp [offerRows]
  rw [e] at hv h1 h3
  refine ⟨a, c, hv, h0, h1, h2, rfl, h3.congr fun i hi => ?_⟩
  simp [offerRows, List.getD, List.getElem?_map, List.getElem?_eq_getElem hi]
def barterRows (l : List Barter) : List (List Value) := l.map Barter.cells
theorem barterRows_row (l : List Barter) : ∀ r ∈ barterRows l, r.length = 3 ∧ ∀ u ∈ r, u.oneCell' = true := by
  intro r hr
  obtain ⟨z, _, rfl⟩ := List.mem_map.1 hr
  exact ⟨rfl, fun u hu => by simp [Barter.cells] at hu; rcases hu with rfl | rfl | rfl <;> rfl⟩
theorem BartersAt.src {w : World} {a : Option Addr} {n : Nat} {l : List Barter} (h : BartersAt w a n l) : SlAt w 3 a n (fun i => (barterRows l).getD i []) :=
  h.2.congr fun i hi => by
    have : i < l.length := by rw [h.1]; exact hi
    simp [barterRows, List.getD, List.getElem?_map, List.getElem?_eq_getElem this]
theorem barters_of_owns {w : World} {B : Nat} {e : TypeId} {v : Value} {l : List Barter} (h : Owns w B e 3 v (barterRows l)) : ∃ a c, v = .slice a l.length c ∧ From B a ∧ l.length ≤ c ∧ c ≤ maxLen ∧ BartersAt w a l.length l := by
  obtain ⟨a, c, hv, h0, h1, h2, h3⟩ := h.slAt
  have e : (barterRows l).length = l.length := by simp [barterRows]
  rw [e] at hv h1 h3
  refine ⟨a, c, hv, h0, h1, h2, rfl, h3.congr fun i hi => ?_⟩
  simp [barterRows, List.getD, List.getElem?_map, List.getElem?_eq_getElem hi]

/-- rows of fairs, each with its own keeps -/
def FairRows (w : World) (B : Nat) (blk : Option Nat) (l : List Fair) (rows : List (List Value)) : Prop :=
  rows.length = l.length ∧ ∀ (i : Nat) (f : Fair), l[i]? = some f → ∃ ka kn kc, rows[i]? = some [.int .i64 f.place, .int .i64 f.day, .slice ka kn kc] ∧ kn ≤ kc ∧ kc ≤ maxLen ∧ From B ka ∧ SpansAt w ka kn f.keeps ∧ ∀ x, ka = some x → blk ≠ some x.block ∧ x.block < w.heap.size
theorem FairRows.ext {w w' : World} {B : Nat} {blk : Option Nat} {l : List Fair} {rows : List (List Value)} (h : FairRows w B blk l rows) (e : Ext w w') : FairRows w' B blk l rows :=
  ⟨h.1, fun i f hf => let ⟨ka, kn, kc, h1, h2, h3, h4, h5, h6⟩ := h.2 i f hf; ⟨ka, kn, kc, h1, h2, h3, h4, h5.ext e, fun x hx => ⟨(h6 x hx).1, Nat.lt_of_lt_of_le (h6 x hx).2 e.size⟩⟩⟩
theorem FairRows.kept {w w' : World} {B : Nat} {blk blk' : Option Nat} {l : List Fair} {rows : List (List Value)} (h : FairRows w B blk l rows) (e : w.grownBy w' blk) (hb : blk' = blk ∨ blk' = some w.heap.size) : FairRows w' B blk' l rows :=
  ⟨h.1, fun i f hf => let ⟨ka, kn, kc, h1, h2, h3, h4, h5, h6⟩ := h.2 i f hf
    ⟨ka, kn, kc, h1, h2, h3, h4, ⟨h5.1, h5.2.same fun x hx => e.block x.block (h6 x hx).2 (fun e' => (h6 x hx).1 e'.symm)⟩, fun x hx => ⟨by
      rcases hb with rfl | rfl
      · exact (h6 x hx).1
      · have := (h6 x hx).2
        intro e'
        have := Option.some.inj e'
        omega, Nat.lt_of_lt_of_le (h6 x hx).2 e.size⟩⟩⟩
theorem FairRows.snoc {w : World} {B : Nat} {blk : Option Nat} {l : List Fair} {rows : List (List Value)} (h : FairRows w B blk l rows) {f : Fair} {ka : Option Addr} {kn kc : Nat} (h1 : kn ≤ kc) (h2 : kc ≤ maxLen) (h3 : From B ka) (h4 : SpansAt w ka kn f.keeps) (h5 : ∀ x, ka = some x → blk ≠ some x.block ∧ x.block < w.heap.size) :
    FairRows w B blk (l ++ [f]) (rows ++ [[.int .i64 f.place, .int .i64 f.day, .slice ka kn kc]]) := by
  refine ⟨by simp [h.1], fun i g hg => ?_⟩
  rcases Nat.lt_or_ge i l.length with hi | hi
  · rw [List.getElem?_append_left hi] at hg
    obtain ⟨a, b, c, k1, k2⟩ := h.2 i g hg
    exact ⟨a, b, c, by rw [List.getElem?_append_left (by rw [h.1]; exact hi)]; exact k1, k2⟩
  · have e : i = l.length := by have := (List.getElem?_eq_some_iff.1 hg).1; simp at this; omega
    subst e
    rw [List.getElem?_append_right (Nat.le_refl _)] at hg
    simp at hg
    subst hg
    exact ⟨ka, kn, kc, by rw [List.getElem?_append_right (by rw [h.1]; exact Nat.le_refl _)]; simp [h.1], h1, h2, h3, h4, h5⟩
theorem fairs_of_owns {w : World} {B : Nat} {v : Value} {l : List Fair} {rows : List (List Value)} (h : Owns w B 83 3 v rows) (hr : FairRows w B v.ownBlock l rows) : ∃ a c, v = .slice a l.length c ∧ From B a ∧ l.length ≤ c ∧ c ≤ maxLen ∧ FairsAt w a l.length l := by
  obtain ⟨a, c, hv, h0, h1, h2, h3⟩ := h.slAt
  rw [hr.1] at hv h1 h3
  refine ⟨a, c, hv, h0, h1, h2, rfl, fun hn => ?_⟩
  obtain ⟨b, off, ha, hc⟩ := h3 hn
  refine ⟨b, off, ha, fun k f hf => ?_⟩
  obtain ⟨ka, kn, kc, k1, k2, k3, _, k4, _⟩ := hr.2 k f hf
  have := hc k (List.getElem?_eq_some_iff.1 hf).1
  simp only [List.getD, k1, Option.getD_some] at this
  exact ⟨ka, kn, kc, this, k2, k3, k4⟩

def TwinPost (l : List Fair) (w : World) (e : Ending) (w' : World) : Prop :=
  ∃ a c, e = .returned (.slice a l.length c) ∧ Ext w w' ∧ From w.heap.size a ∧ l.length ≤ c ∧ c ≤ maxLen ∧ FairsAt w' a l.length l

set_option maxRecDepth 100000 in
set_option maxHeartbeats 2000000 in
theorem twin_any (a : Option Addr) (n cap : Nat) (l : List Fair) (w : World) (hl : FairsAt w a n l) (hn : n ≤ 1000000) (hk : ∀ f ∈ l, f.keeps.length ≤ 1000000) :
    Calls Try.prog 18 #[.slice a n cap] w (TwinPost l w) := by
  have hln := hl.1
  have Hl := Lib.hid hl
  have Hk := Lib.hid hk
  have Hln := Lib.hid hln
  clear hl hk hln
  go_enter Try.func18, Try.ntmps18
  go_wp2_with fail
  go_loopw [3, 4] (fun v i wr => ∃ (k : Nat) (rows : List (List Value)), k ≤ n ∧ i = .int .i64 k ∧ Ext w wr ∧ Owns wr w.heap.size 83 3 v rows ∧ FairRows wr w.heap.size v.ownBlock (l.take k) rows) (fun _ i _ => n - (intOf i).toNat)
  case atStart => exact ⟨0, [], Nat.zero_le _, rfl, Ext.refl _, Owns.nil _ _ _ _, by simp, fun i f hf => by simp at hf⟩
  case round =>
    obtain ⟨k, rows, hk, rfl, hx, hown, hrows⟩ := hrel
    by_cases hlt : k < n
    · obtain ⟨b, off, x, ka, kn, kc, rfl, hxk, hb, c0, c1, c2, hkc, hkm, c3⟩ := (Hl.out.ext hx).get k hlt
      have hlt' : decide ((k : Int) < (n : Int)) = true := by simp; omega
      have hkl := Hk.out x (List.mem_of_getElem? hxk)
      rw [c3.1] at hkl
      unfold maxLen at hkm
      have hsz := hx.size
      have Hx := Lib.hid hx
      have Hown := Lib.hid hown
      have Hrows := Lib.hid hrows
      have Hxk := Lib.hid hxk
      have H3 := Lib.hid c3
      clear hx hown hrows hxk c3
      have hemp : Owns ((wr.alloc (.cells #[.int .i64 x.place, .int .i64 x.day, .slice ka kn kc] 83)).alloc (.cells #[] 70)) (wr.heap.size + 1) 70 2 (.slice (some ⟨wr.heap.size + 1, 0, none⟩) 0 0) [] := by
        have := Owns.empty (wr.alloc (.cells #[.int .i64 x.place, .int .i64 x.day, .slice ka kn kc] 83)) (wr.heap.size + 1) 70 2 (by simp)
        simpa using this
      have hsrc : SlAt ((wr.alloc (.cells #[.int .i64 x.place, .int .i64 x.day, .slice ka kn kc] 83)).alloc (.cells #[] 70)) 2 ka kn (fun i => (spanRows x.keeps).getD i []) := ((H3.out.ext ((Ext.refl _).alloc _)).ext ((Ext.refl _).alloc _)).src
      have hbx : (wr.alloc (.cells #[.int .i64 x.place, .int .i64 x.day, .slice ka kn kc] 83)).heap[wr.heap.size]? = some (.cells #[.int .i64 x.place, .int .i64 x.day, .slice ka kn kc] 83 (0, 0)) := heap_alloc_new wr _
      have hx1 : Ext wr (wr.alloc (.cells #[.int .i64 x.place, .int .i64 x.day, .slice ka kn kc] 83)) := (Ext.refl _).alloc _
      have hx2 : Ext (wr.alloc (.cells #[.int .i64 x.place, .int .i64 x.day, .slice ka kn kc] 83)) ((wr.alloc (.cells #[.int .i64 x.place, .int .i64 x.day, .slice ka kn kc] 83)).alloc (.cells #[] 70)) := (Ext.refl _).alloc _
      have Hemp := Lib.hid hemp
      have Hsrc := Lib.hid hsrc
      have Hbx := Lib.hid hbx
      have Hx1 := Lib.hid hx1
      have Hx2 := Lib.hid hx2
      clear hemp hsrc hbx hx1 hx2
      go_wp2_with (at_builtin; refine wpList_app elem35 _ rfl (.tmp 16) (.tmp 18) rfl (wr.heap.size + 1) _ [] rfl Hemp.out ka kn kc (spanRows x.keeps) rfl ?_ Hsrc.out (spanRows_row _) ?_ ?_ ?_)
      · have := H3.out.1; simpa [spanRows] using this
      · simp only [List.length_nil]; omega
      · simp
      · intro v' w2 ho2 hg2 _
        try rw [List.nil_append] at ho2
        have hx3 : Ext (wr.alloc (.cells #[.int .i64 x.place, .int .i64 x.day, .slice ka kn kc] 83)) w2 := by
          have h := Hemp.out
          rw [show wr.heap.size + 1 = (wr.alloc (.cells #[.int .i64 x.place, .int .i64 x.day, .slice ka kn kc] 83)).heap.size by simp] at h
          exact Hx2.out.app (v := .slice (some ⟨(wr.alloc (.cells #[.int .i64 x.place, .int .i64 x.day, .slice ka kn kc] 83)).heap.size, 0, none⟩) 0 0) h (by simpa [Value.ownBlock] using hg2)
        obtain ⟨bc, bf⟩ := hx3.box Hbx.out
        have hb2 := hx3.heap Hbx.out
        obtain ⟨a', c', rfl, hfr, hk1, hk2, hsp⟩ := spans_of_owns ho2
        have hlt2 : ∀ y, a' = some y → y.block < w2.heap.size := fun y hy => (ho2.lt y.block (by rw [hy]; rfl)).2
        have Hsp := Lib.hid (And.intro hsp (And.intro hfr (And.intro hk1 (And.intro hk2 hlt2))))
        have Hx3 := Lib.hid hx3
        have Hb2 := Lib.hid hb2
        clear ho2 hg2 hx3 hb2 hsp hfr hk1 hk2 hlt2 c0 c1 c2
        generalize hW1 : wr.alloc (.cells #[.int .i64 x.place, .int .i64 x.day, .slice ka kn kc] 83) = W1 at *
        clear hW1
        have hwr2 : wr.heap.size < w2.heap.size := by have := (Array.getElem?_eq_some_iff.1 Hb2.out).1; exact this
        have hx4 : Ext wr ((w2.setCell ⟨wr.heap.size, 2, none⟩ (.slice a' x.keeps.length c')).alloc (.cells #[.int .i64 x.place, .int .i64 x.day, .slice a' x.keeps.length c'] 83)) := ((Hx1.out.trans Hx3.out).setCell (p := ⟨wr.heap.size, 2, none⟩) (Nat.le_refl _) _).alloc _
        have hsz4 : (w2.setCell ⟨wr.heap.size, 2, none⟩ (.slice a' x.keeps.length c')).heap.size = w2.heap.size := by simp [World.setCell]
        have hown4 := Hown.out.ext hx4
        have hsp4 : SpansAt ((w2.setCell ⟨wr.heap.size, 2, none⟩ (.slice a' x.keeps.length c')).alloc (.cells #[.int .i64 x.place, .int .i64 x.day, .slice a' x.keeps.length c'] 83)) a' x.keeps.length x.keeps :=
          SpansAt.ext ⟨Hsp.out.1.1, Hsp.out.1.2.same fun y hy => Below.heap_setCell _ _ _ _ (by have := Hsp.out.2.1 y hy; simp only; omega)⟩ ((Ext.refl _).alloc _)
        have hrows4 : FairRows ((w2.setCell ⟨wr.heap.size, 2, none⟩ (.slice a' x.keeps.length c')).alloc (.cells #[.int .i64 x.place, .int .i64 x.day, .slice a' x.keeps.length c'] 83)) w.heap.size u3.ownBlock (l.take k ++ [x]) (rows ++ [[.int .i64 x.place, .int .i64 x.day, .slice a' x.keeps.length c']]) := by
          refine (Hrows.out.ext hx4).snoc Hsp.out.2.2.1 Hsp.out.2.2.2.1 (Hsp.out.2.1.mono (by omega)) hsp4 fun y hy => ⟨fun e => ?_, ?_⟩
          · have h1 := (Hown.out.lt _ e).2
            have h2 := Hsp.out.2.1 y hy
            omega
          · have := Hsp.out.2.2.2.2 y hy
            have h4 := (Ext.refl (w2.setCell ⟨wr.heap.size, 2, none⟩ (.slice a' x.keeps.length c'))).alloc (.cells #[.int .i64 x.place, .int .i64 x.day, .slice a' x.keeps.length c'] 83)
            have := h4.size
            omega
        have htk : l.take (k + 1) = l.take k ++ [x] := by rw [List.take_add_one, Hxk.out]; rfl
        rw [← htk] at hrows4
        have hcell4 := fun j => cell_of_row _ _ j _ 83 (0, 0) (heap_alloc_new (w2.setCell ⟨wr.heap.size, 2, none⟩ (.slice a' x.keeps.length c')) (.cells #[.int .i64 x.place, .int .i64 x.day, .slice a' x.keeps.length c'] 83))
        rw [hsz4] at hcell4
        have hsz5 : ((w2.setCell ⟨wr.heap.size, 2, none⟩ (.slice a' x.keeps.length c')).alloc (.cells #[.int .i64 x.place, .int .i64 x.day, .slice a' x.keeps.length c'] 83)).heap.size = w2.heap.size + 1 := by simp [World.setCell]
        have Hsz5 := Lib.hid hsz5
        clear hsz5
        have hrl := Hrows.out.1
        have Hx4 := Lib.hid hx4
        have Hown4 := Lib.hid hown4
        have Hrows4 := Lib.hid hrows4
        have Hcell4 := Lib.hid hcell4
        have Hrl := Lib.hid hrl
        clear hx4 hown4 hsp4 hrows4 htk hcell4 hsz4 hrl
        go_wp2_with (at_builtin; refine wpList_app elem23 _ rfl (.tmp 21) (.tmp 23) rfl w.heap.size _ rows rfl Hown4.out (some ⟨w2.heap.size, 0, none⟩) 1 1 [[.int .i64 x.place, .int .i64 x.day, .slice a' x.keeps.length c']] rfl rfl (slAt_one ?_) ?_ ?_ ?_ ?_)
        · intro j u hj
          simp only [Nat.zero_add]
          rw [Hcell4.out j]
          simpa using hj
        · intro r hr
          simp at hr
          subst hr
          exact ⟨rfl, fun u hu => by simp at hu; rcases hu with rfl | rfl | rfl <;> rfl⟩
        · rw [Hrl.out]; have := List.length_take_le k l; omega
        · have := Hx4.out.size; omega
        · intro v5 w5 ho5 hg5 hb5
          have hx5 : Ext w w5 := (Hx.out.trans Hx4.out).app Hown4.out hg5
          have hr5 := Hrows4.out.kept hg5 (by rw [Hsz5.out]; exact hb5)
          clear bc bf
          go_wp2_with fail
          go_roundw
          case rel => exact ⟨k + 1, _, by omega, by go_num, hx5, ho5, hr5⟩
          case measure => simp [intOf]; omega
    · have hlt' : decide ((k : Int) < (n : Int)) = false := by simp; omega
      obtain rfl : k = n := by omega
      have Hx := Lib.hid hx
      have Hown := Lib.hid hown
      have Hrows := Lib.hid hrows
      clear hx hown hrows
      go_wp2_with fail
      go_ret
      have hr := Hrows.out
      rw [List.take_of_length_le (by have := Hln.out; omega)] at hr
      obtain ⟨a', c', rfl, h1, h2, h3, h4⟩ := fairs_of_owns Hown.out hr
      exact ⟨a', c', rfl, Hx.out, h1, h2, h3, h4⟩
end Go.Proofs.Ytkbhmajcddmhnaa
