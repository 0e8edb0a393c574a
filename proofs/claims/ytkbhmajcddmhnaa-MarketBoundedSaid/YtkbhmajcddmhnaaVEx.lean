/- The chapter's examples: contracts of the functions that make them. -/
import Derived.Test.YtkbhmajcddmhnaaVGr11
import Derived.Test.YtkbhmajcddmhnaaVLawRuns
namespace Go.Proofs.Ytkbhmajcddmhnaa
open Go.RowKit
set_option linter.unusedVariables false
set_option linter.unusedSimpArgs false

theorem flat_get {sz : Nat} : ∀ (rows : List (List Value)), (∀ r ∈ rows, r.length = sz) → ∀ (k j : Nat), j < sz → rows.flatten[k * sz + j]? = (rows[k]?.bind fun r => r[j]?)
  | [], _, k, j, _ => by simp
  | r :: rows, h, 0, j, hj => by
    have hr := h r (List.mem_cons_self ..)
    simp only [List.flatten_cons, Nat.zero_mul, Nat.zero_add, List.getElem?_cons_zero, Option.bind_some]
    rw [List.getElem?_append_left (by omega)]
  | r :: rows, h, k + 1, j, hj => by
    have hr := h r (List.mem_cons_self ..)
    have ih := flat_get rows (fun r hr => h r (List.mem_cons_of_mem _ hr)) k j hj
    simp only [List.flatten_cons, List.getElem?_cons_succ]
    rw [List.getElem?_append_right (by rw [hr, Nat.succ_mul]; omega), hr, show (k + 1) * sz + j - sz = k * sz + j by rw [Nat.succ_mul]; omega]
    exact ih
theorem slAt_block {w : World} {b : Nat} {t : TypeId} {sz : Nat} {rows : List (List Value)} (hb : w.heap[b]? = some (.cells rows.flatten.toArray t (0, 0))) (hr : ∀ r ∈ rows, r.length = sz) : SlAt w sz (some ⟨b, 0, none⟩) rows.length (fun i => rows.getD i []) := by
  intro _
  refine ⟨b, 0, rfl, fun k hk j v hv => ?_⟩
  have hrow : (rows.getD k []).length = sz := by
    simp only [List.getD, List.getElem?_eq_getElem hk, Option.getD_some]
    exact hr _ (List.getElem_mem hk)
  have hj : j < sz := by
    rw [← hrow]
    exact (List.getElem?_eq_some_iff.1 hv).1
  rw [((Ext.refl w).box hb).1, Nat.zero_add, List.getElem?_toArray, flat_get rows hr k j hj]
  simp only [List.getD, List.getElem?_eq_getElem hk, Option.getD_some, Option.bind_some] at hv ⊢
  exact hv

theorem ints_block {w : World} {b : Nat} (l : List Int) (hb : w.heap[b]? = some (.cells (intRows .i64 l).flatten.toArray 3 (0, 0))) : IntsAt .i64 w (some ⟨b, 0, none⟩) l.length l := by
  have := slAt_block hb (fun r hr => (intRows_row _ _ r hr).1)
  rw [show (intRows .i64 l).length = l.length by simp [intRows]] at this
  exact ⟨rfl, this.congr fun i hi => by simp [intRows, List.getD, List.getElem?_map, List.getElem?_eq_getElem hi]⟩
theorem offers_block {w : World} {b : Nat} (l : List Offer) (hb : w.heap[b]? = some (.cells (offerRows l).flatten.toArray 81 (0, 0))) : OffersAt w (some ⟨b, 0, none⟩) l.length l := by
  have := slAt_block hb (fun r hr => (offerRows_row _ r hr).1)
  rw [show (offerRows l).length = l.length by simp [offerRows]] at this
  exact ⟨rfl, this.congr fun i hi => by simp [offerRows, List.getD, List.getElem?_map, List.getElem?_eq_getElem hi]⟩

theorem span_any (lo hi : Int) (w : World) : Calls Try.prog 65 #[.int .i64 lo, .int .i64 hi] w fun e w' => e = .returned (.agg #[.int .i64 lo, .int .i64 hi]) ∧ Ext w w' := by
  go_enter Try.func65, Try.ntmps65
  go_wp2
  refine bodyPost_ret (v := .agg #[.int .i64 lo, .int .i64 hi]) (by simp [results, Try.results65, go_sem]) rfl ⟨rfl, ?_⟩
  exact (Ext.refl _).alloc _
/-- salt -/
def saltL (n : Int) : List Int := [n, 0, 0, 0, 0]
def NewInts (l : List Int) (w : World) (e : Ending) (w' : World) : Prop := ∃ b, e = .returned (.slice (some ⟨b, 0, none⟩) l.length l.length) ∧ Ext w w' ∧ IntsAt .i64 w' (some ⟨b, 0, none⟩) l.length l
theorem salt_any (n : Int) (w : World) : Calls Try.prog 43 #[.int .i64 n] w (NewInts (saltL n) w) := by
  go_enter Try.func43, Try.ntmps43
  go_wp2
  go_ret
  exact ⟨_, rfl, (Ext.refl _).alloc _, ints_block (saltL n) (heap_alloc_new _ _)⟩
/-- offers -/
def exOffers : List Offer := [⟨1, 0, 1, 10, 3, 4, 0, 100⟩, ⟨2, 1, 2, 2, 7, 8, 0, 50⟩, ⟨2, 1, 2, 2, 5, 5, 51, 100⟩, ⟨2, 2, 1, 1, 1, 1, 0, 100⟩]
def NewOffers (l : List Offer) (w : World) (e : Ending) (w' : World) : Prop := ∃ b, e = .returned (.slice (some ⟨b, 0, none⟩) l.length l.length) ∧ Ext w w' ∧ OffersAt w' (some ⟨b, 0, none⟩) l.length l
set_option maxRecDepth 100000 in
theorem offers_any (w : World) : Calls Try.prog 41 #[] w (NewOffers exOffers w) := by
  have hs := fun a b W => span_any a b W
  have Hx := Lib.hid (Ext.refl w)
  have Hs := Lib.hid hs
  clear hs
  go_enter Try.func41, Try.ntmps41
  go_wp2_with (go_at_call 65; refine (Hs.out _ _ _).mono ?_; rintro e w1 ⟨rfl, hx1⟩; have hx2 := Hx.out.trans hx1; clear Hx hx1; have Hx := Lib.hid hx2; clear hx2)
  go_ret
  exact ⟨_, rfl, Hx.out.alloc _, offers_block exOffers (heap_alloc_new _ _)⟩
/-- barters -/
def exBarters (n : Int) : List Barter := [⟨0, 0, 10⟩, ⟨1, 1, n⟩]
theorem barters_block {w : World} {b : Nat} (l : List Barter) (hb : w.heap[b]? = some (.cells (barterRows l).flatten.toArray 46 (0, 0))) : BartersAt w (some ⟨b, 0, none⟩) l.length l := by
  have := slAt_block hb (fun r hr => (barterRows_row _ r hr).1)
  rw [show (barterRows l).length = l.length by simp [barterRows]] at this
  exact ⟨rfl, this.congr fun i hi => by simp [barterRows, List.getD, List.getElem?_map, List.getElem?_eq_getElem hi]⟩
def NewBarters (l : List Barter) (w : World) (e : Ending) (w' : World) : Prop := ∃ b, e = .returned (.slice (some ⟨b, 0, none⟩) l.length l.length) ∧ Ext w w' ∧ BartersAt w' (some ⟨b, 0, none⟩) l.length l
theorem barters_any (n : Int) (w : World) : Calls Try.prog 44 #[.int .i64 n] w (NewBarters (exBarters n) w) := by
  go_enter Try.func44, Try.ntmps44
  go_wp2
  go_ret
  exact ⟨_, rfl, (Ext.refl _).alloc _, barters_block (exBarters n) (heap_alloc_new _ _)⟩
/-- prices -/
def exRow : List Int := [8, 20, 5, 0, 0]
def exPrices : List (List Int) := [exRow, exRow]
def NewRows (l : List (List Int)) (w : World) (e : Ending) (w' : World) : Prop := ∃ b, e = .returned (.slice (some ⟨b, 0, none⟩) l.length l.length) ∧ Ext w w' ∧ RowsAt w' (some ⟨b, 0, none⟩) l.length l
theorem prices_any (w : World) : Calls Try.prog 45 #[] w (NewRows exPrices w) := by
  go_enter Try.func45, Try.ntmps45
  go_wp2
  go_ret
  have hx1 : Ext w (w.alloc (.cells #[.int .i64 8, .int .i64 20, .int .i64 5, .int .i64 0, .int .i64 0] 3)) := (Ext.refl _).alloc _
  have h1 := heap_alloc_new w (.cells #[.int .i64 8, .int .i64 20, .int .i64 5, .int .i64 0, .int .i64 0] 3)
  have hs1 : (w.alloc (.cells #[.int .i64 8, .int .i64 20, .int .i64 5, .int .i64 0, .int .i64 0] 3)).heap.size = w.heap.size + 1 := by simp
  generalize w.alloc (.cells #[.int .i64 8, .int .i64 20, .int .i64 5, .int .i64 0, .int .i64 0] 3) = w1 at *
  have hx2 : Ext w1 (w1.alloc (.cells #[.int .i64 8, .int .i64 20, .int .i64 5, .int .i64 0, .int .i64 0] 3)) := (Ext.refl _).alloc _
  have h2 := heap_alloc_new w1 (.cells #[.int .i64 8, .int .i64 20, .int .i64 5, .int .i64 0, .int .i64 0] 3)
  have hs2 : (w1.alloc (.cells #[.int .i64 8, .int .i64 20, .int .i64 5, .int .i64 0, .int .i64 0] 3)).heap.size = w.heap.size + 2 := by simp [hs1]
  rw [hs1] at h2
  generalize w1.alloc (.cells #[.int .i64 8, .int .i64 20, .int .i64 5, .int .i64 0, .int .i64 0] 3) = w2 at *
  have hx3 : Ext w2 (w2.alloc (.cells #[.slice (some ⟨w.heap.size, 0, none⟩) 5 5, .slice (some ⟨w.heap.size + 1, 0, none⟩) 5 5] 24)) := (Ext.refl _).alloc _
  have h3 := heap_alloc_new w2 (.cells #[.slice (some ⟨w.heap.size, 0, none⟩) 5 5, .slice (some ⟨w.heap.size + 1, 0, none⟩) 5 5] 24)
  rw [hs2] at h3
  generalize w2.alloc (.cells #[.slice (some ⟨w.heap.size, 0, none⟩) 5 5, .slice (some ⟨w.heap.size + 1, 0, none⟩) 5 5] 24) = w3 at *
  have c3 := ((Ext.refl w3).box h3).1
  have i1 : IntsAt .i64 w3 (some ⟨w.heap.size, 0, none⟩) 5 exRow := (ints_block exRow h1).ext (hx2.trans hx3)
  have i2 : IntsAt .i64 w3 (some ⟨w.heap.size + 1, 0, none⟩) 5 exRow := (ints_block exRow h2).ext hx3
  refine ⟨w.heap.size + 2, rfl, hx1.trans (hx2.trans hx3), rfl, fun _ => ⟨_, 0, rfl, fun k r hk => ?_⟩⟩
  have hm : 5 ≤ maxLen := by unfold maxLen; omega
  match k, hk with
  | 0, hk => cases hk; exact ⟨_, 5, 5, fun j v hj => by (match j, hj with | 0, hj => cases hj; exact c3 0 | j + 1, hj => simp at hj), Nat.le_refl _, hm, i1⟩
  | 1, hk => cases hk; exact ⟨_, 5, 5, fun j v hj => by (match j, hj with | 0, hj => cases hj; exact c3 1 | j + 1, hj => simp at hj), Nat.le_refl _, hm, i2⟩
  | k + 2, hk => simp [exPrices] at hk
/-- trip -/
def exKeeps : List Span := [⟨1000, 1000⟩, ⟨900, 1000⟩, ⟨500, 500⟩, ⟨500, 500⟩, ⟨500, 500⟩]
def exTrip : List Fair := [⟨1, 40, exKeeps⟩, ⟨2, 45, exKeeps⟩]
def NewTrip (l : List Fair) (w : World) (e : Ending) (w' : World) : Prop := ∃ b, e = .returned (.slice (some ⟨b, 0, none⟩) l.length l.length) ∧ Ext w w' ∧ FairsAt w' (some ⟨b, 0, none⟩) l.length l
/-- two fairs in a block, their keeps elsewhere -/
def TripAt (w : World) (b : Nat) (d1 d2 : Int) : Prop :=
  ∃ k1 k2 c1 c2, w.heap[b]? = some (.cells #[.int .i64 1, .int .i64 d1, .slice k1 5 c1, .int .i64 2, .int .i64 d2, .slice k2 5 c2] 83 (0, 0)) ∧ 5 ≤ c1 ∧ c1 ≤ maxLen ∧ 5 ≤ c2 ∧ c2 ≤ maxLen ∧
    SpansAt w k1 5 exKeeps ∧ SpansAt w k2 5 exKeeps ∧ (∀ x, k1 = some x → x.block ≠ b) ∧ ∀ x, k2 = some x → x.block ≠ b
def RawTrip (w : World) (e : Ending) (w' : World) : Prop := ∃ b, e = .returned (.slice (some ⟨b, 0, none⟩) 2 2) ∧ Ext w w' ∧ w.heap.size ≤ b ∧ TripAt w' b 40 45
theorem TripAt.fairs {w : World} {b : Nat} {d1 d2 : Int} (h : TripAt w b d1 d2) : FairsAt w (some ⟨b, 0, none⟩) 2 [⟨1, d1, exKeeps⟩, ⟨2, d2, exKeeps⟩] := by
  obtain ⟨k1, k2, c1, c2, hb, m1, m2, m3, m4, s1, s2, _, _⟩ := h
  have c7 := ((Ext.refl w).box hb).1
  refine ⟨rfl, fun _ => ⟨_, 0, rfl, fun k f hk => ?_⟩⟩
  match k, hk with
  | 0, hk => cases hk; exact ⟨_, 5, c1, fun j v hj => by (match j, hj with | 0, hj => cases hj; exact c7 0 | 1, hj => cases hj; exact c7 1 | 2, hj => cases hj; exact c7 2 | j + 3, hj => simp at hj), m1, m2, s1⟩
  | 1, hk => cases hk; exact ⟨_, 5, c2, fun j v hj => by (match j, hj with | 0, hj => cases hj; exact c7 3 | 1, hj => cases hj; exact c7 4 | 2, hj => cases hj; exact c7 5 | j + 3, hj => simp at hj), m3, m4, s2⟩
  | k + 2, hk => simp at hk
theorem TripAt.ext {w w' : World} {b : Nat} {d1 d2 : Int} (h : TripAt w b d1 d2) (e : Ext w w') : TripAt w' b d1 d2 := by
  obtain ⟨k1, k2, c1, c2, hb, m1, m2, m3, m4, s1, s2, n1, n2⟩ := h
  exact ⟨k1, k2, c1, c2, e.heap hb, m1, m2, m3, m4, s1.ext e, s2.ext e, n1, n2⟩
theorem SlAt.other {w : World} {sz : Nat} {a : Option Addr} {n : Nat} {f : Nat → List Value} (h : SlAt w sz a n f) {b i : Nat} (hb : ∀ x, a = some x → x.block ≠ b) (v : Value) : SlAt (w.setCell ⟨b, i, none⟩ v) sz a n f :=
  h.same fun x hx => heap_setCell_other _ _ _ _ (by simpa using hb x hx)
theorem TripAt.late {w : World} {b : Nat} {d1 d2 : Int} (h : TripAt w b d1 d2) (d : Int) : TripAt (w.setCell ⟨b, 4, none⟩ (.int .i64 d)) b d1 d := by
  obtain ⟨k1, k2, c1, c2, hb, m1, m2, m3, m4, s1, s2, n1, n2⟩ := h
  exact ⟨k1, k2, c1, c2, by rw [heap_setCell_box, hb]; rfl, m1, m2, m3, m4, ⟨s1.1, s1.2.other n1 _⟩, ⟨s2.1, s2.2.other n2 _⟩, n1, n2⟩
theorem spans_block {w : World} {b : Nat} (l : List Span) (hb : w.heap[b]? = some (.cells (spanRows l).flatten.toArray 70 (0, 0))) : SpansAt w (some ⟨b, 0, none⟩) l.length l := by
  have := slAt_block hb (fun r hr => (spanRows_row _ r hr).1)
  rw [show (spanRows l).length = l.length by simp [spanRows]] at this
  exact ⟨rfl, this.congr fun i hi => by simp [spanRows, List.getD, List.getElem?_map, List.getElem?_eq_getElem hi]⟩
set_option maxRecDepth 100000 in
theorem trip_raw (w : World) : Calls Try.prog 42 #[] w (RawTrip w) := by
  have hs := fun a b W => span_any a b W
  have Hs := Lib.hid hs
  clear hs
  go_enter Try.func42, Try.ntmps42
  go_wp2_with (go_at_call 65; refine (Hs.out _ _ _).mono ?_; rintro e w1 ⟨rfl, hx1⟩)
  have hb := heap_alloc_new w1 (.cells #[.int .i64 500, .int .i64 500] 70)
  have hxb := hx1.alloc (.cells #[.int .i64 500, .int .i64 500] 70)
  generalize w1.alloc (.cells #[.int .i64 500, .int .i64 500] 70) = w2 at *
  have Hxb := Lib.hid hxb
  clear hxb
  clear hx1
  refine wp_region_tree (.take [2, 3, 4] (.one 0 (.one 1 (.one 5 (.take [6] .done))))) (Ext w2) _ (by kernel_rfl) (by kernel_rfl) rfl ((Ext.refl _).drew) ?_
  intro ι _ f hf hs
  have f0 := fun q => ((hf q).box hb).1
  have HS := Lib.hid hs
  clear hf hs
  simp only [treeOf, oneOp, twoOp, opsOf, consOp, List.getElem?_toArray, List.getElem?_cons_succ, List.getElem?_cons_zero]
  refine wpOT_take ?_
  repeat (go_big_quiet_step (fail))
  refine wpQuiet_nil ?_
  refine wpOT_one ?_
  go_wp2_with (go_at_call 65; refine (Hs.out _ _ _).mono ?_; rintro e w3 ⟨rfl, hx3⟩)
  refine ⟨HS.out _ ((Ext.refl _).drew.trans hx3), ?_⟩
  refine wpOT_one ?_
  go_wp2_with (go_at_call 65; refine (Hs.out _ _ _).mono ?_; rintro e w4 ⟨rfl, hx4⟩)
  refine ⟨HS.out _ ((Ext.refl _).drew.trans (hx3.trans hx4)), ?_⟩
  refine wpOT_one ?_
  go_wp2_with fail
  refine ⟨HS.out _ (((Ext.refl _).drew.trans (hx3.trans hx4)).alloc _), ?_⟩
  refine wpOT_take ?_
  repeat (go_big_quiet_step (fail))
  refine wpQuiet_nil ?_
  refine wpOT_done ?_
  clear f0 HS
  have hk4 : Ext w2 (w4.alloc (.cells #[.int .i64 1000, .int .i64 1000, .int .i64 900, .int .i64 1000, .int .i64 500, .int .i64 500, .int .i64 500, .int .i64 500, .int .i64 500, .int .i64 500] 70)) := ((Ext.refl _).drew.trans (hx3.trans hx4)).alloc _
  have hk := heap_alloc_new w4 (.cells #[.int .i64 1000, .int .i64 1000, .int .i64 900, .int .i64 1000, .int .i64 500, .int .i64 500, .int .i64 500, .int .i64 500, .int .i64 500, .int .i64 500] 70)
  generalize w4.alloc (.cells #[.int .i64 1000, .int .i64 1000, .int .i64 900, .int .i64 1000, .int .i64 500, .int .i64 500, .int .i64 500, .int .i64 500, .int .i64 500, .int .i64 500] 70) = w5 at *
  obtain ⟨kb, hkb⟩ : ∃ kb, w4.heap.size = kb := ⟨_, rfl⟩
  rw [hkb] at hk
  rw [hkb]
  have hsp : SpansAt w5 (some ⟨kb, 0, none⟩) 5 exKeeps := spans_block exKeeps hk
  have hxw5 := Hxb.out.trans hk4
  have hemp := Owns.empty w5 w5.heap.size 70 2 (Nat.le_refl _)
  have hsrc := (hsp.ext ((Ext.refl w5).alloc (.cells #[] 70))).src
  have Hsp := Lib.hid hsp
  have Hxw5 := Lib.hid hxw5
  have Hemp := Lib.hid hemp
  have Hsrc := Lib.hid hsrc
  clear hsp hxw5 hemp hsrc
  clear hk hk4 hkb hx3 hx4
  go_wp2_with (at_builtin; refine wpList_app elem35 _ rfl (.tmp 12) (.tmp 13) rfl w5.heap.size _ [] rfl Hemp.out (some ⟨kb, 0, none⟩) 5 5 (spanRows exKeeps) rfl rfl Hsrc.out (spanRows_row _) ?_ ?_ ?_)
  · simp
  · simp
  · intro v6 w6 ho6 hg6 _
    have hx6 : Ext w5 w6 := ((Ext.refl w5).alloc (.cells #[] 70)).app Hemp.out hg6
    try rw [List.nil_append] at ho6
    obtain ⟨a6, c6, hv6, _, hk1, hk2, hsp6⟩ := spans_of_owns ho6
    rw [show exKeeps.length = 5 from rfl] at hv6 hk1 hsp6
    subst hv6
    have Hsp6 := Lib.hid hsp6
    have Hx6 := Lib.hid hx6
    clear hsp6 hx6
    clear ho6 hg6
    go_wp2_with fail
    go_ret
    have hb7 := heap_alloc_new w6 (.cells #[.int .i64 1, .int .i64 40, .slice (some ⟨kb, 0, none⟩) 5 5, .int .i64 2, .int .i64 45, .slice a6 5 c6] 83)
    have hx7 : Ext w6 (w6.alloc (.cells #[.int .i64 1, .int .i64 40, .slice (some ⟨kb, 0, none⟩) 5 5, .int .i64 2, .int .i64 45, .slice a6 5 c6] 83)) := (Ext.refl _).alloc _
    generalize w6.alloc (.cells #[.int .i64 1, .int .i64 40, .slice (some ⟨kb, 0, none⟩) 5 5, .int .i64 2, .int .i64 45, .slice a6 5 c6] 83) = w7 at *
    have hm : 5 ≤ maxLen := by unfold maxLen; omega
    have hkb : kb < w6.heap.size := by
      obtain ⟨b', o', e, hk⟩ := (Hsp.out.ext Hx6.out).2 (by omega)
      cases e
      exact block_lt_of_cell (hk 0 (by omega) 0 _ rfl)
    have hlt6 : ∀ x, a6 = some x → x.block ≠ w6.heap.size := fun x hx => by
      obtain ⟨b', o', e, hk⟩ := Hsp6.out.2 (by omega)
      rw [hx] at e
      cases e
      exact Nat.ne_of_lt (block_lt_of_cell (hk 0 (by omega) 0 _ rfl))
    exact ⟨_, rfl, Hxw5.out.trans (Hx6.out.trans hx7), (Hxw5.out.trans Hx6.out).size, _, _, 5, c6, hb7, Nat.le_refl _, hm, hk1, hk2, Hsp.out.ext (Hx6.out.trans hx7), Hsp6.out.ext hx7, fun x hx => by cases hx; exact Nat.ne_of_lt hkb, hlt6⟩
theorem trip_any (w : World) : Calls Try.prog 42 #[] w (NewTrip exTrip w) :=
  (trip_raw w).mono fun e w' ⟨b, he, hx, _, ht⟩ => ⟨b, he, hx, ht.fairs⟩
end Go.Proofs.Ytkbhmajcddmhnaa
