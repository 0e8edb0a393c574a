/- narrow: offers and a trip that are known better. -/
import Derived.Test.YtkbhmajcddmhnaaVGr13
import Derived.Test.YtkbhmajcddmhnaaVGr15
namespace Go.Proofs.Ytkbhmajcddmhnaa
open Go.RowKit
set_option linter.unusedVariables false
set_option linter.unusedSimpArgs false

theorem Within.trans {a b c : Span} (h : Within a b) (k : Within b c) : Within a c := ⟨Int.le_trans h.1 k.1, k.2.1, Int.le_trans k.2.2 h.2.2⟩
theorem NarO.refl {l : List Offer} (ho : offersOk l = true) : NarO l l := ⟨rfl, fun i o hi => by
  obtain ⟨gi, ge, hgi, hge, hgi5, hge5, hgne, hu1, hu2, hlo1, hlo2, hhi, _⟩ := offer_bounds ho hi
  exact ⟨⟨o.lo, o.hi⟩, ⟨Int.le_refl _, hlo2, Int.le_refl _⟩, hi⟩⟩
theorem NarO.set {l m : List Offer} (h : NarO l m) {i : Nat} {o : Offer} (ho : m[i]? = some o) {t : Span} (ht : Within ⟨o.lo, o.hi⟩ t) : NarO l (m.set i (o.for_ t)) := by
  refine ⟨by rw [List.length_set]; exact h.1, fun j x hx => ?_⟩
  obtain ⟨s, hs, hj⟩ := h.2 j x hx
  by_cases e : i = j
  · subst e
    rw [hj] at ho
    cases ho
    exact ⟨t, hs.trans ht, List.getElem?_set_self (List.getElem?_eq_some_iff.1 hj).1⟩
  · exact ⟨s, hs, by rw [List.getElem?_set_ne e]; exact hj⟩
theorem NarT.refl {fs : List Fair} (ht : tripOk fs = true) : NarT fs fs := ⟨rfl, fun i f hi => ⟨f.keeps, ⟨rfl, fun g s hs => by
  obtain ⟨_, _, _, _, _, h⟩ := fair_bounds ht hi
  obtain ⟨h1, h2, h3⟩ := h g s hs
  exact ⟨s, ⟨Int.le_refl _, h2, Int.le_refl _⟩, hs⟩⟩, hi⟩⟩
theorem NarT.set {fs m : List Fair} (h : NarT fs m) {i g : Nat} {f : Fair} {s t : Span} (hf : m[i]? = some f) (hs : f.keeps[g]? = some s) (ht : Within s t) : NarT fs (m.set i { f with keeps := f.keeps.set g t }) := by
  refine ⟨by rw [List.length_set]; exact h.1, fun j x hx => ?_⟩
  obtain ⟨ks, hk, hj⟩ := h.2 j x hx
  by_cases e : i = j
  · subst e
    rw [hj] at hf
    cases hf
    refine ⟨ks.set g t, ⟨by rw [List.length_set]; exact hk.1, fun q z hz => ?_⟩, List.getElem?_set_self (List.getElem?_eq_some_iff.1 hj).1⟩
    obtain ⟨y, hy, hq⟩ := hk.2 q z hz
    by_cases e2 : g = q
    · subst e2
      simp only at hs
      rw [hq] at hs
      cases hs
      exact ⟨t, hy.trans ht, List.getElem?_set_self (List.getElem?_eq_some_iff.1 hq).1⟩
    · exact ⟨y, hy, by rw [List.getElem?_set_ne e2]; exact hq⟩
  · exact ⟨ks, hk, by rw [List.getElem?_set_ne e]; exact hj⟩
theorem NarO.bounds {l m : List Offer} (h : NarO l m) (ho : offersOk l = true) {i : Nat} {o : Offer} (hi : m[i]? = some o) : 0 ≤ o.lo ∧ o.lo ≤ o.hi ∧ o.hi ≤ 1000 := by
  have hil := (List.getElem?_eq_some_iff.1 hi).1
  rw [h.1] at hil
  obtain ⟨t, ⟨h1, h2, h3⟩, hj⟩ := h.2 i l[i] (List.getElem?_eq_getElem hil)
  obtain ⟨gi, ge, hgi, hge, hgi5, hge5, hgne, hu1, hu2, hlo1, hlo2, hhi, _⟩ := offer_bounds ho (List.getElem?_eq_getElem hil)
  rw [hi] at hj
  cases hj
  simp only [Offer.for_] at *
  omega
theorem NarT.bounds {fs m : List Fair} (h : NarT fs m) (ht : tripOk fs = true) {i : Nat} {f : Fair} (hi : m[i]? = some f) : f.keeps.length = 5 ∧ ∀ (g : Nat) (s : Span), f.keeps[g]? = some s → 0 ≤ s.lo ∧ s.lo ≤ s.hi ∧ s.hi ≤ 1000 := by
  have hil := (List.getElem?_eq_some_iff.1 hi).1
  rw [h.1] at hil
  obtain ⟨ks, hk, hj⟩ := h.2 i fs[i] (List.getElem?_eq_getElem hil)
  obtain ⟨h5, _, _, _, _, hb⟩ := fair_bounds ht (List.getElem?_eq_getElem hil)
  rw [hi] at hj
  cases hj
  refine ⟨by simp only; rw [hk.1]; exact h5, fun g s hs => ?_⟩
  simp only at hs
  have hgl := (List.getElem?_eq_some_iff.1 hs).1
  rw [hk.1] at hgl
  obtain ⟨t, ⟨h1, h2, h3⟩, hq⟩ := hk.2 g _ (List.getElem?_eq_getElem hgl)
  have := hb g _ (List.getElem?_eq_getElem hgl)
  rw [hs] at hq
  cases hq
  omega
theorem TripBox.same {w w' : World} {b : Nat} {K : Nat → Nat} {l : List Fair} (h : TripBox w b K l) (hb : w'.heap[b]? = w.heap[b]?) (hk : ∀ i, i < l.length → w'.heap[K i]? = w.heap[K i]?) : TripBox w' b K l := by
  obtain ⟨⟨cs, h1, h2⟩, h3⟩ := h
  exact ⟨⟨cs, hb.trans h1, h2⟩, fun i f hf => let ⟨k1, k2, k3⟩ := h3 i f hf; ⟨k1.same (hk i (List.getElem?_eq_some_iff.1 hf).1), k2, k3⟩⟩
theorem TripBox.lt {w : World} {b : Nat} {K : Nat → Nat} {l : List Fair} (h : TripBox w b K l) : b < w.heap.size ∧ ∀ i, i < l.length → K i < w.heap.size := by
  obtain ⟨⟨cs, h1, h2⟩, h3⟩ := h
  exact ⟨heap_lt h1, fun i hi => (h3 i l[i] (List.getElem?_eq_getElem hi)).1.lt⟩
theorem TripBox.only {w w' : World} {b p : Nat} {K : Nat → Nat} {l : List Fair} (h : TripBox w b K l) (e : Only p w w') (hp : p < b) (hk : ∀ i, i < l.length → p < K i) : TripBox w' b K l :=
  h.same (e.block b h.lt.1 (by simp; omega)) fun i hi => e.block (K i) (h.lt.2 i hi) (by have := hk i hi; simp; omega)
theorem TripBox.store {w : World} {b : Nat} {K : Nat → Nat} {l : List Fair} (h : TripBox w b K l) {i g : Nat} {f : Fair} (hf : l[i]? = some f) (hg : g < f.keeps.length) (t : Span) :
    TripBox ((w.setCell ⟨K i, g * 2, none⟩ (.int .i64 t.lo)).setCell ⟨K i, g * 2 + 1, none⟩ (.int .i64 t.hi)) b K (l.set i { f with keeps := f.keeps.set g t }) := by
  obtain ⟨⟨cs, h1, h2⟩, h3⟩ := h
  have hil := (List.getElem?_eq_some_iff.1 hf).1
  have hother : ∀ x, x ≠ K i → ((w.setCell ⟨K i, g * 2, none⟩ (.int .i64 t.lo)).setCell ⟨K i, g * 2 + 1, none⟩ (.int .i64 t.hi)).heap[x]? = w.heap[x]? := fun x hx =>
    (heap_setCell_other _ _ _ _ hx).trans (heap_setCell_other _ _ _ _ hx)
  refine ⟨⟨cs, (hother b (h3 i f hf).2.1.symm).trans h1, fun j x hx => ?_⟩, fun j x hx => ?_⟩
  · by_cases e : i = j
    · subst e
      rw [List.getElem?_set_self hil] at hx
      cases hx
      have := h2 i f hf
      simp only [List.length_set]
      exact this
    · rw [List.getElem?_set_ne e] at hx
      exact h2 j x hx
  · by_cases e : i = j
    · subst e
      rw [List.getElem?_set_self hil] at hx
      cases hx
      obtain ⟨k1, k2, k3⟩ := h3 i f hf
      exact ⟨spans_store k1 hg t, k2, k3⟩
    · rw [List.getElem?_set_ne e] at hx
      obtain ⟨k1, k2, k3⟩ := h3 j x hx
      refine ⟨k1.same (hother _ ?_), k2, k3⟩
      rcases Nat.lt_or_ge i j with hh | hh
      · have := k3 i hh; omega
      · have := (h3 i f hf).2.2 j (by omega); omega
/-- the twin's offers: in a block of their own, if there are any -/
def OffBox (w : World) (oa : Option Addr) (B C : Nat) (l : List Offer) : Prop := 0 < l.length → ∃ ob, oa = some ⟨ob, 0, none⟩ ∧ B ≤ ob ∧ ob < C ∧ RowBlock w ob 81 8 (offerRows l)
theorem OffBox.at {w : World} {oa : Option Addr} {B C : Nat} {l : List Offer} (h : OffBox w oa B C l) : OffersAt w oa l.length l := by
  refine ⟨rfl, fun hn => ?_⟩
  obtain ⟨ob, rfl, _, _, hr⟩ := h hn
  exact (offers_of_block hr).2 hn
theorem OffBox.same {w w' : World} {oa : Option Addr} {B C : Nat} {l : List Offer} (h : OffBox w oa B C l) (e : ∀ b, B ≤ b → b < C → w'.heap[b]? = w.heap[b]?) : OffBox w' oa B C l := fun hn => by
  obtain ⟨ob, h1, h2, h3, h4⟩ := h hn
  exact ⟨ob, h1, h2, h3, h4.same (e ob h2 h3)⟩
def NarPost (l : List Offer) (fs : List Fair) (w : World) (e : Ending) (w' : World) : Prop :=
  ∃ a c fa fc l' fs', e = .returned (.tuple #[.slice a l.length c, .slice fa fs.length fc]) ∧ Ext w w' ∧ NarO l l' ∧ NarT fs fs' ∧ OffersAt w' a l.length l' ∧ FairsAt w' fa fs.length fs'
theorem CapsAt.ext {w w' : World} {nb bb i : Nat} {ca : Option Addr} {cn cc : Nat} (h : CapsAt w nb bb i ca cn cc) (e : Ext w w') : CapsAt w' nb bb i ca cn cc := ⟨e.heap h.1, e.heap h.2.1, h.2.2⟩
theorem offBox_of {w : World} {B : Nat} {v : Value} {l : List Offer} (h : Owns w B 81 8 v (offerRows l)) : ∃ a c, v = .slice a l.length c ∧ OffBox w a B w.heap.size l := by
  obtain ⟨a, c, rfl, _, _, _, _⟩ := offers_of_owns h
  refine ⟨a, c, rfl, fun hn => ?_⟩
  obtain ⟨b, c', e, _, _, h1, h2⟩ := h.block (by simpa [offerRows] using hn)
  rw [Value.slice.injEq] at e
  exact ⟨b, e.1, h1, h2.lt, h2⟩
/-- narrow's state -/
structure NarSt (w : World) (l : List Offer) (fs : List Fair) (oa : Option Addr) (C tb : Nat) (K : Nat → Nat) (ca : Option Addr) (cn cc : Nat) (wr : World) (cnt : Nat) (m : List Offer) (fm : List Fair) : Prop where
  ext : Ext w wr
  caps : CapsAt wr (w.heap.size + 1) w.heap.size cnt ca cn cc
  no : NarO l m
  ob : OffBox wr oa (w.heap.size + 2) C m
  nt : NarT fs fm
  box : TripBox wr tb K fm
  lt : C ≤ tb ∧ w.heap.size + 2 ≤ C ∧ ∀ i, i < fs.length → C ≤ K i
section
variable {w : World} {l : List Offer} {fs : List Fair} {oa : Option Addr} {C tb : Nat} {K : Nat → Nat} {ca : Option Addr} {cn cc : Nat} {wr w' : World} {cnt : Nat} {m : List Offer} {fm : List Fair}
theorem NarSt.part (h : NarSt w l fs oa C tb K ca cn cc wr cnt m fm) (e : Only (w.heap.size + 1) wr w') {c' : Nat} (hc : CapsAt w' (w.heap.size + 1) w.heap.size c' ca cn cc) : NarSt w l fs oa C tb K ca cn cc w' c' m fm where
  ext := h.ext.only_trans e (by omega)
  caps := hc
  no := h.no
  ob := fun hn => by
    obtain ⟨ob, h1, h2, h3, h4⟩ := h.ob hn
    exact ⟨ob, h1, h2, h3, h4.only e (by omega)⟩
  nt := h.nt
  box := h.box.only e (by have := h.lt; omega) fun i hi => by have := h.lt.2.2 i (by rw [← h.nt.1]; exact hi); have := h.lt.2.1; omega
  lt := h.lt
theorem NarSt.offer {ob : Nat} (h : NarSt w l fs (some ⟨ob, 0, none⟩) C tb K ca cn cc wr cnt m fm) {i : Nat} {o : Offer} (ho : m[i]? = some o) {t : Span} (ht : Within ⟨o.lo, o.hi⟩ t) :
    NarSt w l fs (some ⟨ob, 0, none⟩) C tb K ca cn cc ((wr.setCell ⟨ob, i * 8 + 4, none⟩ (.int .i64 t.lo)).setCell ⟨ob, i * 8 + 5, none⟩ (.int .i64 t.hi)) cnt (m.set i (o.for_ t)) fm := by
  have hil := (List.getElem?_eq_some_iff.1 ho).1
  obtain ⟨ob', e, h2, h3, h4⟩ := h.ob (by omega)
  cases e
  have hoth : ∀ x, x ≠ ob → ((wr.setCell ⟨ob, i * 8 + 4, none⟩ (.int .i64 t.lo)).setCell ⟨ob, i * 8 + 5, none⟩ (.int .i64 t.hi)).heap[x]? = wr.heap[x]? := fun x hx =>
    (heap_setCell_other _ _ _ _ hx).trans (heap_setCell_other _ _ _ _ hx)
  have hlt := h.lt
  exact {
    ext := (h.ext.setCell (p := ⟨ob, i * 8 + 4, none⟩) (by simp only; omega) _).setCell (p := ⟨ob, i * 8 + 5, none⟩) (by simp only; omega) _
    caps := ⟨(hoth _ (by omega)).trans h.caps.1, (hoth _ (by omega)).trans h.caps.2.1, h.caps.2.2⟩
    no := h.no.set ho ht
    ob := fun _ => ⟨ob, rfl, h2, h3, offers_store h4 ho t⟩
    nt := h.nt
    box := h.box.same (hoth _ (by omega)) fun j hj => hoth _ (by have := hlt.2.2 j (by rw [← h.nt.1]; exact hj); omega)
    lt := hlt }
theorem NarSt.keep (h : NarSt w l fs oa C tb K ca cn cc wr cnt m fm) {i g : Nat} {f : Fair} {s : Span} (hf : fm[i]? = some f) (hs : f.keeps[g]? = some s) {t : Span} (ht : Within s t) :
    NarSt w l fs oa C tb K ca cn cc ((wr.setCell ⟨K i, g * 2, none⟩ (.int .i64 t.lo)).setCell ⟨K i, g * 2 + 1, none⟩ (.int .i64 t.hi)) cnt m (fm.set i { f with keeps := f.keeps.set g t }) := by
  have hil := (List.getElem?_eq_some_iff.1 hf).1
  have hgl := (List.getElem?_eq_some_iff.1 hs).1
  have hoth : ∀ x, x ≠ K i → ((wr.setCell ⟨K i, g * 2, none⟩ (.int .i64 t.lo)).setCell ⟨K i, g * 2 + 1, none⟩ (.int .i64 t.hi)).heap[x]? = wr.heap[x]? := fun x hx =>
    (heap_setCell_other _ _ _ _ hx).trans (heap_setCell_other _ _ _ _ hx)
  have hlt := h.lt
  have hki := hlt.2.2 i (by rw [← h.nt.1]; exact hil)
  exact {
    ext := (h.ext.setCell (p := ⟨K i, g * 2, none⟩) (by simp only; omega) _).setCell (p := ⟨K i, g * 2 + 1, none⟩) (by simp only; omega) _
    caps := ⟨(hoth _ (by omega)).trans h.caps.1, (hoth _ (by omega)).trans h.caps.2.1, h.caps.2.2⟩
    no := h.no
    ob := h.ob.same fun b h1 h2 => hoth _ (by omega)
    nt := h.nt.set hf hs ht
    box := h.box.store hf hgl t
    lt := hlt }
end
/-- two blocks are as they were -/
def Same2 (w : World) (x y : Nat) (W : World) : Prop := W.heap[x]? = w.heap[x]? ∧ W.heap[y]? = w.heap[y]?
theorem TripBox.slice {w : World} {b : Nat} {K : Nat → Nat} {l : List Fair} (h : TripBox w b K l) {i : Nat} {f : Fair} (hf : l[i]? = some f) (h5 : f.keeps.length = 5) : ∃ kc, w.cell? ⟨b, i * 3 + 2, none⟩ = some (.slice (some ⟨K i, 0, none⟩) 5 kc) := by
  obtain ⟨⟨cs, h1, h2⟩, h3⟩ := h
  obtain ⟨_, _, kc, c2, _⟩ := h2 i f hf
  rw [h5] at c2
  exact ⟨kc, (cell_of_row w b _ cs 83 (0, 0) h1).trans c2⟩
set_option maxRecDepth 100000 in
set_option maxHeartbeats 4000000 in
theorem narrow_any (a : Option Addr) (n cap : Nat) (l : List Offer) (fa : Option Addr) (fn fc : Nat) (fs : List Fair) (ca : Option Addr) (cn cc : Nat) (by_ : List Int) (w : World)
    (hl : OffersAt w a n l) (hf : FairsAt w fa fn fs) (hb : IntsAt .u32 w ca cn by_) (ho : offersOk l = true) (ht : tripOk fs = true) (hu : u32s by_) (hcn : cn ≤ 9223372036854775807) :
    Calls Try.prog 38 #[.slice a n cap, .slice fa fn fc, .slice ca cn cc] w (NarPost l fs w) := by
  have hol := offers_len ho
  have htl := trip_len ht
  obtain rfl : l.length = n := hl.1
  obtain rfl : fs.length = fn := hf.1
  have hk5 : ∀ f ∈ fs, f.keeps.length = 5 := fun f hf => by
    obtain ⟨i, hi, rfl⟩ := List.getElem_of_mem hf
    exact (fair_bounds ht (List.getElem?_eq_getElem hi)).1
  have htw := fun W (hW : Ext w W) => twin_box fa fs.length fc fs W (hf.ext hW) (by omega) (by omega) hk5
  have hpart := fun s i nb bb W (h0 : 0 ≤ s.lo) (h1 : s.lo ≤ s.hi) (h2 : s.hi ≤ 1000) (hi : i ≤ 1000) (hc : CapsAt W nb bb i ca cn cc) (hl : IntsAt .u32 W ca cn by_) (hcb : 0 < cn → ∀ x, ca = some x → x.block ≠ nb) => narPart_any s nb bb i ca cn cc by_ W h0 h1 h2 hi hu hc hl hcb hcn
  have hcb : 0 < cn → ∀ x, ca = some x → x.block < w.heap.size := fun h x hx => hb.block h hx
  -- the boxes
  have hx1 : Ext w ((w.alloc (.cells #[.slice ca cn cc] 60)).alloc (.cells #[.int .i64 0] 3)) := ((Ext.refl _).alloc _).alloc _
  have hcap1 : CapsAt ((w.alloc (.cells #[.slice ca cn cc] 60)).alloc (.cells #[.int .i64 0] 3)) (w.heap.size + 1) w.heap.size 0 ca cn cc := by
    refine ⟨?_, (((Ext.refl (w.alloc (.cells #[.slice ca cn cc] 60))).alloc (.cells #[.int .i64 0] 3))).heap (heap_alloc_new w _), by omega⟩
    have := heap_alloc_new (w.alloc (.cells #[.slice ca cn cc] 60)) (.cells #[.int .i64 0] 3)
    rw [show (w.alloc (.cells #[.slice ca cn cc] 60)).heap.size = w.heap.size + 1 by simp] at this
    exact this
  have hsz1 : ((w.alloc (.cells #[.slice ca cn cc] 60)).alloc (.cells #[.int .i64 0] 3)).heap.size = w.heap.size + 2 := by simp
  have Hl := Lib.hid hl
  have Hb := Lib.hid hb
  have Ho := Lib.hid ho
  have Ht := Lib.hid ht
  have Hk5 := Lib.hid hk5
  have Htw := Lib.hid htw
  have Hpart := Lib.hid hpart
  have Hcb := Lib.hid hcb
  have Hx1 := Lib.hid hx1
  have Hcap1 := Lib.hid hcap1
  have Hsz1 := Lib.hid hsz1
  clear hl hb ho ht hk5 htw hpart hcb hx1 hcap1 hsz1
  clear hf
  go_enter Try.func38, Try.ntmps38
  have k0 := ((Ext.refl (((w.alloc (.cells #[.slice ca cn cc] 60)).alloc (.cells #[.int .i64 0] 3)))).box Hcap1.out.1).1
  have k1 := ((Ext.refl (((w.alloc (.cells #[.slice ca cn cc] 60)).alloc (.cells #[.int .i64 0] 3)))).box Hcap1.out.1).2
  go_upto_region 2 with fail
  generalize (w.alloc (.cells #[.slice ca cn cc] 60)).alloc (.cells #[.int .i64 0] 3) = w1 at *
  clear k0 k1
  have hemp : Owns (w1.alloc (.cells #[] 81)) (w.heap.size + 2) 81 8 (.slice (some ⟨w.heap.size + 2, 0, none⟩) 0 0) [] := by
    have := Owns.empty w1 (w.heap.size + 2) 81 8 (by rw [Hsz1.out]; exact Nat.le_refl _)
    rw [Hsz1.out] at this
    exact this
  have hx2 := Hx1.out.alloc (.cells #[] 81)
  have hx12 : Ext w1 (w1.alloc (.cells #[] 81)) := (Ext.refl _).alloc _
  have hsz2 : (w1.alloc (.cells #[] 81)).heap.size = w.heap.size + 3 := by simp [Hsz1.out]
  have hsrc := (Hl.out.ext hx2).src
  have hs1 := Hsz1.out
  have hrl : (offerRows l).length = l.length := by simp [offerRows]
  have Hemp := Lib.hid hemp
  have Hx2 := Lib.hid hx2
  have Hx12 := Lib.hid hx12
  have Hsz2 := Lib.hid hsz2
  have Hsrc := Lib.hid hsrc
  have Hrl := Lib.hid hrl
  clear hemp hx2 hx12 hsz2 hsrc hrl
  go_wp2_with (at_builtin; refine wpList_app elem22 _ rfl (.tmp 16) (.tmp 17) rfl (w.heap.size + 2) _ [] rfl Hemp.out a l.length cap (offerRows l) rfl Hrl.out Hsrc.out (offerRows_row _) ?_ ?_ ?_)
  · simp only [List.length_nil]; omega
  · have := Hsz2.out; omega
  · intro v6 w6 ho6 hg6 _
    have hx16 : Ext w1 w6 := by
      have h := Hemp.out
      rw [← Hsz1.out] at h
      rw [← Hsz1.out] at hg6
      exact Hx12.out.app h hg6
    have hx6 := Hx1.out.trans hx16
    have hcap6 := Hcap1.out.ext hx16
    obtain ⟨oa, oc, rfl, hob6⟩ := offBox_of ho6
    have hsz6 : w.heap.size + 2 ≤ w6.heap.size := by have := hx16.size; have := Hsz1.out; omega
    have htw6 := Htw.out w6 hx6
    have Hx6 := Lib.hid hx6
    have Hcap6 := Lib.hid hcap6
    have Hob6 := Lib.hid hob6
    have Htw6 := Lib.hid htw6
    clear hx6 hcap6 hob6 htw6
    clear ho6 hg6 hx16 Hsrc Hemp Hx12 Hx2 Hsz2 Hcap1 Hx1 Htw hs1
    go_wp2_with (go_at_call 18; refine Htw6.out.mono ?_; rintro e w7 ⟨tb, K, tc, rfl, hx7, htb, htc1, htc2, hbox, hKs⟩)
    have hst : NarSt w l fs oa w6.heap.size tb K ca cn cc w7 0 l fs := ⟨Hx6.out.trans hx7, Hcap6.out.ext hx7, NarO.refl Ho.out, Hob6.out.same fun b _ hb => hx7.block b hb, NarT.refl Ht.out, hbox, htb, hsz6, hKs⟩
    have Hst := Lib.hid hst
    clear hst
    clear Hx6 Hcap6 Hob6 Htw6 hx7 htb htc1 htc2 hbox hKs
    go_loopw [23] (fun i wr => ∃ (k : Nat) (m : List Offer), k ≤ l.length ∧ i = .int .i64 k ∧ NarSt w l fs oa w6.heap.size tb K ca cn cc wr (2 * k) m fs) (fun i _ => l.length - (intOf i).toNat)
    case atStart => exact ⟨0, l, Nat.zero_le _, rfl, Hst.out⟩
    case round =>
      obtain ⟨k, m, hk, rfl, hs⟩ := hrel
      by_cases hlt : k < l.length
      · have hlt' : decide ((k : Int) < (l.length : Int)) = true := by simp; omega
        have hml := hs.no.1
        obtain ⟨ob, rfl, hob1, hob2, hrb⟩ := hs.ob (by omega)
        obtain ⟨o, hok⟩ : ∃ o, m[k]? = some o := ⟨_, List.getElem?_eq_getElem (by omega)⟩
        have hrk : (offerRows m)[k]? = some o.cells := by simp [offerRows, hok]
        have q4 : wr.cell? ⟨ob, k * 8 + 4, none⟩ = some (.int .i64 o.lo) := hrb.cell (j := 4) hrk rfl
        have q5 : wr.cell? ⟨ob, k * 8 + 4 + 1, none⟩ = some (.int .i64 o.hi) := hrb.cell (j := 5) hrk rfl
        obtain ⟨b0, b1, b2⟩ := hs.no.bounds Ho.out hok
        have hpc := Hpart.out ⟨o.lo, o.hi⟩ (2 * k) _ _ wr b0 b1 b2 (by omega) hs.caps (Hb.out.ext hs.ext) (fun h x hx => by have := Hcb.out h x hx; omega)
        have Hs := Lib.hid hs
        have Hpc := Lib.hid hpc
        have Hrb := Lib.hid hrb
        have Hok := Lib.hid hok
        have Hrk := Lib.hid hrk
        clear hs hpc hrb hok hrk
        go_wp2_with (go_at_call 69; refine Hpc.out.mono ?_; rintro e w8 ⟨t, rfl, hwt, hon8, hcap8⟩; have f8 := fun j => (Hrb.out.only hon8 (by omega)).free j; have c4 : w8.cell? ⟨ob, k * 8 + 4, none⟩ = some (.int .i64 o.lo) := (Hrb.out.only hon8 (by omega)).cell (j := 4) Hrk.out rfl; have c5 : w8.cell? ⟨ob, k * 8 + 4 + 1, none⟩ = some (.int .i64 o.hi) := (Hrb.out.only hon8 (by omega)).cell (j := 5) Hrk.out rfl; have hs8 := Hs.out.part hon8 hcap8; have Hs8 := Lib.hid hs8; clear hs8 hcap8 hon8 q4 q5)
        go_roundw
        case rel => exact ⟨k + 1, _, by omega, by go_num, by have h := Hs8.out.offer Hok.out hwt; rw [show 2 * (k + 1) = 2 * k + 2 by omega]; exact h⟩
        case measure => simp [intOf]; omega
      · have hlt' : decide ((k : Int) < (l.length : Int)) = false := by simp; omega
        obtain rfl : k = l.length := by omega
        obtain ⟨w8, rfl⟩ : ∃ w8 : World, w8 = wr := ⟨_, rfl⟩
        have Hs := Lib.hid hs
        clear hs
        clear Hst Hk5
        go_wp2_with fail
        go_loopw [40] (fun i wr => ∃ (k cnt : Nat) (fm : List Fair), k ≤ fs.length ∧ i = .int .i64 k ∧ cnt ≤ 20 + 10 * k ∧ NarSt w l fs oa w6.heap.size tb K ca cn cc wr cnt m fm) (fun i _ => fs.length - (intOf i).toNat)
        case atStart => exact ⟨0, _, fs, Nat.zero_le _, rfl, by omega, Hs.out⟩
        case round =>
          obtain ⟨k, cnt, fm, hk, rfl, hcnt, hs⟩ := hrel
          by_cases hlt : k < fs.length
          · have hlt' : decide ((k : Int) < (fs.length : Int)) = true := by simp; omega
            obtain ⟨f, hfk⟩ : ∃ f, fm[k]? = some f := ⟨_, List.getElem?_eq_getElem (by rw [hs.nt.1]; exact hlt)⟩
            obtain ⟨kc, c2⟩ := hs.box.slice hfk (hs.nt.bounds Ht.out hfk).1
            have Hs := Lib.hid hs
            clear hs
            clear hfk
            go_wp2_with fail
            clear c2
            go_loopw [49] (fun i wr => ∃ (g cnt : Nat) (fm : List Fair), g ≤ 5 ∧ i = .int .i64 g ∧ cnt ≤ 20 + 10 * k + 2 * g ∧ NarSt w l fs oa w6.heap.size tb K ca cn cc wr cnt m fm) (fun i _ => 5 - (intOf i).toNat)
            case atStart => exact ⟨0, _, fm, Nat.zero_le _, rfl, by omega, Hs.out⟩
            case round =>
              clear Hs
              obtain ⟨g, cnt, fm, hg, rfl, hcnt, hs⟩ := hrel
              by_cases hg5 : g < 5
              · have hg5' : decide ((g : Int) < 5) = true := by simp; omega
                obtain ⟨f, hfk⟩ : ∃ f, fm[k]? = some f := ⟨_, List.getElem?_eq_getElem (by rw [hs.nt.1]; exact hlt)⟩
                obtain ⟨h5, hbd⟩ := hs.nt.bounds Ht.out hfk
                obtain ⟨kc, c2⟩ := hs.box.slice hfk h5
                obtain ⟨s, hsg⟩ : ∃ s, f.keeps[g]? = some s := ⟨_, List.getElem?_eq_getElem (by rw [h5]; exact hg5)⟩
                obtain ⟨b0, b1, b2⟩ := hbd g s hsg
                have hrb := (hs.box.2 k f hfk).1
                have hkb : w.heap.size + 2 ≤ K k := by have := hs.lt; have := hs.lt.2.2 k hlt; omega
                have htb : w.heap.size + 2 ≤ tb := by have := hs.lt; omega
                have hktb := hs.box.lt
                have hkl := hktb.2 k (by rw [hs.nt.1]; exact hlt)
                have htl2 := hktb.1
                have hrk : (spanRows f.keeps)[g]? = some s.cells := by simp [spanRows, hsg]
                have q0 : wr.cell? ⟨K k, g * 2, none⟩ = some (.int .i64 s.lo) := hrb.cell (j := 0) hrk rfl
                have q1 : wr.cell? ⟨K k, g * 2 + 1, none⟩ = some (.int .i64 s.hi) := hrb.cell (j := 1) hrk rfl
                have hpc := fun W (h1 : CapsAt W (w.heap.size + 1) w.heap.size cnt ca cn cc) (h2 : IntsAt .u32 W ca cn by_) => Hpart.out s cnt _ _ W b0 b1 b2 (by omega) h1 h2 (fun h x hx => by have := Hcb.out h x hx; omega)
                have hby := Hb.out.ext hs.ext
                have hcap := hs.caps
                have Hs := Lib.hid hs
                have Hpc := Lib.hid hpc
                have Hrb := Lib.hid hrb
                have Hfk := Lib.hid hfk
                have Hsg := Lib.hid hsg
                have Hrk := Lib.hid hrk
                have Hby := Lib.hid hby
                have Hcap := Lib.hid hcap
                clear hs hpc hrb hfk hsg hrk hby hcap
                clear hbd h5 hktb
                go_wp2_with fail
                refine wp_region_mix [0, 1, 2, 3, 4, 5, 6, 7, 8, 9, 10, 11, 12, 13, 14] [(15, false), (16, false), (17, true)] (Same2 wr tb (K k)) _ _ (by kernel_rfl) (by kernel_rfl) (by kernel_rfl) rfl rfl (⟨rfl, rfl⟩) ?_
                intro ι _ f hf
                have f0 := fun q => (World.cell?_of_block (a := ⟨tb, k * 3 + 2, none⟩) (hf q).1).trans c2
                have f1 := fun q => (World.cell?_of_block (a := ⟨K k, g * 2, none⟩) (hf q).2).trans q0
                have f2 := fun q => (World.cell?_of_block (a := ⟨K k, g * 2 + 1, none⟩) (hf q).2).trans q1
                clear hf
                simp only [opsOf, opsOfT, consOp, consOpT, List.getElem?_toArray, List.getElem?_cons_succ, List.getElem?_cons_zero]
                repeat (go_big_quiet_step (fail))
                refine wpQuiet_nil ?_
                clear f0 f1 f2
                have hcapd : CapsAt wr.drew (w.heap.size + 1) w.heap.size cnt ca cn cc := Hcap.out.ext (Ext.refl _).drew
                have hpd := Hpc.out wr.drew hcapd (Hby.out.ext (Ext.refl _).drew)
                have Hpd := Lib.hid hpd
                clear hpd
                clear q0 q1 c2 hcapd
                refine wpListS_step ?_
                go_wp2_with (go_at_call 69; refine Hpd.out.mono ?_; rintro e w8 ⟨t, rfl, hwt, hon8, hcap8⟩; have hon8 : Only (w.heap.size + 1) wr w8 := (Only.refl _ _).drew.trans hon8; have f8 := fun j => (Hrb.out.only hon8 (by omega)).free j; have c4 : w8.cell? ⟨K k, g * 2, none⟩ = some (.int .i64 s.lo) := (Hrb.out.only hon8 (by omega)).cell (j := 0) Hrk.out rfl; have c5 : w8.cell? ⟨K k, g * 2 + 1, none⟩ = some (.int .i64 s.hi) := (Hrb.out.only hon8 (by omega)).cell (j := 1) Hrk.out rfl; have hs8 := Hs.out.part hon8 hcap8; have Hs8 := Lib.hid hs8; have S8 : Same2 wr tb (K k) w8 := ⟨hon8.block tb htl2 (by simp; omega), hon8.block (K k) hkl (by simp; omega)⟩; have HS8 := Lib.hid S8; clear hs8 hcap8 hon8 S8)
                refine ⟨HS8.out, ?_⟩
                refine wpListS_step ?_
                go_wp2_with fail
                refine ⟨HS8.out, ?_⟩
                refine wpListS_last ?_
                go_wp2_with fail
                refine wpListS_nil ?_
                go_wp2_with fail
                go_roundw
                case rel => exact ⟨g + 1, _, _, by omega, by go_num, by omega, Hs8.out.keep Hfk.out Hsg.out hwt⟩
                case measure => simp [intOf]; omega
              · have hg5' : decide ((g : Int) < 5) = false := by simp; omega
                obtain rfl : g = 5 := by omega
                rw [show ((5 : Nat) : Int) = 5 from rfl]
                have Hs := Lib.hid hs
                clear hs
                go_wp2_with fail
                go_roundw
                case rel => exact ⟨k + 1, cnt, fm, by omega, by go_num, by omega, Hs.out⟩
                case measure => simp [intOf]; omega
          · have hlt' : decide ((k : Int) < (fs.length : Int)) = false := by simp; omega
            have Hs := Lib.hid hs
            clear hs
            go_wp2_with fail
            go_ret2
            have ho8 := Hs.out.ob.at
            have hf8 := Hs.out.box.fairs
            rw [Hs.out.no.1] at ho8
            rw [Hs.out.nt.1] at hf8
            exact ⟨_, _, _, _, m, fm, rfl, Hs.out.ext, Hs.out.no, Hs.out.nt, ho8, hf8⟩
end Go.Proofs.Ytkbhmajcddmhnaa
