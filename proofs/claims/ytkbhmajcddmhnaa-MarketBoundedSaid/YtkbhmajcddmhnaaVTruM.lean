/- What comes of a trip: how it lies in memory; the contract of its road. -/
import Derived.Test.YtkbhmajcddmhnaaVTru
import Derived.Test.YtkbhmajcddmhnaaVGr15
import Derived.Deep.CutBlock
namespace Go.Proofs.Ytkbhmajcddmhnaa
open Go.RowKit
set_option linter.unusedVariables false
set_option linter.unusedSimpArgs false

def iv (l : List Int) : List Value := l.map (Value.int .i64)
def truCells (t : TS) (rv : Value) : List Value := iv t.held ++ (iv t.given ++ (iv t.got ++ (iv t.lost ++ [rv])))
def TrAt (w : World) (tb : Nat) (t : TS) (rv : Value) : Prop := w.heap[tb]? = some (.cells (truCells t rv).toArray 66 (0, 0))
structure L5 (t : TS) : Prop where
  held : t.held.length = 5
  given : t.given.length = 5
  got : t.got.length = 5
  lost : t.lost.length = 5
theorem TS.Ok.l5 {t : TS} {i r : Nat} (h : t.Ok i r) : L5 t := ⟨h.held.1, h.given.1, h.got.1, h.lost.1⟩
theorem iv_len (l : List Int) : (iv l).length = l.length := by simp [iv]
theorem iv_get {l : List Int} {g : Nat} (h : g < l.length) : (iv l)[g]? = some (.int .i64 (l.getD g 0)) := by simp [iv, List.getD, List.getElem?_eq_getElem h]
theorem iv_set (l : List Int) (g : Nat) (x : Int) : iv (l.set g x) = (iv l).set g (.int .i64 x) := by simp [iv, List.map_set]
theorem app_get {α : Type} (A B : List α) (n g : Nat) (h : A.length = n) : (A ++ B)[n + g]? = B[g]? := by rw [List.getElem?_append_right (by omega)]; congr 1; omega
theorem app_set {α : Type} (A B : List α) (n g : Nat) (x : α) (h : A.length = n) : (A ++ B).set (n + g) x = A ++ B.set g x := by rw [List.set_append_right _ _ (by omega)]; congr 2; omega
section
variable {w : World} {tb : Nat} {t : TS} {rv : Value}
theorem TrAt.at (h : TrAt w tb t rv) (j : Nat) : w.cell? ⟨tb, j, none⟩ = (truCells t rv)[j]? := by
  rw [cell_of_row w tb j _ 66 (0, 0) h, List.getElem?_toArray]
theorem TrAt.free (h : TrAt w tb t rv) (j : Nat) : w.frozen? ⟨tb, j, none⟩ = false := frozen_of_row w tb j _ 66 h
theorem TrAt.lt (h : TrAt w tb t rv) : tb < w.heap.size := heap_lt h
theorem TrAt.same {w' : World} (h : TrAt w tb t rv) (e : w'.heap[tb]? = w.heap[tb]?) : TrAt w' tb t rv := e.trans h
theorem TrAt.ext {w' : World} (h : TrAt w tb t rv) (e : Ext w w') : TrAt w' tb t rv := h.same (e.block tb h.lt)
theorem TrAt.cH (h : TrAt w tb t rv) (l : L5 t) {g : Nat} (hg : g < 5) : w.cell? ⟨tb, g, none⟩ = some (.int .i64 (t.held.getD g 0)) := by
  rw [h.at, truCells, List.getElem?_append_left (by rw [iv_len, l.held]; exact hg), iv_get (by rw [l.held]; exact hg)]
theorem TrAt.cG (h : TrAt w tb t rv) (l : L5 t) {g : Nat} (hg : g < 5) : w.cell? ⟨tb, 5 + g, none⟩ = some (.int .i64 (t.given.getD g 0)) := by
  rw [h.at, truCells, app_get _ _ 5 _ (by rw [iv_len, l.held]), List.getElem?_append_left (by rw [iv_len, l.given]; exact hg), iv_get (by rw [l.given]; exact hg)]
theorem TrAt.cO (h : TrAt w tb t rv) (l : L5 t) {g : Nat} (hg : g < 5) : w.cell? ⟨tb, 10 + g, none⟩ = some (.int .i64 (t.got.getD g 0)) := by
  rw [h.at, truCells, show 10 + g = 5 + (5 + g) by omega, app_get _ _ 5 _ (by rw [iv_len, l.held]), app_get _ _ 5 _ (by rw [iv_len, l.given]), List.getElem?_append_left (by rw [iv_len, l.got]; exact hg), iv_get (by rw [l.got]; exact hg)]
theorem TrAt.cL (h : TrAt w tb t rv) (l : L5 t) {g : Nat} (hg : g < 5) : w.cell? ⟨tb, 15 + g, none⟩ = some (.int .i64 (t.lost.getD g 0)) := by
  rw [h.at, truCells, show 15 + g = 5 + (5 + (5 + g)) by omega, app_get _ _ 5 _ (by rw [iv_len, l.held]), app_get _ _ 5 _ (by rw [iv_len, l.given]), app_get _ _ 5 _ (by rw [iv_len, l.got]), List.getElem?_append_left (by rw [iv_len, l.lost]; exact hg), iv_get (by rw [l.lost]; exact hg)]
theorem TrAt.cR (h : TrAt w tb t rv) (l : L5 t) : w.cell? ⟨tb, 20, none⟩ = some rv := by
  rw [h.at, truCells, show 20 = 5 + (5 + (5 + (5 + 0))) by omega, app_get _ _ 5 _ (by rw [iv_len, l.held]), app_get _ _ 5 _ (by rw [iv_len, l.given]), app_get _ _ 5 _ (by rw [iv_len, l.got]), app_get _ _ 5 _ (by rw [iv_len, l.lost])]
  rfl
theorem TrAt.put (h : TrAt w tb t rv) (j : Nat) (v : Value) : (w.setCell ⟨tb, j, none⟩ v).heap[tb]? = some (.cells ((truCells t rv).set j v).toArray 66 (0, 0)) := by
  rw [heap_setCell_box, h]
  simp [setIn, List.setIfInBounds_toArray]
theorem TrAt.sH (h : TrAt w tb t rv) (l : L5 t) {g : Nat} (hg : g < 5) (x : Int) : TrAt (w.setCell ⟨tb, g, none⟩ (.int .i64 x)) tb { t with held := t.held.set g x } rv := by
  have := h.put g (.int .i64 x)
  rw [truCells, List.set_append_left _ _ (by rw [iv_len, l.held]; exact hg), ← iv_set] at this
  exact this
theorem TrAt.sG (h : TrAt w tb t rv) (l : L5 t) {g : Nat} (hg : g < 5) (x : Int) : TrAt (w.setCell ⟨tb, 5 + g, none⟩ (.int .i64 x)) tb { t with given := t.given.set g x } rv := by
  have := h.put (5 + g) (.int .i64 x)
  rw [truCells, app_set _ _ 5 _ _ (by rw [iv_len, l.held]), List.set_append_left _ _ (by rw [iv_len, l.given]; exact hg), ← iv_set] at this
  exact this
theorem TrAt.sO (h : TrAt w tb t rv) (l : L5 t) {g : Nat} (hg : g < 5) (x : Int) : TrAt (w.setCell ⟨tb, 10 + g, none⟩ (.int .i64 x)) tb { t with got := t.got.set g x } rv := by
  have := h.put (10 + g) (.int .i64 x)
  rw [truCells, show 10 + g = 5 + (5 + g) by omega, app_set _ _ 5 _ _ (by rw [iv_len, l.held]), app_set _ _ 5 _ _ (by rw [iv_len, l.given]), List.set_append_left _ _ (by rw [iv_len, l.got]; exact hg), ← iv_set] at this
  rw [show 10 + g = 5 + (5 + g) by omega]
  exact this
theorem TrAt.sL (h : TrAt w tb t rv) (l : L5 t) {g : Nat} (hg : g < 5) (x : Int) : TrAt (w.setCell ⟨tb, 15 + g, none⟩ (.int .i64 x)) tb { t with lost := t.lost.set g x } rv := by
  have := h.put (15 + g) (.int .i64 x)
  rw [truCells, show 15 + g = 5 + (5 + (5 + g)) by omega, app_set _ _ 5 _ _ (by rw [iv_len, l.held]), app_set _ _ 5 _ _ (by rw [iv_len, l.given]), app_set _ _ 5 _ _ (by rw [iv_len, l.got]), List.set_append_left _ _ (by rw [iv_len, l.lost]; exact hg), ← iv_set] at this
  rw [show 15 + g = 5 + (5 + (5 + g)) by omega]
  exact this
theorem TrAt.sR (h : TrAt w tb t rv) (l : L5 t) (v : Value) (rs : List (List Int)) : TrAt (w.setCell ⟨tb, 20, none⟩ v) tb { t with roads := rs } v := by
  have := h.put (5 + (5 + (5 + (5 + 0)))) v
  rw [truCells, app_set _ _ 5 _ _ (by rw [iv_len, l.held]), app_set _ _ 5 _ _ (by rw [iv_len, l.given]), app_set _ _ 5 _ _ (by rw [iv_len, l.got]), app_set _ _ 5 _ _ (by rw [iv_len, l.lost])] at this
  exact this
end
/-- a list of iv in a block of a type's own -/
def RowAt (w : World) (b : Nat) (ty : TypeId) (l : List Int) : Prop := w.heap[b]? = some (.cells (iv l).toArray ty (0, 0))
theorem RowAt.c {w : World} {b : Nat} {ty : TypeId} {l : List Int} (h : RowAt w b ty l) {g : Nat} (hg : g < l.length) : w.cell? ⟨b, g, none⟩ = some (.int .i64 (l.getD g 0)) := by
  rw [cell_of_row w b g _ ty (0, 0) h, List.getElem?_toArray, iv_get hg]
theorem RowAt.free {w : World} {b : Nat} {ty : TypeId} {l : List Int} (h : RowAt w b ty l) (j : Nat) : w.frozen? ⟨b, j, none⟩ = false := frozen_of_row w b j _ ty h
theorem RowAt.s {w : World} {b : Nat} {ty : TypeId} {l : List Int} (h : RowAt w b ty l) (g : Nat) (x : Int) : RowAt (w.setCell ⟨b, g, none⟩ (.int .i64 x)) b ty (l.set g x) := by
  unfold RowAt at *
  rw [heap_setCell_box, h, iv_set]
  simp [setIn, List.setIfInBounds_toArray]
def roadRows (l : List (List Int)) : List (List Value) := l.map iv
theorem roadRows_append (l m : List (List Int)) : roadRows (l ++ m) = roadRows l ++ roadRows m := by simp [roadRows]
theorem roadRows_row {l : List (List Int)} (h : ∀ x ∈ l, x.length = 5) : ∀ r ∈ roadRows l, r.length = 5 ∧ ∀ u ∈ r, u.oneCell' = true := by
  intro r hr
  obtain ⟨x, hx, rfl⟩ := List.mem_map.1 hr
  refine ⟨by rw [iv_len]; exact h x hx, fun u hu => ?_⟩
  obtain ⟨z, _, rfl⟩ := List.mem_map.1 hu
  rfl
theorem info63 : (Try.prog.info? 63).map (fun i => (i.zero, i.size, i.bytes)) = some (some (.agg #[.int .i64 0, .int .i64 0, .int .i64 0, .int .i64 0, .int .i64 0]), 5, 40) := by kernel_rfl
theorem elem64 : Elem Try.prog 64 63 5 := by
  obtain ⟨i, h1, h2, h3, h4⟩ := info_parts info63
  exact ⟨Try.underlying64, ⟨i, _, _, h1, h2, h3, h4, rfl, by decide⟩, by decide⟩
/-- nothing that was there has changed, but for block p, and the block q -/
structure Only2 (p : Nat) (q : Option Nat) (w w' : World) : Prop where
  os : w'.os = w.os
  tape : w'.tape = w.tape
  output : w'.output = w.output
  size : w.heap.size ≤ w'.heap.size
  block : ∀ k, k < w.heap.size → k ≠ p → q ≠ some k → w'.heap[k]? = w.heap[k]?
theorem Only.two {p : Nat} {w w' : World} (h : Only p w w') (q : Option Nat) : Only2 p q w w' := ⟨h.os, h.tape, h.output, h.size, fun k hk hp _ => h.block k hk (by simpa using hp)⟩
theorem Only2.grown {p : Nat} {q : Option Nat} {a b c : World} (h : Only2 p q a b) (g : b.grownBy c q) : Only2 p q a c :=
  ⟨g.os.trans h.os, g.tape.trans h.tape, g.output.trans h.output, Nat.le_trans h.size g.size, fun k hk hp hq => (g.block k (Nat.lt_of_lt_of_le hk h.size) (fun e => hq e.symm)).trans (h.block k hk hp hq)⟩
theorem Only2.only {p : Nat} {q : Option Nat} {a b c : World} (h : Only2 p q a b) (g : Only p b c) : Only2 p q a c :=
  ⟨g.os.trans h.os, g.tape.trans h.tape, g.output.trans h.output, Nat.le_trans h.size g.size, fun k hk hp hq => (g.block k (Nat.lt_of_lt_of_le hk h.size) (by simpa using hp)).trans (h.block k hk hp hq)⟩
theorem Ext.only2 {p : Nat} {q : Option Nat} {a b c : World} (h : Ext a b) (k : Only2 p q b c) (hp : a.heap.size ≤ p) (hq : ∀ x, q = some x → a.heap.size ≤ x) : Ext a c :=
  ⟨k.os.trans h.os, k.tape.trans h.tape, k.output.trans h.output, Nat.le_trans h.size k.size, fun i hi => (k.block i (Nat.lt_of_lt_of_le hi h.size) (by omega) (fun e => by have := hq i e; omega)).trans (h.block i hi)⟩
theorem Same2.ext {w W : World} {x y : Nat} (hx : x < w.heap.size) (hy : y < w.heap.size) (e : Ext w W) : Same2 w x y W := ⟨e.block x hx, e.block y hy⟩
def TruRoad (tb base : Nat) (t' : TS) (rv : Value) (w : World) (e : Ending) (w' : World) : Prop :=
  ∃ u rv', e = .returned u ∧ Only2 tb rv.ownBlock w w' ∧ TrAt w' tb t' rv' ∧ Owns w' base 63 5 rv' (roadRows t'.roads) ∧ ∀ k, rv'.ownBlock = some k → rv.ownBlock = some k ∨ w.heap.size ≤ k
set_option maxRecDepth 100000 in
set_option maxHeartbeats 4000000 in
theorem truRoad_any (tb base i r : Nat) (t : TS) (rv : Value) (p d : Int) (ka : Option Addr) (kc : Nat) (ks : List Span) (ca : Option Addr) (cn cc : Nat) (by_ : List Int) (w : World) (hT : TrAt w tb t rv) (hok : t.Ok i r) (hr : r ≤ 10) (hks : KeepsOk ks)
    (hk : SpansAt w ka 5 ks) (hkb : ∀ x, ka = some x → x.block < tb) (hb : IntsAt .u32 w ca cn by_) (hu : u32s by_) (hcn : cn ≤ 9223372036854775807) (hcb : 0 < cn → ∀ x, ca = some x → x.block < tb)
    (how : Owns w base 63 5 rv (roadRows t.roads)) (htb : tb < base) (hbs : base ≤ w.heap.size) :
    Calls Try.prog 66 #[.pointer (some ⟨tb, 0, none⟩), .agg #[.int .i64 p, .int .i64 d, .slice ka 5 kc], .slice ca cn cc] w (TruRoad tb base (t.road by_ ks) rv w) := by
  have hl5 := hok.l5
  have htbw := hT.lt
  obtain ⟨kb, ko, _, rfl, _, hkbl, _⟩ := hk.get 0 (by omega)
  have hkne : kb < tb := hkb _ rfl
  have hins := fun s v W (h0 : 0 ≤ s.lo) (h1 : s.lo ≤ s.hi) (h2 : s.hi ≤ 1000000) (v0 : 0 ≤ v) (v1 : v ≤ 4294967295) => inside_any s v W h0 h1 h2 v0 v1
  have hcho := fun (j : Nat) W (hW : IntsAt .u32 W ca cn by_) (hj : j ≤ 1000000) => choose_any ca cn cc by_ j W hW hj hcn
  have hpb := fun j => pick_bd hu j
  have hx0 : Ext w ((w.alloc (.cells #[.int .i64 p, .int .i64 d, .slice (some ⟨kb, ko, none⟩) 5 kc] 83)).alloc (.cells #[.int .i64 0, .int .i64 0, .int .i64 0, .int .i64 0, .int .i64 0] 63)) := ((Ext.refl _).alloc _).alloc _
  have hfb := ((Ext.refl (w.alloc (.cells #[.int .i64 p, .int .i64 d, .slice (some ⟨kb, ko, none⟩) 5 kc] 83))).alloc (.cells #[.int .i64 0, .int .i64 0, .int .i64 0, .int .i64 0, .int .i64 0] 63)).heap (heap_alloc_new w _)
  have hgb := heap_alloc_new (w.alloc (.cells #[.int .i64 p, .int .i64 d, .slice (some ⟨kb, ko, none⟩) 5 kc] 83)) (.cells #[.int .i64 0, .int .i64 0, .int .i64 0, .int .i64 0, .int .i64 0] 63)
  rw [show (w.alloc (.cells #[.int .i64 p, .int .i64 d, .slice (some ⟨kb, ko, none⟩) 5 kc] 83)).heap.size = w.heap.size + 1 by simp] at hgb
  obtain ⟨ra, rc, hrv, _, _, _, _⟩ := how.slAt
  rw [show (roadRows t.roads).length = r by rw [roadRows, List.length_map]; exact hok.roads.1] at hrv
  subst hrv
  have Hbs := Lib.hid hbs
  have HT := Lib.hid hT
  have Hok := Lib.hid hok
  have Hks := Lib.hid hks
  have Hk := Lib.hid hk
  have Hb := Lib.hid hb
  have How := Lib.hid how
  have Hins := Lib.hid hins
  have Hcho := Lib.hid hcho
  have Hpb := Lib.hid hpb
  have Hx0 := Lib.hid hx0
  have Hfb := Lib.hid hfb
  have Hgb := Lib.hid hgb
  have Hl5 := Lib.hid hl5
  clear hbs hT hok hks hk hb how hins hcho hpb hx0 hfb hgb hl5
  clear hkb
  go_enter Try.func66, Try.ntmps66
  go_upto_region 2 with fail
  generalize (w.alloc (.cells #[.int .i64 p, .int .i64 d, .slice (some ⟨kb, ko, none⟩) 5 kc] 83)).alloc (.cells #[.int .i64 0, .int .i64 0, .int .i64 0, .int .i64 0, .int .i64 0] 63) = W0 at *
  go_wp2_with fail
  go_loopw [9] (fun i wr => ∃ k : Nat, k ≤ 5 ∧ i = .int .i64 k ∧ Only tb w wr ∧ wr.heap[w.heap.size]? = some (.cells #[.int .i64 p, .int .i64 d, .slice (some ⟨kb, ko, none⟩) 5 kc] 83 (0, 0)) ∧ RowAt wr (w.heap.size + 1) 63 (goneRow by_ ks t k) ∧ TrAt wr tb (t.mid by_ ks k) (.slice ra r rc)) (fun i _ => 5 - (intOf i).toNat)
  case atStart => exact ⟨0, Nat.zero_le _, rfl, Hx0.out.only _, Hfb.out, Hgb.out, HT.out.ext Hx0.out⟩
  case round =>
    obtain ⟨k, hk5, rfl, hx, hfb, hgb, htr⟩ := hrel
    by_cases hlt : k < 5
    · have hlt' : decide ((k : Int) < 5) = true := by simp; omega
      obtain ⟨e1, e2, h1, h2⟩ := Hok.out.mid (by_ := by_) Hks.out k
      have hlm : L5 (t.mid by_ ks k) := ⟨e1, Hl5.out.given, Hl5.out.got, e2⟩
      have cH := htr.cH hlm hlt
      have cL := htr.cL hlm hlt
      have cR := htr.cR hlm
      have eH : (t.mid by_ ks k).held.getD k 0 = t.held.getD k 0 := by simp only [TS.mid, setTo_get]; rw [if_neg (by omega)]
      have eL : (t.mid by_ ks k).lost.getD k 0 = t.lost.getD k 0 := by simp only [TS.mid, setTo_get]; rw [if_neg (by omega)]
      rw [eH] at cH
      rw [eL] at cL
      obtain ⟨kb', ko', s, e, hs, _, d0, d1⟩ := Hk.out.get k hlt
      cases e
      have d0' := hx.cell d0 (by simp only; omega)
      have d1' := hx.cell d1 (by simp only; omega)
      obtain ⟨s0, s1, s2⟩ := Hks.out.2 k s hs
      obtain ⟨v0, v1⟩ := Hpb.out (100 + 5 * r + k)
      obtain ⟨i0, i1⟩ := inside_bd (v := pick by_ (100 + 5 * r + k)) s1
      have hsev : t.sev by_ ks k = t.held.getD k 0 * insideOf s (pick by_ (100 + 5 * r + k)) / 1000 := by
        unfold TS.sev lf
        rw [Hok.out.roads.1]
        simp only [List.getD, hs, Option.getD_some]
      obtain ⟨b0, b1⟩ := sev_bd (by_ := by_) Hok.out.held Hks.out k
      have hrow : (goneRow by_ ks t (k + 1)) = (goneRow by_ ks t k).set k (t.held.getD k 0 - t.sev by_ ks k) := rfl
      have hmid : t.mid by_ ks (k + 1) = { { t.mid by_ ks k with lost := (t.mid by_ ks k).lost.set k (t.lost.getD k 0 + (t.held.getD k 0 - t.sev by_ ks k)) } with held := (t.mid by_ ks k).held.set k (t.sev by_ ks k) } := rfl
      have hH := Hok.out.held.2 k
      have hL := Hok.out.lost.2 k
      have hcc := fun W (hW : Ext wr W) => Hcho.out (100 + 5 * r + k) W ((Hb.out.only hx (fun h x hx => by have := hcb h x hx; omega)).ext hW) (by omega)
      have hii := fun W => Hins.out s (pick by_ (100 + 5 * r + k)) W s0 s1 (by omega) v0 v1
      generalize insideOf s (pick by_ (100 + 5 * r + k)) = I at *
      generalize pick by_ (100 + 5 * r + k) = V at *
      generalize t.sev by_ ks k = B at *
      generalize t.held.getD k 0 = A at *
      generalize t.lost.getD k 0 = L at *
      obtain ⟨m1, m2⟩ := mul_bd (M := 1000000000000000) (N := 1000) hH.1 (by omega) (show 0 ≤ I by omega) (show I ≤ 1000 by omega)
      simp only [Int.reduceMul] at m2
      obtain ⟨P, hP⟩ : ∃ P, A * I = P := ⟨_, rfl⟩
      rw [hP] at hsev m1 m2
      replace hsev := hsev.symm
      simp only [Int.natCast_add, Int.natCast_mul, Int.cast_ofNat_Int] at hcc
      have Hx := Lib.hid hx
      have Hfb := Lib.hid hfb
      have Hgb := Lib.hid hgb
      have Htr := Lib.hid htr
      have Hlm := Lib.hid hlm
      have Hcc := Lib.hid hcc
      have Hii := Lib.hid hii
      have Hrow := Lib.hid hrow
      have Hmid := Lib.hid hmid
      have EL := Lib.hid eL
      clear hx hfb hgb htr hlm hcc hii hrow hmid eL
      clear hs d0 d1 e1 e2 h1 h2 eH
      go_wp2_with fail
      refine wp_region_tree (.take [0, 1, 2, 3, 4, 5, 6, 7, 8, 9, 10, 11, 12, 13, 14, 15, 16, 17, 18, 19, 20] (.one 21 (.one 22 (.take [23, 24, 25] .done)))) (Ext wr) _ (by kernel_rfl) (by kernel_rfl) rfl ((Ext.refl _).drew) ?_
      intro ι _ f hf hs
      have f0 := fun q => (hf q).cell cH
      have f1 := fun q => (hf q).cell d0'
      have f2 := fun q => (hf q).cell d1'
      have f3 := fun q => (hf q).cell cR
      have f4 := fun q => ((hf q).box Hfb.out).1
      have HS := Lib.hid hs
      clear hf hs
      simp only [treeOf, oneOp, twoOp, opsOf, consOp, List.getElem?_toArray, List.getElem?_cons_succ, List.getElem?_cons_zero]
      refine wpOT_take ?_
      repeat (go_big_quiet_step (fail))
      refine wpQuiet_nil ?_
      refine wpOT_one ?_
      go_wp2_with (go_at_call 68; refine (Hcc.out _ (Ext.refl _).drew).mono ?_; rintro e w3 ⟨rfl, rfl⟩)
      refine ⟨HS.out _ ((Ext.refl _).drew), ?_⟩
      refine wpOT_one ?_
      go_wp2_with (go_at_call 67; refine (Hii.out _).mono ?_; rintro e w4 ⟨rfl, hx4⟩)
      refine ⟨HS.out _ ((Ext.refl _).drew.trans hx4), ?_⟩
      refine wpOT_take ?_
      repeat (go_big_quiet_step (fail))
      refine wpQuiet_nil ?_
      refine wpOT_done ?_
      clear f0 f1 f2 f3 f4 HS
      rw [hsev]
      have hx14 : Ext wr w4 := (Ext.refl _).drew.trans hx4
      have ho4 := Hx.out.ext hx14
      have hfb4 := hx14.heap Hfb.out
      have hgb4 : RowAt w4 (w.heap.size + 1) 63 (goneRow by_ ks t k) := hx14.heap Hgb.out
      have htr4 := Htr.out.ext hx14
      have hgl : k < (goneRow by_ ks t k).length := by simp only [goneRow, setTo_len]; exact hlt
      have hgbt : w.heap.size + 1 ≠ tb := by omega
      have hfbt : w.heap.size ≠ tb := by omega
      have cH4 := hx14.cell cH
      have cg4 := hgb4.c hgl
      have fg4 := fun j => hgb4.free j
      have hgb6 := hgb4.s k (A - B)
      have ho6 : Only tb w (w4.setCell ⟨w.heap.size + 1, k, none⟩ (.int .i64 (A - B))) := ho4.setCell (x := ⟨w.heap.size + 1, k, none⟩) (.inr (by simp only; omega)) _
      have hfb6 := (heap_setCell_other w4 ⟨w.heap.size + 1, k, none⟩ w.heap.size (.int .i64 (A - B)) (by simp only; omega)).trans hfb4
      have htr6 := htr4.same (heap_setCell_other w4 ⟨w.heap.size + 1, k, none⟩ tb (.int .i64 (A - B)) (by simp only; omega))
      rw [← Hrow.out] at hgb6
      have Ho6 := Lib.hid ho6
      have Hfb6 := Lib.hid hfb6
      have Htr6 := Lib.hid htr6
      have Hgb6 := Lib.hid hgb6
      clear ho6 hfb6 htr6 hgb6
      clear hx4 hx14 ho4 hfb4 hgb4 htr4 cH cL cR d0' d1' Hx Hfb Hgb Htr Hcc Hii hP
      go_upto_region 7 with fail
      clear cH4 cg4 fg4
      generalize w4.setCell ⟨w.heap.size + 1, k, none⟩ (.int .i64 (A - B)) = w6 at *
      have hgl6 : k < (goneRow by_ ks t (k + 1)).length := by simp only [goneRow, setTo_len]; exact hlt
      have cg6 := Hgb6.out.c hgl6
      have eg : (goneRow by_ ks t (k + 1)).getD k 0 = A - B := by rw [Hrow.out, getD_set _ _ _ hgl, if_pos rfl]
      rw [eg] at cg6
      have cL6 := Htr6.out.cL Hlm.out hlt
      rw [EL.out] at cL6
      refine wp_region_mix [0, 1, 2, 3, 4, 5, 6, 7, 8, 9] [(10, false), (11, false), (12, false), (13, true)] (Ext w6) _ _ (by kernel_rfl) (by kernel_rfl) (by kernel_rfl) rfl rfl ((Ext.refl _).drew) ?_
      intro ι _ f hf
      have f0 := fun q => (hf q).cell cg6
      have f1 := fun q => (hf q).cell cL6
      clear hf
      simp only [opsOf, opsOfT, consOp, consOpT, List.getElem?_toArray, List.getElem?_cons_succ, List.getElem?_cons_zero]
      repeat (go_big_quiet_step (fail))
      refine wpQuiet_nil ?_
      clear f0 f1
      refine wpListS_step ?_
      go_wp2_with fail
      refine ⟨(Ext.refl _).drew, ?_⟩
      refine wpListS_step ?_
      go_wp2_with fail
      refine ⟨(Ext.refl _).drew, ?_⟩
      refine wpListS_step ?_
      go_wp2_with fail
      refine ⟨(Ext.refl _).drew, ?_⟩
      have fT7 := fun j => Htr6.out.free j
      refine wpListS_last ?_
      go_wp2_with fail
      refine wpListS_nil ?_
      clear fT7
      have htr8 := (Htr6.out.sL Hlm.out hlt (L + (A - B))).ext (Ext.refl _).drew
      have ho8 : Only tb w (w6.setCell ⟨tb, 15 + k, none⟩ (.int .i64 (L + (A - B)))).drew := (Ho6.out.setCell (x := ⟨tb, 15 + k, none⟩) (.inl rfl) _).ext (Ext.refl _).drew
      have hoth8 : ∀ x, x ≠ tb → (w6.setCell ⟨tb, 15 + k, none⟩ (.int .i64 (L + (A - B)))).drew.heap[x]? = w6.heap[x]? := fun x hx => heap_setCell_other w6 _ _ _ hx
      have hfb8 := (hoth8 _ hfbt).trans Hfb6.out
      have hgb8 : RowAt _ (w.heap.size + 1) 63 (goneRow by_ ks t (k + 1)) := (hoth8 _ hgbt).trans Hgb6.out
      clear hoth8
      generalize (w6.setCell ⟨tb, 15 + k, none⟩ (.int .i64 (L + (A - B)))).drew = w8 at *
      have hl8 : L5 { t.mid by_ ks k with lost := (t.mid by_ ks k).lost.set k (L + (A - B)) } := ⟨Hlm.out.held, Hlm.out.given, Hlm.out.got, by simp only [List.length_set]; exact Hlm.out.lost⟩
      have cH8 := htr8.cH hl8 hlt
      have fT8 := fun j => htr8.free j
      have htr9 := htr8.sH hl8 hlt B
      have ho9 : Only tb w (w8.setCell ⟨tb, k, none⟩ (.int .i64 B)) := ho8.setCell (x := ⟨tb, k, none⟩) (.inl rfl) _
      have hfb9 := (heap_setCell_other w8 ⟨tb, k, none⟩ _ (.int .i64 B) hfbt).trans hfb8
      have hgb9 : RowAt (w8.setCell ⟨tb, k, none⟩ (.int .i64 B)) (w.heap.size + 1) 63 (goneRow by_ ks t (k + 1)) := (heap_setCell_other w8 ⟨tb, k, none⟩ _ (.int .i64 B) hgbt).trans hgb8
      rw [← Hmid.out] at htr9
      have Htr9 := Lib.hid htr9
      have Ho9 := Lib.hid ho9
      have Hfb9 := Lib.hid hfb9
      have Hgb9 := Lib.hid hgb9
      clear htr9 ho9 hfb9 hgb9
      clear htr8 ho8 hfb8 hgb8 cg6 cL6 hl8
      go_wp2_with fail
      go_roundw
      case rel => exact ⟨k + 1, by omega, by go_num, Ho9.out, Hfb9.out, Hgb9.out, Htr9.out⟩
      case measure => simp [intOf]; omega
    · obtain rfl : k = 5 := by omega
      rw [show ((5 : Nat) : Int) = 5 from rfl]
      have hlt' : decide ((5 : Int) < 5) = false := rfl
      have Hx := Lib.hid hx
      have Hfb := Lib.hid hfb
      have Hgb := Lib.hid hgb
      have Htr := Lib.hid htr
      clear hx hfb hgb htr
      go_wp2_with fail
      have hrow5 : (goneRow by_ ks t 5).length = 5 := by simp [goneRow, setTo_len]
      have hrx : ∃ x0 x1 x2 x3 x4, goneRow by_ ks t 5 = [x0, x1, x2, x3, x4] := by
        match goneRow by_ ks t 5, hrow5 with
        | [x0, x1, x2, x3, x4], _ => exact ⟨_, _, _, _, _, rfl⟩
      obtain ⟨x0, x1, x2, x3, x4, hrx⟩ := hrx
      have hgbx : wr.heap[w.heap.size + 1]? = some (.cells #[.int .i64 x0, .int .i64 x1, .int .i64 x2, .int .i64 x3, .int .i64 x4] 63 (0, 0)) := by
        have := Hgb.out
        unfold RowAt at this
        rw [hrx] at this
        exact this
      obtain ⟨e1, e2, _, _⟩ := Hok.out.mid (by_ := by_) Hks.out 5
      have hlm : L5 (t.mid by_ ks 5) := ⟨e1, Hl5.out.given, Hl5.out.got, e2⟩
      have cR := Htr.out.cR hlm
      have hgbl := heap_lt hgbx
      have htbl := Htr.out.lt
      have hownr : Owns wr base 63 5 (.slice ra r rc) (roadRows t.roads) := How.out.only Hx.out htb
      have Hgbl := Lib.hid hgbl
      have Htbl := Lib.hid htbl
      have Hlm := Lib.hid hlm
      have Hownr := Lib.hid hownr
      have Hrx := Lib.hid hrx
      clear hlm hownr hrx
      clear e1 e2 hrow5 hgbl htbl
      refine wp_region_mix [0, 1, 2, 3, 4, 5] [(6, false), (7, false), (8, false), (9, false), (10, true)] (Same2 wr tb (w.heap.size + 1)) _ _ (by kernel_rfl) (by kernel_rfl) (by kernel_rfl) rfl rfl (⟨rfl, rfl⟩) ?_
      intro ι _ f hf
      have f0 := fun q => (World.cell?_of_block (a := ⟨tb, 20, none⟩) (hf q).1).trans cR
      have f1 := fun q => ((Ext.refl _).box ((hf q).2.trans hgbx)).1
      clear hf
      simp only [opsOf, opsOfT, consOp, consOpT, List.getElem?_toArray, List.getElem?_cons_succ, List.getElem?_cons_zero]
      repeat (go_big_quiet_step (fail))
      refine wpQuiet_nil ?_
      clear f0 f1
      refine wpListS_step ?_
      go_wp2_with fail
      have hx1 : Ext wr (wr.alloc (.cells #[.int .i64 x0, .int .i64 x1, .int .i64 x2, .int .i64 x3, .int .i64 x4] 63)).drew := ((Ext.refl _).alloc _).drew
      have hnb : (wr.alloc (.cells #[.int .i64 x0, .int .i64 x1, .int .i64 x2, .int .i64 x3, .int .i64 x4] 63)).drew.heap[wr.heap.size]? = some (.cells #[.int .i64 x0, .int .i64 x1, .int .i64 x2, .int .i64 x3, .int .i64 x4] 63 (0, 0)) := heap_alloc_new wr _
      have hsm := Same2.ext Htbl.out Hgbl.out hx1
      generalize (wr.alloc (.cells #[.int .i64 x0, .int .i64 x1, .int .i64 x2, .int .i64 x3, .int .i64 x4] 63)).drew = w1 at *
      have hsrc : SlAt w1 5 (some ⟨wr.heap.size, 0, none⟩) 1 (fun k => (roadRows [goneRow by_ ks t 5]).getD k []) := slAt_one (r := iv (goneRow by_ ks t 5)) (by
        intro j v hv
        rw [Hrx.out] at hv
        rw [Nat.zero_add, cell_of_row w1 _ j _ 63 (0, 0) hnb, List.getElem?_toArray]
        exact hv)
      have hown1 := Hownr.out.ext hx1
      have ho1 := Hx.out.ext hx1
      have htr1 := Htr.out.ext hx1
      have hbs1 : base ≤ w1.heap.size := by
        have h1 := hx1.size
        have h2 := Hx.out.size
        have := Hbs.out
        omega
      have hrl : (roadRows t.roads).length = r := by rw [roadRows, List.length_map]; exact Hok.out.roads.1
      have hnb1 : wr.heap.size < w1.heap.size := heap_lt hnb
      have Hsrc := Lib.hid hsrc
      have Hown1 := Lib.hid hown1
      have Ho1 := Lib.hid ho1
      have Htr1 := Lib.hid htr1
      have Hbs1 := Lib.hid hbs1
      have Hrl := Lib.hid hrl
      have Hsm := Lib.hid hsm
      have Hx1 := Lib.hid hx1
      clear hsrc hown1 ho1 htr1 hbs1 hrl hsm hx1
      refine ⟨Hsm.out, ?_⟩
      refine wpListS_step ?_
      go_wp2_with (at_builtin; refine wpList_app elem64 _ rfl (.tmp 71) (.tmp 73) rfl base _ (roadRows t.roads) rfl Hown1.out (some ⟨wr.heap.size, 0, none⟩) 1 1 (roadRows [goneRow by_ ks t 5]) rfl rfl Hsrc.out (roadRows_row (fun x hx => by rw [List.mem_singleton.1 hx]; simp [goneRow, setTo_len])) ?_ ?_ ?_)
      · rw [Hrl.out]; omega
      · exact Hbs1.out
      · intro v6 w6 ho6 hg6 hob6
        rw [← roadRows_append] at ho6
        have hob : ∀ k, v6.ownBlock = some k → (Value.slice ra r rc).ownBlock = some k ∨ w.heap.size ≤ k := fun k e => by
          rcases hob6 with h | h
          · exact .inl (h ▸ e)
          · rw [h] at e
            cases e
            right
            have h1 := Hx1.out.size
            have h2 := Hx.out.size
            omega
        clear hob6
        obtain ⟨va, vc, hv6, _, _, _, _⟩ := ho6.slAt
        generalize (roadRows (t.roads ++ [goneRow by_ ks t 5])).length = N at hv6
        subst hv6
        have hrvb : ∀ x, (Value.slice ra r rc).ownBlock = some x → base ≤ x ∧ x < w.heap.size := How.out.lt
        have ht6 : w6.heap[tb]? = w1.heap[tb]? := hg6.block tb (by have := Hx1.out.size; have := Htbl.out; omega) (fun e => by have := hrvb tb e.symm; omega)
        have hgb6 : w6.heap[w.heap.size + 1]? = w1.heap[w.heap.size + 1]? := hg6.block _ (by have := Hx1.out.size; have := Hgbl.out; omega) (fun e => by have := hrvb _ e.symm; omega)
        have hs6 : Same2 wr tb (w.heap.size + 1) w6 := ⟨ht6.trans Hsm.out.1, hgb6.trans Hsm.out.2⟩
        have ho26 : Only2 tb (Value.slice ra r rc).ownBlock w w6 := (Ho1.out.two _).grown hg6
        have htr6 := Htr1.out.same ht6
        have cR6 := htr6.cR Hlm.out
        have fT6 := fun j => htr6.free j
        have Ho6 := Lib.hid ho6
        have Hs6 := Lib.hid hs6
        have Ho26 := Lib.hid ho26
        have Htr6 := Lib.hid htr6
        have Hob := Lib.hid hob
        clear ho6 hs6 ho26 htr6 hob
        clear hg6 ht6 hgb6 hrvb
        go_wp2_with fail
        refine ⟨Hs6.out, ?_⟩
        refine wpListS_step ?_
        go_wp2_with fail
        refine ⟨Hs6.out, ?_⟩
        refine wpListS_step ?_
        go_wp2_with fail
        refine ⟨Hs6.out, ?_⟩
        refine wpListS_last ?_
        go_wp2_with fail
        refine wpListS_nil ?_
        have htr7 := Htr6.out.sR Hlm.out (.slice va N vc) (t.roads ++ [goneRow by_ ks t 5])
        have ho7 : Owns (w6.setCell ⟨tb, 20, none⟩ (.slice va N vc)) base 63 5 (.slice va N vc) (roadRows (t.roads ++ [goneRow by_ ks t 5])) := Ho6.out.only (p := tb) ((Only.refl tb w6).setCell (x := ⟨tb, 20, none⟩) (.inl rfl) (.slice va N vc)) htb
        have ho27 : Only2 tb (Value.slice ra r rc).ownBlock w (w6.setCell ⟨tb, 20, none⟩ (.slice va N vc)) := Ho26.out.only ((Only.refl tb w6).setCell (x := ⟨tb, 20, none⟩) (.inl rfl) (.slice va N vc))
        clear cR6 fT6
        generalize w6.setCell ⟨tb, 20, none⟩ (.slice va N vc) = w7 at *
        refine bodyPost_end (v := .tuple #[]) (by simp [results, Try.results66, go_sem]) rfl ?_
        exact ⟨_, _, rfl, ho27, htr7, ho7, Hob.out⟩
end Go.Proofs.Ytkbhmajcddmhnaa
