/- Contracts of the statements' own small functions: choose, inside, narrow's part. -/
import Derived.Test.YtkbhmajcddmhnaaVEx
import Derived.Test.YtkbhmajcddmhnaaVGr8
import Derived.Deep.CutRange
import Derived.Deep.CutBlock
namespace Go.Proofs.Ytkbhmajcddmhnaa
open Go.RowKit
set_option linter.unusedVariables false
set_option linter.unusedSimpArgs false

def u32s (l : List Int) : Prop := ∀ x ∈ l, 0 ≤ x ∧ x ≤ 4294967295
def pick (l : List Int) (i : Nat) : Int := l.getD i 0
theorem pick_bd {l : List Int} (h : u32s l) (i : Nat) : 0 ≤ pick l i ∧ pick l i ≤ 4294967295 := by
  unfold pick
  cases hi : l[i]? with
  | none => simp [List.getD, hi]
  | some x => simpa [List.getD, hi] using h x (List.mem_of_getElem? hi)
theorem choose_any (a : Option Addr) (n cap : Nat) (l : List Int) (i : Nat) (w : World) (hl : IntsAt .u32 w a n l) (hi : i ≤ 1000000) (hn : n ≤ 9223372036854775807) :
    Calls Try.prog 68 #[.slice a n cap, .int .i64 i] w fun e w' => e = .returned (.int .u32 (pick l i)) ∧ w = w' := by
  by_cases hlt : i < n
  · have hlt' : decide ((i : Int) < (n : Int)) = true := by simp; omega
    obtain ⟨b, o, x, rfl, hx, hb, e0⟩ := hl.get i hlt
    have hp : pick l i = x := by simp [pick, List.getD, hx]
    rw [hp]
    clear hl hx hp
    go_enter Try.func68, Try.ntmps68
    go_wp2
    go_ret
    exact ⟨rfl, rfl⟩
  · have hlt' : decide ((i : Int) < (n : Int)) = false := by simp; omega
    have hp : pick l i = 0 := by simp [pick, List.getD, List.getElem?_eq_none (show l.length ≤ i by rw [hl.1]; omega)]
    rw [hp]
    clear hl hp
    go_enter Try.func68, Try.ntmps68
    go_wp2
    go_ret
    exact ⟨rfl, rfl⟩
/-- a number of a span, chosen by another one -/
def insideOf (s : Span) (v : Int) : Int := s.lo + v % (s.hi - s.lo + 1)
theorem inside_bd {s : Span} {v : Int} (h : s.lo ≤ s.hi) : s.lo ≤ insideOf s v ∧ insideOf s v ≤ s.hi := by
  unfold insideOf
  have h1 := Int.emod_nonneg v (show s.hi - s.lo + 1 ≠ 0 by omega)
  have h2 := Int.emod_lt_of_pos v (show 0 < s.hi - s.lo + 1 by omega)
  omega
theorem inside_any (s : Span) (v : Int) (w : World) (h0 : 0 ≤ s.lo) (h1 : s.lo ≤ s.hi) (h2 : s.hi ≤ 1000000) (v0 : 0 ≤ v) (v1 : v ≤ 4294967295) :
    Calls Try.prog 67 #[.agg #[.int .i64 s.lo, .int .i64 s.hi], .int .u32 v] w fun e w' => e = .returned (.int .i64 (insideOf s v)) ∧ Ext w w' := by
  obtain ⟨lo, hi⟩ := s
  simp only at h0 h1 h2 ⊢
  have hb := heap_alloc_new w (.cells #[.int .i64 lo, .int .i64 hi] 70)
  have hx : Ext w (w.alloc (.cells #[.int .i64 lo, .int .i64 hi] 70)) := (Ext.refl _).alloc _
  have e1 := Int.emod_nonneg v (show hi - lo + 1 ≠ 0 by omega)
  have e2 := Int.emod_lt_of_pos v (show 0 < hi - lo + 1 by omega)
  have hne : (hi - lo + 1 == 0) = false := by rw [beq_eq_false_iff_ne]; omega
  obtain ⟨D, hD⟩ : ∃ D, hi - lo + 1 = D := ⟨_, rfl⟩
  obtain ⟨R, hR⟩ : ∃ R, v % D = R := ⟨_, rfl⟩
  have hi' : insideOf ⟨lo, hi⟩ v = lo + R := by unfold insideOf; rw [hD, hR]
  rw [hi']
  rw [hD] at e1 e2 hne
  rw [hR] at e1 e2
  have Hx := Lib.hid hx
  clear hx
  clear hi'
  go_enter Try.func67, Try.ntmps67
  go_upto_region 1 with fail
  refine wp_region_ext (by kernel_rfl) (by kernel_rfl) (fun f hf hs => ?_)
  have f0 := fun q => ((hf q).box hb).1
  clear hf hs
  repeat (go_big_quiet_step (fail))
  refine wpQuiet_nil ?_
  intro W1 hW1
  clear f0
  go_wp2_with fail
  go_ret
  exact ⟨rfl, Hx.out.trans hW1⟩
theorem IntsAt.block {k : IntKind} {w : World} {a : Option Addr} {n : Nat} {l : List Int} (h : IntsAt k w a n l) (hn : 0 < n) {x : Addr} (hx : a = some x) : x.block < w.heap.size := by
  obtain ⟨b, o, y, e, _, hb, _⟩ := h.get 0 hn
  rw [hx] at e
  cases e
  exact hb
theorem IntsAt.only {k : IntKind} {w w' : World} {a : Option Addr} {n : Nat} {l : List Int} {p : Nat} (h : IntsAt k w a n l) (e : Only p w w') (hp : 0 < n → ∀ x, a = some x → x.block ≠ p) : IntsAt k w' a n l :=
  ⟨h.1, fun hn => (h.2.same (w' := w') fun x hx => e.block x.block (h.block hn hx) (by have := hp hn x hx; simpa using this)) hn⟩
theorem IntsAt.setCell {k : IntKind} {w : World} {a : Option Addr} {n : Nat} {l : List Int} {p : Addr} (h : IntsAt k w a n l) (v : Value) (hp : 0 < n → ∀ x, a = some x → x.block ≠ p.block) : IntsAt k (w.setCell p v) a n l :=
  ⟨h.1, fun hn => (h.2.same (w' := w.setCell p v) fun x hx => heap_setCell_other _ _ _ _ (hp hn x hx)) hn⟩
/-- a span in another one -/
def Within (s t : Span) : Prop := s.lo ≤ t.lo ∧ t.lo ≤ t.hi ∧ t.hi ≤ s.hi
/-- where narrow's count and choices lie -/
def CapsAt (w : World) (nb bb : Nat) (i : Nat) (ca : Option Addr) (cn cc : Nat) : Prop :=
  w.heap[nb]? = some (.cells #[.int .i64 i] 3 (0, 0)) ∧ w.heap[bb]? = some (.cells #[.slice ca cn cc] 60 (0, 0)) ∧ nb ≠ bb
set_option maxRecDepth 100000 in
set_option maxHeartbeats 2000000 in
theorem narPart_any (s : Span) (nb bb i : Nat) (ca : Option Addr) (cn cc : Nat) (by_ : List Int) (w : World) (h0 : 0 ≤ s.lo) (h1 : s.lo ≤ s.hi) (h2 : s.hi ≤ 1000) (hi : i ≤ 1000) (hu : u32s by_)
    (hc : CapsAt w nb bb i ca cn cc) (hl : IntsAt .u32 w ca cn by_) (hcb : 0 < cn → ∀ x, ca = some x → x.block ≠ nb) (hcn : cn ≤ 9223372036854775807) :
    Calls Try.prog 69 #[.agg #[.int .i64 s.lo, .int .i64 s.hi], .pointer (some ⟨nb, 0, none⟩), .pointer (some ⟨bb, 0, none⟩)] w fun e w' => ∃ t : Span, e = .returned (.agg #[.int .i64 t.lo, .int .i64 t.hi]) ∧ Within s t ∧ Only nb w w' ∧ CapsAt w' nb bb (i + 2) ca cn cc := by
  obtain ⟨hn0, hb0, hne⟩ := hc
  have hins := fun t v W => inside_any t v W
  have hcho := fun (j : Nat) W (hW : IntsAt .u32 W ca cn by_) (hj : j ≤ 1000000) => choose_any ca cn cc by_ j W hW hj hcn
  have hspa := fun a b W => span_any a b W
  have hpb := fun j => pick_bd hu j
  have hnlt := heap_lt hn0
  have hblt := heap_lt hb0
  have hs1 := heap_alloc_new w (.cells #[.int .i64 s.lo, .int .i64 s.hi] 70)
  have hr1 := heap_alloc_new (w.alloc (.cells #[.int .i64 s.lo, .int .i64 s.hi] 70)) (.cells #[.int .i64 0, .int .i64 0] 70)
  have hx01 : Ext w ((w.alloc (.cells #[.int .i64 s.lo, .int .i64 s.hi] 70)).alloc (.cells #[.int .i64 0, .int .i64 0] 70)) := ((Ext.refl _).alloc _).alloc _
  have hs1 := ((Ext.refl (w.alloc (.cells #[.int .i64 s.lo, .int .i64 s.hi] 70))).alloc (.cells #[.int .i64 0, .int .i64 0] 70)).heap hs1
  rw [show (w.alloc (.cells #[.int .i64 s.lo, .int .i64 s.hi] 70)).heap.size = w.heap.size + 1 by simp] at hr1
  have Hins := Lib.hid hins
  have Hcho := Lib.hid hcho
  have Hspa := Lib.hid hspa
  have Hpb := Lib.hid hpb
  have Hl := Lib.hid hl
  clear hins hcho hspa hpb hl
  go_enter Try.func69, Try.ntmps69
  go_upto_region 1 with fail
  generalize (w.alloc (.cells #[.int .i64 s.lo, .int .i64 s.hi] 70)).alloc (.cells #[.int .i64 0, .int .i64 0] 70) = w1 at *
  have hn1 := hx01.heap hn0
  have hb1 := hx01.heap hb0
  obtain ⟨k0, k1⟩ := (Ext.refl w1).box hn1
  have hl1 := Hl.out.ext hx01
  have ho01 := hx01.only nb
  have Hl1 := Lib.hid hl1
  have Hs1 := Lib.hid hs1
  have Hr1 := Lib.hid hr1
  have Hb1 := Lib.hid hb1
  have Ho01 := Lib.hid ho01
  clear hl1 hs1 hr1 hb1 ho01
  clear hx01 hb0 hn0
  go_upto_region 2 with fail
  clear k0 k1
  have ho12 : Only nb w (w1.setCell ⟨nb, 0, none⟩ (.int .i64 (i + 2))) := Ho01.out.setCell (.inl rfl) _
  have hn2 : (w1.setCell ⟨nb, 0, none⟩ (.int .i64 (i + 2))).heap[nb]? = some (.cells #[.int .i64 (i + 2)] 3 (0, 0)) := by rw [heap_setCell_box, hn1]; rfl
  have hb2 := (heap_setCell_other w1 ⟨nb, 0, none⟩ bb (.int .i64 (i + 2)) (fun e => hne e.symm)).trans Hb1.out
  have hs2 := (heap_setCell_other w1 ⟨nb, 0, none⟩ w.heap.size (.int .i64 (i + 2)) (by simp only; omega)).trans Hs1.out
  have hr2 := (heap_setCell_other w1 ⟨nb, 0, none⟩ (w.heap.size + 1) (.int .i64 (i + 2)) (by simp only; omega)).trans Hr1.out
  have hl2 : IntsAt .u32 (w1.setCell ⟨nb, 0, none⟩ (.int .i64 (i + 2))) ca cn by_ := Hl1.out.setCell _ hcb
  clear hn1 Hb1 Hs1 Hr1 Ho01 Hl1
  generalize w1.setCell ⟨nb, 0, none⟩ (.int .i64 (i + 2)) = w2 at *
  obtain ⟨v0, v1⟩ := Hpb.out (i + 2)
  obtain ⟨y0, y1⟩ := Hpb.out (i + 2 + 1)
  have hpc := fun W (hW : Ext w2 W) => Hcho.out (i + 2) W (hl2.ext hW) (by omega)
  simp only [Int.natCast_add] at hpc
  have Hpc := Lib.hid hpc
  have Ho12 := Lib.hid ho12
  have Hl2 := Lib.hid hl2
  clear hpc ho12 hl2
  refine wp_region_ext (by kernel_rfl) (by kernel_rfl) (fun f hf hs => ?_)
  have f0 := fun q => ((hf q).box hs2).1
  have f1 := fun q => ((hf q).box hb2).1
  have f2 := fun q => ((hf q).box hn2).1
  have Hf := Lib.hid hf
  have HS := Lib.hid hs
  clear hf hs
  repeat (go_big_quiet_step ((first | (go_at_call 68; exact Calls.ext_of (Hf.out _) HS.out ((Hpc.out _ (Hf.out _)).mono fun e w' h => ⟨h.1, h.2 ▸ Ext.refl _⟩)) | (go_at_call 67; exact Calls.ext_of (Hf.out _) HS.out (Hins.out _ _ _ h0 h1 (by omega) v0 v1)))))
  refine wpQuiet_nil ?_
  intro W3 hW3
  clear f0 f1 f2
  obtain ⟨l0, l1⟩ := inside_bd (v := pick by_ (i + 2)) h1
  generalize insideOf s (pick by_ (i + 2)) = L at *
  have hs3 := hW3.heap hs2
  have hb3 := hW3.heap hb2
  have hn3 := hW3.heap hn2
  have hr3 := hW3.heap hr2
  have hl3 := Hl2.out.ext hW3
  have ho3 := Ho12.out.ext hW3
  have hcl : 0 < cn → ∀ x, ca = some x → x.block ≠ w.heap.size + 1 := fun hc0 x hx e => by
    have := Hl.out.block hc0 hx
    omega
  have hpd := fun W (hW : Only (w.heap.size + 1) W3 W) => Hcho.out (i + 2 + 1) W (hl3.only hW hcl) (by omega)
  have hin2 := fun W => Hins.out ⟨L, s.hi⟩ (pick by_ (i + 2 + 1)) W (by simp only; omega) l1 (by simp only; omega) y0 y1
  obtain ⟨m0, m1⟩ := inside_bd (s := ⟨L, s.hi⟩) (v := pick by_ (i + 2 + 1)) l1
  generalize insideOf ⟨L, s.hi⟩ (pick by_ (i + 2 + 1)) = M at *
  simp only [Int.natCast_add, Int.cast_ofNat_Int] at hpd
  simp only at hin2 m0 m1
  have Hpd := Lib.hid hpd
  have Hin2 := Lib.hid hin2
  have Ho3 := Lib.hid ho3
  have Hl3 := Lib.hid hl3
  clear hpd hin2 ho3 hl3
  clear Hpc hs2 hb2 hn2 hr2 hW3 Hl2 Ho12
  go_wp2_with fail
  refine wp_region_tree (.take [0, 1, 2, 3, 5, 6, 7] (.one 4 (.one 8 (.one 9 (.one 10 (.one 11 .done)))))) (Only (w.heap.size + 1) W3) _ (by kernel_rfl) (by kernel_rfl) rfl ((Only.refl _ _).drew) ?_
  intro ι _ f hf hs
  have f0 := fun q => ((hf q).box hs3 (by omega)).1
  have f1 := fun q => ((hf q).box hn3 (by omega)).1
  have f2 := fun q => ((hf q).box hb3 (by omega)).1
  have HS := Lib.hid hs
  clear hf hs
  simp only [treeOf, oneOp, twoOp, opsOf, consOp, List.getElem?_toArray, List.getElem?_cons_succ, List.getElem?_cons_zero]
  refine wpOT_take ?_
  repeat (go_big_quiet_step (fail))
  refine wpQuiet_nil ?_
  refine wpOT_one ?_
  go_wp2_with (go_at_call 65; refine (Hspa.out _ _ _).mono ?_; rintro e w4 ⟨rfl, hx4⟩)
  refine ⟨HS.out _ ((Only.refl _ _).drew.ext hx4), ?_⟩
  refine wpOT_one ?_
  go_wp2_with (go_at_call 68; refine (Hpd.out _ ((Only.refl _ _).drew.ext hx4)).mono ?_; rintro e w5 ⟨rfl, rfl⟩)
  refine ⟨HS.out _ ((Only.refl _ _).drew.ext hx4), ?_⟩
  refine wpOT_one ?_
  go_wp2_with (go_at_call 67; refine (Hin2.out _).mono ?_; rintro e w6 ⟨rfl, hx6⟩)
  refine ⟨HS.out _ ((Only.refl _ _).drew.ext (hx4.trans hx6)), ?_⟩
  refine wpOT_one ?_
  go_wp2_with (go_at_call 65; refine (Hspa.out _ _ _).mono ?_; rintro e w7 ⟨rfl, hx7⟩)
  refine ⟨HS.out _ ((Only.refl _ _).drew.ext ((hx4.trans hx6).trans hx7)), ?_⟩
  refine wpOT_one ?_
  have hx37 : Ext W3 w7 := (Ext.refl _).drew.trans ((hx4.trans hx6).trans hx7)
  have hr7 := hx37.heap hr3
  obtain ⟨k0, k1⟩ := (Ext.refl w7).box hr7
  go_wp2_with fail
  have hon8 : Only (w.heap.size + 1) W3 ((w7.setCell ⟨w.heap.size + 1, 0, none⟩ (.int .i64 L)).setCell ⟨w.heap.size + 1, 1, none⟩ (.int .i64 M)) := ((hx37.only (w.heap.size + 1)).setCell (x := ⟨w.heap.size + 1, 0, none⟩) (.inl rfl) (.int .i64 L)).setCell (x := ⟨w.heap.size + 1, 1, none⟩) (.inl rfl) (.int .i64 M)
  have hr8 : ((w7.setCell ⟨w.heap.size + 1, 0, none⟩ (.int .i64 L)).setCell ⟨w.heap.size + 1, 1, none⟩ (.int .i64 M)).heap[w.heap.size + 1]? = some (.cells #[.int .i64 L, .int .i64 M] 70 (0, 0)) := by
    rw [heap_setCell_box, heap_setCell_box, hr7]; rfl
  clear k0 k1
  generalize (w7.setCell ⟨w.heap.size + 1, 0, none⟩ (.int .i64 L)).setCell ⟨w.heap.size + 1, 1, none⟩ (.int .i64 M) = w8 at *
  refine ⟨HS.out _ hon8, ?_⟩
  refine wpOT_done ?_
  clear f0 f1 f2 HS
  obtain ⟨k0, k1⟩ := (Ext.refl w8).box hr8
  have hn8 := hon8.heap hn3 (by omega)
  have hb8 := hon8.heap hb3 (by omega)
  have ho8 : Only nb w w8 := ⟨hon8.os.trans Ho3.out.os, hon8.tape.trans Ho3.out.tape, hon8.output.trans Ho3.out.output, Nat.le_trans Ho3.out.size hon8.size, fun k hk hk' => (hon8.block k (Nat.lt_of_lt_of_le hk Ho3.out.size) (by simp; omega)).trans (Ho3.out.block k hk hk')⟩
  have Ho8 := Lib.hid ho8
  clear ho8
  go_wp2_with fail
  refine bodyPost_ret (v := .agg #[.int .i64 L, .int .i64 M]) (by simp [results, Try.results69, go_sem, k0]) rfl ?_
  exact ⟨⟨L, M⟩, rfl, ⟨l0, m0, m1⟩, Ho8.out, hn8, hb8, hne⟩
end Go.Proofs.Ytkbhmajcddmhnaa

/- Rows of cells in a block of their own, which may be written. -/
namespace Go.Proofs.Ytkbhmajcddmhnaa
open Go.RowKit
set_option linter.unusedVariables false
set_option linter.unusedSimpArgs false

def RowBlock (w : World) (b : Nat) (t : TypeId) (sz : Nat) (rows : List (List Value)) : Prop :=
  (∀ r ∈ rows, r.length = sz) ∧ ∃ cs : Array Value, w.heap[b]? = some (.cells cs t (0, 0)) ∧ ∀ (k : Nat) (r : List Value) (j : Nat) (v : Value), rows[k]? = some r → r[j]? = some v → cs[k * sz + j]? = some v
section
variable {w w' : World} {b : Nat} {t : TypeId} {sz : Nat} {rows : List (List Value)}
theorem RowBlock.same (h : RowBlock w b t sz rows) (e : w'.heap[b]? = w.heap[b]?) : RowBlock w' b t sz rows :=
  ⟨h.1, let ⟨cs, h1, h2⟩ := h.2; ⟨cs, e.trans h1, h2⟩⟩
theorem RowBlock.lt (h : RowBlock w b t sz rows) : b < w.heap.size := let ⟨_, h1, _⟩ := h.2; heap_lt h1
theorem RowBlock.ext (h : RowBlock w b t sz rows) (e : Ext w w') : RowBlock w' b t sz rows := h.same (e.block b h.lt)
theorem RowBlock.only {p : Nat} (h : RowBlock w b t sz rows) (e : Only p w w') (hne : b ≠ p) : RowBlock w' b t sz rows := h.same (e.block b h.lt (by simpa using hne))
theorem RowBlock.cell (h : RowBlock w b t sz rows) {k j : Nat} {r : List Value} {v : Value} (hr : rows[k]? = some r) (hv : r[j]? = some v) : w.cell? ⟨b, k * sz + j, none⟩ = some v := by
  obtain ⟨_, cs, h1, h2⟩ := h
  rw [cell_of_row w b (k * sz + j) cs t (0, 0) h1]
  exact h2 k r j v hr hv
theorem RowBlock.free (h : RowBlock w b t sz rows) (j : Nat) : w.frozen? ⟨b, j, none⟩ = false := by
  obtain ⟨_, cs, h1, h2⟩ := h
  exact frozen_of_row w b j cs t h1
theorem RowBlock.slAt (h : RowBlock w b t sz rows) : SlAt w sz (some ⟨b, 0, none⟩) rows.length (fun k => rows.getD k []) := fun hn =>
  ⟨b, 0, rfl, fun k hk j v hv => by
    rw [Nat.zero_add]
    refine h.cell (r := rows.getD k []) ?_ hv
    simp [List.getD, List.getElem?_eq_getElem hk]⟩
theorem RowBlock.set (h : RowBlock w b t sz rows) {k j : Nat} {r : List Value} (hr : rows[k]? = some r) (hj : j < sz) (v : Value) : RowBlock (w.setCell ⟨b, k * sz + j, none⟩ v) b t sz (rows.set k (r.set j v)) := by
  obtain ⟨h0, cs, h1, h2⟩ := h
  refine ⟨fun x hx => ?_, cs.setIfInBounds (k * sz + j) v, ?_, fun k' r' j' v' hr' hv' => ?_⟩
  · rcases List.mem_or_eq_of_mem_set hx with hx | hx
    · exact h0 x hx
    · rw [hx, List.length_set]
      exact h0 r (List.mem_of_getElem? hr)
  · rw [heap_setCell_box, h1]
    rfl
  · have hrl := h0 r (List.mem_of_getElem? hr)
    obtain ⟨u, hu⟩ : ∃ u, r[j]? = some u := ⟨_, List.getElem?_eq_getElem (by omega)⟩
    have hin := (Array.getElem?_eq_some_iff.1 (h2 k r j u hr hu)).1
    have hkl := (List.getElem?_eq_some_iff.1 hr).1
    rw [Array.getElem?_setIfInBounds]
    by_cases hkk : k = k'
    · subst hkk
      rw [List.getElem?_set_self hkl] at hr'
      cases hr'
      by_cases hjj : j = j'
      · subst hjj
        rw [List.getElem?_set_self (by omega)] at hv'
        cases hv'
        simp [hin]
      · rw [List.getElem?_set_ne hjj] at hv'
        rw [if_neg (by omega)]
        exact h2 k r j' v' hr hv'
    · rw [List.getElem?_set_ne hkk] at hr'
      have hj' : j' < sz := by
        have := h0 r' (List.mem_of_getElem? hr')
        have := (List.getElem?_eq_some_iff.1 hv').1
        omega
      rw [if_neg ?_]
      · exact h2 k' r' j' v' hr' hv'
      · intro e
        rcases Nat.lt_or_ge k k' with hh | hh
        · have := Nat.mul_le_mul_right sz (show k + 1 ≤ k' by omega)
          rw [Nat.add_mul] at this
          omega
        · have := Nat.mul_le_mul_right sz (show k' + 1 ≤ k by omega)
          rw [Nat.add_mul] at this
          omega
end
theorem Owns.block {w : World} {base : Nat} {e : TypeId} {sz : Nat} {v : Value} {rows : List (List Value)} (h : Owns w base e sz v rows) (hn : 0 < rows.length) :
    ∃ b c, v = .slice (some ⟨b, 0, none⟩) rows.length c ∧ rows.length ≤ c ∧ c ≤ maxLen ∧ base ≤ b ∧ RowBlock w b e sz rows := by
  obtain ⟨ho, hr⟩ := h
  rcases ho.2 with ⟨rfl, h0⟩ | ⟨g, cap, cur, rfl, hg, hh, hn', hcap, _, hc⟩
  · omega
  · refine ⟨g, cap, rfl, hn', hcap, hg, hr, cur, hh, fun k r j u hk hu => ?_⟩
    have hjs : j < sz := by
      have := hr r (List.mem_of_getElem? hk)
      have := (List.getElem?_eq_some_iff.1 hu).1
      omega
    have e := flatten_get hr k j r hk hjs
    have hkl := (List.getElem?_eq_some_iff.1 hk).1
    have hm := Nat.mul_le_mul_right sz (show k + 1 ≤ rows.length by omega)
    rw [Nat.add_mul] at hm
    rw [← hc, List.getElem?_take_of_lt (by omega), hu] at e
    rw [← Array.getElem?_toList]
    exact e
/-! ### offers and keeps that may be written -/
theorem offers_of_block {w : World} {b : Nat} {l : List Offer} (h : RowBlock w b 81 8 (offerRows l)) : OffersAt w (some ⟨b, 0, none⟩) l.length l := by
  have := h.slAt
  rw [show (offerRows l).length = l.length by simp [offerRows]] at this
  exact ⟨rfl, this.congr fun i hi => by simp [offerRows, List.getD, List.getElem?_map, List.getElem?_eq_getElem hi]⟩
theorem spans_of_block {w : World} {b : Nat} {l : List Span} (h : RowBlock w b 70 2 (spanRows l)) : SpansAt w (some ⟨b, 0, none⟩) l.length l := by
  have := h.slAt
  rw [show (spanRows l).length = l.length by simp [spanRows]] at this
  exact ⟨rfl, this.congr fun i hi => by simp [spanRows, List.getD, List.getElem?_map, List.getElem?_eq_getElem hi]⟩
def Offer.for_ (o : Offer) (t : Span) : Offer := { o with lo := t.lo, hi := t.hi }
theorem offers_store {w : World} {b : Nat} {l : List Offer} (h : RowBlock w b 81 8 (offerRows l)) {i : Nat} {o : Offer} (ho : l[i]? = some o) (t : Span) :
    RowBlock ((w.setCell ⟨b, i * 8 + 4, none⟩ (.int .i64 t.lo)).setCell ⟨b, i * 8 + 5, none⟩ (.int .i64 t.hi)) b 81 8 (offerRows (l.set i (o.for_ t))) := by
  have hr : (offerRows l)[i]? = some o.cells := by simp [offerRows, ho]
  have h1 := h.set hr (show 4 < 8 by omega) (.int .i64 t.lo)
  have h2 := h1.set (k := i) (j := 5) (List.getElem?_set_self (by have := (List.getElem?_eq_some_iff.1 hr).1; exact this)) (show 5 < 8 by omega) (.int .i64 t.hi)
  rw [List.set_set] at h2
  have e : offerRows (l.set i (o.for_ t)) = (offerRows l).set i ((o.cells.set 4 (.int .i64 t.lo)).set 5 (.int .i64 t.hi)) := by
    simp only [offerRows, List.map_set]
    rfl
  rw [e]
  exact h2
theorem spans_store {w : World} {b : Nat} {l : List Span} (h : RowBlock w b 70 2 (spanRows l)) {i : Nat} (hi : i < l.length) (t : Span) :
    RowBlock ((w.setCell ⟨b, i * 2, none⟩ (.int .i64 t.lo)).setCell ⟨b, i * 2 + 1, none⟩ (.int .i64 t.hi)) b 70 2 (spanRows (l.set i t)) := by
  have hr : (spanRows l)[i]? = some l[i].cells := by simp [spanRows, List.getElem?_eq_getElem hi]
  have h1 := h.set hr (show 0 < 2 by omega) (.int .i64 t.lo)
  have h2 := h1.set (k := i) (j := 1) (List.getElem?_set_self (by have := (List.getElem?_eq_some_iff.1 hr).1; exact this)) (show 1 < 2 by omega) (.int .i64 t.hi)
  rw [List.set_set] at h2
  have e : spanRows (l.set i t) = (spanRows l).set i ((l[i].cells.set 0 (.int .i64 t.lo)).set 1 (.int .i64 t.hi)) := by
    simp only [spanRows, List.map_set]
    rfl
  rw [e]
  exact h2
/-- offers within others; fairs within others -/
def NarO (l l' : List Offer) : Prop := l'.length = l.length ∧ ∀ (i : Nat) (o : Offer), l[i]? = some o → ∃ t : Span, Within ⟨o.lo, o.hi⟩ t ∧ l'[i]? = some (o.for_ t)
def NarK (ks ks' : List Span) : Prop := ks'.length = ks.length ∧ ∀ (g : Nat) (s : Span), ks[g]? = some s → ∃ t, Within s t ∧ ks'[g]? = some t
def NarT (fs fs' : List Fair) : Prop := fs'.length = fs.length ∧ ∀ (i : Nat) (f : Fair), fs[i]? = some f → ∃ ks, NarK f.keeps ks ∧ fs'[i]? = some { f with keeps := ks }
end Go.Proofs.Ytkbhmajcddmhnaa

/- TwinTrip again: each fair's keeps lie in a block of their own. -/
namespace Go.Proofs.Ytkbhmajcddmhnaa
open Go.RowKit
set_option linter.unusedVariables false
set_option linter.unusedSimpArgs false

def FairRow (w : World) (B : Nat) (blk : Option Nat) (l : List Fair) (rows : List (List Value)) (K : Nat → Nat) : Prop :=
  rows.length = l.length ∧ ∀ (i : Nat) (f : Fair), l[i]? = some f → (∃ kc, rows[i]? = some [.int .i64 f.place, .int .i64 f.day, .slice (some ⟨K i, 0, none⟩) f.keeps.length kc] ∧ f.keeps.length ≤ kc ∧ kc ≤ maxLen) ∧
    RowBlock w (K i) 70 2 (spanRows f.keeps) ∧ B ≤ K i ∧ blk ≠ some (K i) ∧ ∀ j, j < i → K j < K i
theorem FairRow.at {w : World} {B : Nat} {blk : Option Nat} {l : List Fair} {rows : List (List Value)} {K : Nat → Nat} (h : FairRow w B blk l rows K) {j : Nat} (hj : j < l.length) : RowBlock w (K j) 70 2 (spanRows l[j].keeps) :=
  (h.2 j l[j] (List.getElem?_eq_getElem hj)).2.1
theorem FairRow.ext {w w' : World} {B : Nat} {blk : Option Nat} {l : List Fair} {rows : List (List Value)} {K : Nat → Nat} (h : FairRow w B blk l rows K) (e : Ext w w') : FairRow w' B blk l rows K :=
  ⟨h.1, fun i f hf => let ⟨h1, h2, h3, h4, h5⟩ := h.2 i f hf; ⟨h1, h2.ext e, h3, h4, h5⟩⟩
theorem FairRow.kept {w w' : World} {B : Nat} {blk blk' : Option Nat} {l : List Fair} {rows : List (List Value)} {K : Nat → Nat} (h : FairRow w B blk l rows K) (e : w.grownBy w' blk) (hb : blk' = blk ∨ blk' = some w.heap.size) : FairRow w' B blk' l rows K :=
  ⟨h.1, fun i f hf => let ⟨h1, h2, h3, h4, h5⟩ := h.2 i f hf
    ⟨h1, h2.same (e.block _ h2.lt (fun e' => h4 e'.symm)), h3, (by
      rcases hb with rfl | rfl
      · exact h4
      · have := h2.lt
        intro e'
        have := Option.some.inj e'
        omega), h5⟩⟩
theorem FairRow.snoc {w : World} {B : Nat} {blk : Option Nat} {l : List Fair} {rows : List (List Value)} {K : Nat → Nat} (h : FairRow w B blk l rows K) {f : Fair} {kb kc : Nat} (h1 : f.keeps.length ≤ kc) (h2 : kc ≤ maxLen) (h3 : B ≤ kb) (h4 : RowBlock w kb 70 2 (spanRows f.keeps)) (h5 : blk ≠ some kb) (h6 : ∀ j, j < l.length → K j < kb) :
    FairRow w B blk (l ++ [f]) (rows ++ [[.int .i64 f.place, .int .i64 f.day, .slice (some ⟨kb, 0, none⟩) f.keeps.length kc]]) (fun i => if i = l.length then kb else K i) := by
  refine ⟨by simp [h.1], fun i g hg => ?_⟩
  rcases Nat.lt_or_ge i l.length with hi | hi
  · rw [List.getElem?_append_left hi] at hg
    obtain ⟨⟨c, k1, k1'⟩, k2, k3, k4, k5⟩ := h.2 i g hg
    simp only [if_neg (show ¬ i = l.length by omega)]
    exact ⟨⟨c, by rw [List.getElem?_append_left (by rw [h.1]; exact hi)]; exact k1, k1'⟩, k2, k3, k4, fun j hj => by rw [if_neg (by omega)]; exact k5 j hj⟩
  · have e : i = l.length := by have := (List.getElem?_eq_some_iff.1 hg).1; simp at this; omega
    subst e
    rw [List.getElem?_append_right (Nat.le_refl _)] at hg
    simp at hg
    subst hg
    simp only [if_pos]
    exact ⟨⟨kc, by rw [List.getElem?_append_right (by rw [h.1]; exact Nat.le_refl _)]; simp [h.1], h1, h2⟩, h4, h3, h5, fun j hj => by rw [if_neg (by omega)]; exact h6 j hj⟩
/-- a trip in memory of its own: the fairs in block b, the keeps of fair i in block K i -/
def TripBox (w : World) (b : Nat) (K : Nat → Nat) (l : List Fair) : Prop :=
  (∃ cs : Array Value, w.heap[b]? = some (.cells cs 83 (0, 0)) ∧ ∀ (i : Nat) (f : Fair), l[i]? = some f → cs[i * 3]? = some (.int .i64 f.place) ∧ cs[i * 3 + 1]? = some (.int .i64 f.day) ∧
    ∃ kc, cs[i * 3 + 2]? = some (.slice (some ⟨K i, 0, none⟩) f.keeps.length kc) ∧ f.keeps.length ≤ kc ∧ kc ≤ maxLen) ∧
  ∀ (i : Nat) (f : Fair), l[i]? = some f → RowBlock w (K i) 70 2 (spanRows f.keeps) ∧ K i ≠ b ∧ ∀ j, j < i → K j < K i
theorem TripBox.fairs {w : World} {b : Nat} {K : Nat → Nat} {l : List Fair} (h : TripBox w b K l) : FairsAt w (some ⟨b, 0, none⟩) l.length l := by
  obtain ⟨⟨cs, h1, h2⟩, h3⟩ := h
  refine ⟨rfl, fun _ => ⟨b, 0, rfl, fun k f hf => ?_⟩⟩
  obtain ⟨c0, c1, kc, c2, k1, k2⟩ := h2 k f hf
  refine ⟨some ⟨K k, 0, none⟩, f.keeps.length, kc, fun j v hj => ?_, k1, k2, spans_of_block (h3 k f hf).1⟩
  rw [cell_of_row w b _ cs 83 (0, 0) h1, Nat.zero_add]
  match j, hj with
  | 0, hj => cases hj; exact c0
  | 1, hj => cases hj; exact c1
  | 2, hj => cases hj; exact c2
  | j + 3, hj => simp at hj
def BoxPost (l : List Fair) (w : World) (e : Ending) (w' : World) : Prop :=
  ∃ b K c, e = .returned (.slice (some ⟨b, 0, none⟩) l.length c) ∧ Ext w w' ∧ w.heap.size ≤ b ∧ l.length ≤ c ∧ c ≤ maxLen ∧ TripBox w' b K l ∧ ∀ i, i < l.length → w.heap.size ≤ K i
theorem boxPost_of {l : List Fair} {w w' : World} {v : Value} {rows : List (List Value)} {K : Nat → Nat} {n : Nat} (hl : l.length = n) (hx : Ext w w') (ho : Owns w' w.heap.size 83 3 v rows) (hr : FairRow w' w.heap.size v.ownBlock l rows K) (hn : 0 < n) : BoxPost l w (.returned v) w' := by
  obtain ⟨b, c, rfl, h1, h2, h3, h0, cs, h4, h5⟩ := ho.block (by rw [hr.1]; omega)
  rw [hr.1] at h1
  refine ⟨b, K, c, by rw [hr.1], hx, h3, h1, h2, ⟨⟨cs, h4, fun i f hf => ?_⟩, fun i f hf => ?_⟩, fun i hi => (hr.2 i l[i] (List.getElem?_eq_getElem hi)).2.2.1⟩
  · obtain ⟨⟨kc, k1, k2, k3⟩, _⟩ := hr.2 i f hf
    exact ⟨h5 i _ 0 _ k1 rfl, h5 i _ 1 _ k1 rfl, kc, h5 i _ 2 _ k1 rfl, k2, k3⟩
  · obtain ⟨_, k2, k3, k4, k5⟩ := hr.2 i f hf
    exact ⟨k2, fun e => k4 (by simp [Value.ownBlock, e]), k5⟩

set_option maxRecDepth 100000 in
set_option maxHeartbeats 2000000 in
theorem twin_box (a : Option Addr) (n cap : Nat) (l : List Fair) (w : World) (hl : FairsAt w a n l) (hn : n ≤ 1000000) (hn0 : 0 < n) (hk : ∀ f ∈ l, f.keeps.length = 5) :
    Calls Try.prog 18 #[.slice a n cap] w (BoxPost l w) := by
  have hln := hl.1
  have Hl := Lib.hid hl
  have Hk := Lib.hid hk
  have Hln := Lib.hid hln
  clear hl hk hln
  go_enter Try.func18, Try.ntmps18
  go_wp2_with fail
  go_loopw [3, 4] (fun v i wr => ∃ (k : Nat) (rows : List (List Value)) (K : Nat → Nat), k ≤ n ∧ i = .int .i64 k ∧ Ext w wr ∧ Owns wr w.heap.size 83 3 v rows ∧ FairRow wr w.heap.size v.ownBlock (l.take k) rows K) (fun _ i _ => n - (intOf i).toNat)
  case atStart => exact ⟨0, [], id, Nat.zero_le _, rfl, Ext.refl _, Owns.nil _ _ _ _, by simp, fun i f hf => by simp at hf⟩
  case round =>
    obtain ⟨k, rows, K, hk, rfl, hx, hown, hrows⟩ := hrel
    by_cases hlt : k < n
    · obtain ⟨b, off, x, ka, kn, kc, rfl, hxk, hb, c0, c1, c2, hkc, hkm, c3⟩ := (Hl.out.ext hx).get k hlt
      have hlt' : decide ((k : Int) < (n : Int)) = true := by simp; omega
      have hk5 := Hk.out x (List.mem_of_getElem? hxk)
      have hkl : kn ≤ 1000000 := by rw [← c3.1]; omega
      have Hk5 := Lib.hid hk5
      clear hk5
      unfold maxLen at hkm
      have hsz := hx.size
      have Hx := Lib.hid hx
      have Hown := Lib.hid hown
      have Hrows := Lib.hid hrows
      have Hxk := Lib.hid hxk
      have H3 := Lib.hid c3
      clear hx hown hrows hxk c3
      have hemp : Owns ((wr.alloc (.cells #[.int .i64 x.place, .int .i64 x.day, .slice ka kn kc] 83)).alloc (.cells #[] 70)) (wr.heap.size + 1) 70 2 (.slice (some ⟨wr.heap.size + 1, 0, none⟩) 0 0) [] := by
        have := Owns.empty (wr.alloc (.cells #[.int .i64 x.place, .int .i64 x.day, .slice ka kn kc] 83)) (wr.heap.size + 1) 70 2 (by simp)
        simpa using this
      have hsrc : SlAt ((wr.alloc (.cells #[.int .i64 x.place, .int .i64 x.day, .slice ka kn kc] 83)).alloc (.cells #[] 70)) 2 ka kn (fun i => (spanRows x.keeps).getD i []) := ((H3.out.ext ((Ext.refl _).alloc _)).ext ((Ext.refl _).alloc _)).src
      have hbx : (wr.alloc (.cells #[.int .i64 x.place, .int .i64 x.day, .slice ka kn kc] 83)).heap[wr.heap.size]? = some (.cells #[.int .i64 x.place, .int .i64 x.day, .slice ka kn kc] 83 (0, 0)) := heap_alloc_new wr _
      have hx1 : Ext wr (wr.alloc (.cells #[.int .i64 x.place, .int .i64 x.day, .slice ka kn kc] 83)) := (Ext.refl _).alloc _
      have hx2 : Ext (wr.alloc (.cells #[.int .i64 x.place, .int .i64 x.day, .slice ka kn kc] 83)) ((wr.alloc (.cells #[.int .i64 x.place, .int .i64 x.day, .slice ka kn kc] 83)).alloc (.cells #[] 70)) := (Ext.refl _).alloc _
      have Hemp := Lib.hid hemp
      have Hsrc := Lib.hid hsrc
      have Hbx := Lib.hid hbx
      have Hx1 := Lib.hid hx1
      have Hx2 := Lib.hid hx2
      clear hemp hsrc hbx hx1 hx2
      go_wp2_with (at_builtin; refine wpList_app elem35 _ rfl (.tmp 16) (.tmp 18) rfl (wr.heap.size + 1) _ [] rfl Hemp.out ka kn kc (spanRows x.keeps) rfl ?_ Hsrc.out (spanRows_row _) ?_ ?_ ?_)
      · have := H3.out.1; simpa [spanRows] using this
      · simp only [List.length_nil]; omega
      · simp
      · intro v' w2 ho2 hg2 _
        try rw [List.nil_append] at ho2
        have hx3 : Ext (wr.alloc (.cells #[.int .i64 x.place, .int .i64 x.day, .slice ka kn kc] 83)) w2 := by
          have h := Hemp.out
          rw [show wr.heap.size + 1 = (wr.alloc (.cells #[.int .i64 x.place, .int .i64 x.day, .slice ka kn kc] 83)).heap.size by simp] at h
          exact Hx2.out.app (v := .slice (some ⟨(wr.alloc (.cells #[.int .i64 x.place, .int .i64 x.day, .slice ka kn kc] 83)).heap.size, 0, none⟩) 0 0) h (by simpa [Value.ownBlock] using hg2)
        obtain ⟨bc, bf⟩ := hx3.box Hbx.out
        have hb2 := hx3.heap Hbx.out
        obtain ⟨kb, c', rfl, hk1, hk2, hkb, hrb⟩ := ho2.block (by have := Hk5.out; simp only [spanRows, List.length_map]; omega)
        simp only [show (spanRows x.keeps).length = x.keeps.length by simp [spanRows]] at hk1 ⊢
        have hrbl := hrb.lt
        have Hsp := Lib.hid (And.intro hk1 hk2)
        have Hrb := Lib.hid hrb
        have Hx3 := Lib.hid hx3
        have Hb2 := Lib.hid hb2
        clear ho2 hg2 hx3 hb2 hk1 hk2 hrb c0 c1 c2
        generalize hW1 : wr.alloc (.cells #[.int .i64 x.place, .int .i64 x.day, .slice ka kn kc] 83) = W1 at *
        clear hW1
        have hwr2 : wr.heap.size < w2.heap.size := by have := (Array.getElem?_eq_some_iff.1 Hb2.out).1; exact this
        have hx4 : Ext wr ((w2.setCell ⟨wr.heap.size, 2, none⟩ (.slice (some ⟨kb, 0, none⟩) x.keeps.length c')).alloc (.cells #[.int .i64 x.place, .int .i64 x.day, .slice (some ⟨kb, 0, none⟩) x.keeps.length c'] 83)) := ((Hx1.out.trans Hx3.out).setCell (p := ⟨wr.heap.size, 2, none⟩) (Nat.le_refl _) _).alloc _
        have hsz4 : (w2.setCell ⟨wr.heap.size, 2, none⟩ (.slice (some ⟨kb, 0, none⟩) x.keeps.length c')).heap.size = w2.heap.size := by simp [World.setCell]
        have hown4 := Hown.out.ext hx4
        have hrb4 : RowBlock ((w2.setCell ⟨wr.heap.size, 2, none⟩ (.slice (some ⟨kb, 0, none⟩) x.keeps.length c')).alloc (.cells #[.int .i64 x.place, .int .i64 x.day, .slice (some ⟨kb, 0, none⟩) x.keeps.length c'] 83)) kb 70 2 (spanRows x.keeps) :=
          (Hrb.out.same (Below.heap_setCell _ _ _ _ (by simp only; omega))).ext ((Ext.refl _).alloc _)
        have hrows4 : FairRow ((w2.setCell ⟨wr.heap.size, 2, none⟩ (.slice (some ⟨kb, 0, none⟩) x.keeps.length c')).alloc (.cells #[.int .i64 x.place, .int .i64 x.day, .slice (some ⟨kb, 0, none⟩) x.keeps.length c'] 83)) w.heap.size u3.ownBlock (l.take k ++ [x]) (rows ++ [[.int .i64 x.place, .int .i64 x.day, .slice (some ⟨kb, 0, none⟩) x.keeps.length c']]) (fun i => if i = (l.take k).length then kb else K i) := by
          refine (Hrows.out.ext hx4).snoc Hsp.out.1 Hsp.out.2 (by omega) hrb4 (fun e => ?_) fun j hj => ?_
          · have h1 := (Hown.out.lt _ e).2
            omega
          · have h1 := (Hrows.out.at hj).lt
            omega
        have htk : l.take (k + 1) = l.take k ++ [x] := by rw [List.take_add_one, Hxk.out]; rfl
        rw [← htk] at hrows4
        have hcell4 := fun j => cell_of_row _ _ j _ 83 (0, 0) (heap_alloc_new (w2.setCell ⟨wr.heap.size, 2, none⟩ (.slice (some ⟨kb, 0, none⟩) x.keeps.length c')) (.cells #[.int .i64 x.place, .int .i64 x.day, .slice (some ⟨kb, 0, none⟩) x.keeps.length c'] 83))
        rw [hsz4] at hcell4
        have hsz5 : ((w2.setCell ⟨wr.heap.size, 2, none⟩ (.slice (some ⟨kb, 0, none⟩) x.keeps.length c')).alloc (.cells #[.int .i64 x.place, .int .i64 x.day, .slice (some ⟨kb, 0, none⟩) x.keeps.length c'] 83)).heap.size = w2.heap.size + 1 := by simp [World.setCell]
        have Hsz5 := Lib.hid hsz5
        clear hsz5
        have hrl := Hrows.out.1
        have Hx4 := Lib.hid hx4
        have Hown4 := Lib.hid hown4
        have Hrows4 := Lib.hid hrows4
        have Hcell4 := Lib.hid hcell4
        have Hrl := Lib.hid hrl
        clear hx4 hown4 hrb4 hrows4 htk hcell4 hsz4 hrl
        go_wp2_with (at_builtin; refine wpList_app elem23 _ rfl (.tmp 21) (.tmp 23) rfl w.heap.size _ rows rfl Hown4.out (some ⟨w2.heap.size, 0, none⟩) 1 1 [[.int .i64 x.place, .int .i64 x.day, .slice (some ⟨kb, 0, none⟩) x.keeps.length c']] rfl rfl (slAt_one ?_) ?_ ?_ ?_ ?_)
        · intro j u hj
          simp only [Nat.zero_add]
          rw [Hcell4.out j]
          simpa using hj
        · intro r hr
          simp at hr
          subst hr
          exact ⟨rfl, fun u hu => by simp at hu; rcases hu with rfl | rfl | rfl <;> rfl⟩
        · rw [Hrl.out]; have := List.length_take_le k l; omega
        · have := Hx4.out.size; omega
        · intro v5 w5 ho5 hg5 hb5
          have hx5 : Ext w w5 := (Hx.out.trans Hx4.out).app Hown4.out hg5
          have hr5 := Hrows4.out.kept hg5 (by rw [Hsz5.out]; exact hb5)
          clear bc bf
          go_wp2_with fail
          go_roundw
          case rel => exact ⟨k + 1, _, _, by omega, by go_num, hx5, ho5, hr5⟩
          case measure => simp [intOf]; omega
    · have hlt' : decide ((k : Int) < (n : Int)) = false := by simp; omega
      obtain rfl : k = n := by omega
      have Hx := Lib.hid hx
      have Hown := Lib.hid hown
      have Hrows := Lib.hid hrows
      clear hx hown hrows
      go_wp2_with fail
      go_ret
      have hr := Hrows.out
      rw [List.take_of_length_le (by have := Hln.out; omega)] at hr
      exact boxPost_of Hln.out Hx.out Hown.out hr hn0
end Go.Proofs.Ytkbhmajcddmhnaa
