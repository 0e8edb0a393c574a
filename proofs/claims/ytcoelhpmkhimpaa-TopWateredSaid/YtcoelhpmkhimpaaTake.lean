/- What the input is, read off the arguments' own data. Printed by wip/tools/gentake.py. -/
import Derived.Test.YtcoelhpmkhimpaaData
import Derived.Test.YtcoelhpmkhimpaaRows
import Derived.WalkKit
import Derived.ProofKit
import Derived.Deep.Slices
namespace Go.Proofs.Ytcoelhpmkhimpaa
open Go.RowKit Go.ChangeShapes Go.WideShapes Go.ChangeAt
set_option linter.unusedVariables false
theorem plain_of {w : World} {base n : Nat} {a : Addr} {cs : List Value} (h : w.cells? base (a.add 0) n = some cs) (hn : 0 < n) : ∃ b off, a = ⟨b, off, none⟩ := by
  obtain ⟨_, hl, hc⟩ := World.cells?_some h
  obtain ⟨b, off, spot⟩ := a
  have h0 := hc 0 hn
  obtain ⟨v, hv⟩ : ∃ v, cs[0]? = some v := ⟨_, List.getElem?_eq_getElem (by omega)⟩
  rw [hv] at h0
  have hs : spot = none := by simpa [Addr.add] using World.cell?_spot h0
  subst hs
  exact ⟨b, off, rfl⟩

theorem cells_of {w : World} {base i n b off : Nat} {cs : List Value} (h : w.cells? base ((⟨b, off, none⟩ : Addr).add i) n = some cs) : cs.length = n ∧ Cells w b (off + i) cs := by
  obtain ⟨_, hl, hc⟩ := World.cells?_some h
  refine ⟨hl, fun j v hj => ?_⟩
  have := hc j (by have := (List.getElem?_eq_some_iff.1 hj).1; omega)
  rw [hj] at this
  rcases Nat.eq_zero_or_pos i with rfl | hi <;> rcases Nat.eq_zero_or_pos j with rfl | hj'
  · simpa [Addr.add] using this
  · simpa [Addr.add, show j ≠ 0 by omega] using this
  · simpa [Addr.add, show i ≠ 0 by omega] using this
  · simpa [Addr.add, show i ≠ 0 by omega, show j ≠ 0 by omega, Nat.add_assoc] using this

theorem tlen2 {α : Type} {l : List α} (h : l.length = 2) : ∃ a b, l = [a, b] := by
  match l, h with
  | [a, b], _ => exact ⟨a, b, rfl⟩
theorem tlen3 {α : Type} {l : List α} (h : l.length = 3) : ∃ a b c, l = [a, b, c] := by
  match l, h with
  | [a, b, c], _ => exact ⟨a, b, c, rfl⟩
theorem tlen1 {α : Type} {l : List α} (h : l.length = 1) : ∃ a, l = [a] := by
  match l, h with
  | [a], _ => exact ⟨a, rfl⟩
theorem tlen6 {α : Type} {l : List α} (h : l.length = 6) : ∃ a b c d e f, l = [a, b, c, d, e, f] := by
  match l, h with
  | [a, b, c, d, e, f], _ => exact ⟨a, b, c, d, e, f, rfl⟩
theorem tlen10 {α : Type} {l : List α} (h : l.length = 10) : ∃ a b c d e f g i j k, l = [a, b, c, d, e, f, g, i, j, k] := by
  match l, h with
  | [a, b, c, d, e, f, g, i, j, k], _ => exact ⟨a, b, c, d, e, f, g, i, j, k, rfl⟩
theorem tlen7 {α : Type} {l : List α} (h : l.length = 7) : ∃ a b c d e f g, l = [a, b, c, d, e, f, g] := by
  match l, h with
  | [a, b, c, d, e, f, g], _ => exact ⟨a, b, c, d, e, f, g, rfl⟩
theorem tlen8 {α : Type} {l : List α} (h : l.length = 8) : ∃ a b c d e f g i, l = [a, b, c, d, e, f, g, i] := by
  match l, h with
  | [a, b, c, d, e, f, g, i], _ => exact ⟨a, b, c, d, e, f, g, i, rfl⟩

theorem tlen4 {α : Type} {l : List α} (h : l.length = 4) : ∃ x0 x1 x2 x3, l = [x0, x1, x2, x3] := by
  match l, h with
  | [x0, x1, x2, x3], _ => exact ⟨x0, x1, x2, x3, rfl⟩
theorem tlen5 {α : Type} {l : List α} (h : l.length = 5) : ∃ x0 x1 x2 x3 x4, l = [x0, x1, x2, x3, x4] := by
  match l, h with
  | [x0, x1, x2, x3, x4], _ => exact ⟨x0, x1, x2, x3, x4, rfl⟩
theorem tlen9 {α : Type} {l : List α} (h : l.length = 9) : ∃ x0 x1 x2 x3 x4 x5 x6 x7 x8, l = [x0, x1, x2, x3, x4, x5, x6, x7, x8] := by
  match l, h with
  | [x0, x1, x2, x3, x4, x5, x6, x7, x8], _ => exact ⟨x0, x1, x2, x3, x4, x5, x6, x7, x8, rfl⟩
theorem tlen17 {α : Type} {l : List α} (h : l.length = 17) : ∃ x0 x1 x2 x3 x4 x5 x6 x7 x8 x9 x10 x11 x12 x13 x14 x15 x16, l = [x0, x1, x2, x3, x4, x5, x6, x7, x8, x9, x10, x11, x12, x13, x14, x15, x16] := by
  match l, h with
  | [x0, x1, x2, x3, x4, x5, x6, x7, x8, x9, x10, x11, x12, x13, x14, x15, x16], _ => exact ⟨x0, x1, x2, x3, x4, x5, x6, x7, x8, x9, x10, x11, x12, x13, x14, x15, x16, rfl⟩

theorem list_of {α : Type} {p : Nat → α → Prop} : ∀ (n : Nat), (∀ i, i < n → ∃ x, p i x) → ∃ l : List α, l.length = n ∧ ∀ k x, l[k]? = some x → p k x
  | 0, _ => ⟨[], rfl, fun k x h => by simp at h⟩
  | n + 1, h => by
    obtain ⟨l, hl, hp⟩ := list_of n (fun i hi => h i (by omega))
    obtain ⟨x, hx⟩ := h n (by omega)
    refine ⟨l ++ [x], by simp [hl], fun k y hk => ?_⟩
    rcases Nat.lt_or_ge k n with h' | h'
    · rw [List.getElem?_append_left (by omega)] at hk
      exact hp k y hk
    · have e : k = n := by have := (List.getElem?_eq_some_iff.1 hk).1; simp at this; omega
      subst e
      rw [List.getElem?_append_right (by omega), hl] at hk
      simp at hk
      subst hk
      exact hx

section
variable {H : Type} {enc : TypeId × Value → H} {w : World} {base : Nat} {spare : Nat → Bool} {held : Bool}

theorem take_slice {α : Type} {t e : TypeId} {sz : Nat} (ht : Try.prog.underlying t = some (.slice e)) (hc : Try.prog.cellsOf e = sz) (hsz : 0 < sz) (R : α → List Value → Prop)
    (hR : ∀ n cs x, cs.length = sz → DataW.trod enc Try.prog w base spare held n e cs = some x → ∃ y, R y cs) {fuel : Nat} {a : Option Addr} {n c : Nat} {x : DataW H × List MemPlace}
    (h : DataW.trod enc Try.prog w base spare held fuel t [.slice a n c] = some x) :
    n ≤ c ∧ c ≤ maxLen ∧ ∃ l : List α, l.length = n ∧ (0 < n → ∃ b off, a = some ⟨b, off, none⟩ ∧ ∀ (k : Nat) (y : α), l[k]? = some y → ∃ cs, Cells w b (off + k * sz) cs ∧ R y cs) := by
  rcases Go.Deep.open_slice ht h with ⟨h0, _⟩ | ⟨ad, len, cap, m, n', D, Pl, hcs, hb, hl, hm, hmm, _, hx⟩
  · cases h0
    exact ⟨Nat.le_refl _, by decide, [], rfl, fun h => by omega⟩
  · cases hcs
    refine ⟨hl, hm, ?_⟩
    rw [hc] at hx
    have hle : n ≤ m := by rw [hmm]; split <;> omega
    rcases Nat.eq_zero_or_pos n with rfl | hn
    · exact ⟨[], rfl, fun h => by omega⟩
    obtain ⟨cs0, h0, _⟩ := hx 0 (by omega)
    rw [Nat.zero_mul] at h0
    obtain ⟨b, off, rfl⟩ := plain_of h0 hsz
    have hk : ∀ i, i < n → ∃ y, ∃ cs, Cells w b (off + i * sz) cs ∧ R y cs := fun i hi => by
      obtain ⟨cs, h1, h2⟩ := hx i (by omega)
      obtain ⟨hl', e2⟩ := cells_of h1
      obtain ⟨y, hy⟩ := hR _ _ _ hl' h2
      exact ⟨y, cs, e2, hy⟩
    obtain ⟨l, hl', hp⟩ := list_of n hk
    exact ⟨l, hl', fun hn => ⟨b, off, rfl, fun k y hy => hp k y hy⟩⟩

theorem take_int {k : IntKind} {t : TypeId} (ht : Try.prog.underlying t = some (.int k)) {fuel : Nat} {cs : List Value} {x : DataW H × List MemPlace} (h : DataW.trod enc Try.prog w base spare held fuel t cs = some x) : ∃ n, cs = [.int k n] ∧ (Lit.int k n).wf = true := by
  obtain ⟨n, h1, _, h2⟩ := DataW.trod_int ht h
  exact ⟨n, h1, h2⟩

theorem take_ints {k : IntKind} {t e : TypeId} (ht : Try.prog.underlying t = some (.slice e)) (he : Try.prog.underlying e = some (.int k)) (hc : Try.prog.cellsOf e = 1) {fuel : Nat} {a : Option Addr} {n c : Nat} {x : DataW H × List MemPlace}
    (h : DataW.trod enc Try.prog w base spare held fuel t [.slice a n c] = some x) : n ≤ c ∧ c ≤ maxLen ∧ ∃ l, IntsAt k w a n l ∧ ∀ i ∈ l, (Lit.int k i).wf = true := by
  obtain ⟨h1, h2, l, h3, h4⟩ := take_slice (α := { i : Int // (Lit.int k i).wf = true }) ht hc (by omega) (fun y cs => cs = [.int k y.1]) (fun n cs x _ hx => by obtain ⟨i, hi, hw⟩ := take_int he hx; exact ⟨⟨i, hw⟩, hi⟩) h
  refine ⟨h1, h2, l.map (·.1), ⟨by simp [h3], fun hn => ?_⟩, fun i hi => ?_⟩
  · obtain ⟨b, off, ha, hk⟩ := h4 hn
    refine ⟨b, off, ha, fun k' hk' => ?_⟩
    obtain ⟨y, hy⟩ : ∃ y, l[k']? = some y := ⟨_, List.getElem?_eq_getElem (by omega)⟩
    obtain ⟨cs, h5, rfl⟩ := hk k' y hy
    simpa [List.getD, hy] using h5
  · obtain ⟨y, _, rfl⟩ := List.mem_map.1 hi
    exact y.2


theorem c3 : Try.prog.cellsOf 3 = 1 := by kernel_rfl
theorem c4 : Try.prog.cellsOf 4 = 1 := by kernel_rfl
theorem c5 : Try.prog.cellsOf 5 = 1 := by kernel_rfl
theorem c23 : Try.prog.cellsOf 23 = 2 := by kernel_rfl
theorem wf_u8 {n : Int} (h : (Lit.int .u8 n).wf = true) : 0 ≤ n ∧ n ≤ 255 := by
  have e1 : IntKind.u8.min = 0 := rfl
  have e2 : IntKind.u8.max = 255 := rfl
  simp only [Lit.wf, Bool.and_eq_true, decide_eq_true_eq, e1, e2] at h
  exact h
theorem wf_u32 {n : Int} (h : (Lit.int .u32 n).wf = true) : 0 ≤ n ∧ n ≤ 4294967295 := by
  have e1 : IntKind.u32.min = 0 := rfl
  have e2 : IntKind.u32.max = 4294967295 := rfl
  simp only [Lit.wf, Bool.and_eq_true, decide_eq_true_eq, e1, e2] at h
  exact h
theorem wf_i64 {n : Int} (h : (Lit.int .i64 n).wf = true) : -9223372036854775808 ≤ n ∧ n ≤ 9223372036854775807 := by
  have e1 : IntKind.i64.min = -9223372036854775808 := rfl
  have e2 : IntKind.i64.max = 9223372036854775807 := rfl
  simp only [Lit.wf, Bool.and_eq_true, decide_eq_true_eq, e1, e2] at h
  exact h
theorem slice_shape {t e : TypeId} (ht : Try.prog.underlying t = some (.slice e)) {fuel : Nat} {cs : List Value} {x : DataW H × List MemPlace} (h : DataW.trod enc Try.prog w base spare held fuel t cs = some x) : ∃ a n c, cs = [.slice a n c] := by
  rcases Go.Deep.open_slice ht h with ⟨h0, _⟩ | ⟨ad, len, cap, m, n', D, Pl, hcs, _⟩
  · exact ⟨_, _, _, h0⟩
  · exact ⟨_, _, _, hcs⟩
theorem take_span {fuel : Nat} {cs : List Value} {x : DataW H × List MemPlace} (hl : cs.length = 2) (h : DataW.trod enc Try.prog w base spare held fuel 23 cs = some x) : ∃ s : Span, s.cells = cs := by
  obtain ⟨xs, n, _, _, _, hx, hf⟩ := DataW.trod_struct Try.underlying23 h
  obtain ⟨u, v, rfl⟩ := tlen2 hl
  obtain ⟨x0, x1, rfl⟩ := tlen2 (show xs.length = 2 from hx)
  have g0 := hf 0 _ rfl
  have g1 := hf 1 _ rfl
  simp [c3] at g0 g1
  obtain ⟨a, ha, _⟩ := take_int Try.underlying3 g0
  obtain ⟨b, hb, _⟩ := take_int Try.underlying3 g1
  cases ha; cases hb
  exact ⟨⟨a, b⟩, rfl⟩
theorem take_breed {fuel : Nat} {cs : List Value} {x : DataW H × List MemPlace} (hl : cs.length = 17) (h : DataW.trod enc Try.prog w base spare held fuel 25 cs = some x) : ∃ s : Breed, s.cells = cs := by
  obtain ⟨xs, n, _, _, _, hx, hf⟩ := DataW.trod_struct Try.underlying25 h
  obtain ⟨u0, u1, u2, u3, u4, u5, u6, u7, u8, u9, u10, u11, u12, u13, u14, u15, u16, rfl⟩ := tlen17 hl
  obtain ⟨x0, x1, x2, x3, x4, x5, x6, x7, x8, x9, rfl⟩ := tlen10 (show xs.length = 10 from hx)
  have g0 := hf 0 _ rfl
  have g1 := hf 1 _ rfl
  have g2 := hf 2 _ rfl
  have g3 := hf 3 _ rfl
  have g4 := hf 4 _ rfl
  have g5 := hf 5 _ rfl
  have g6 := hf 6 _ rfl
  have g7 := hf 7 _ rfl
  have g8 := hf 8 _ rfl
  have g9 := hf 9 _ rfl
  simp [c23, c3] at g0 g1 g2 g3 g4 g5 g6 g7 g8 g9
  obtain ⟨a0, h0, _⟩ := take_int Try.underlying3 g0
  obtain ⟨a1, h1, _⟩ := take_int Try.underlying3 g1
  obtain ⟨a2, h2⟩ := take_span rfl g2
  obtain ⟨a3, h3⟩ := take_span rfl g3
  obtain ⟨a4, h4⟩ := take_span rfl g4
  obtain ⟨a5, h5⟩ := take_span rfl g5
  obtain ⟨a6, h6⟩ := take_span rfl g6
  obtain ⟨a7, h7⟩ := take_span rfl g7
  obtain ⟨a8, h8, _⟩ := take_int Try.underlying3 g8
  obtain ⟨a9, h9⟩ := take_span rfl g9
  cases h0; cases h1; cases h2; cases h3; cases h4; cases h5; cases h6; cases h7; cases h8; cases h9
  exact ⟨⟨a0, a1, a2, a3, a4, a5, a6, a7, a8, a9⟩, rfl⟩
theorem take_camel {fuel : Nat} {cs : List Value} {x : DataW H × List MemPlace} (hl : cs.length = 7) (h : DataW.trod enc Try.prog w base spare held fuel 27 cs = some x) : ∃ s : Camel, s.cells = cs := by
  obtain ⟨xs, n, _, _, _, hx, hf⟩ := DataW.trod_struct Try.underlying27 h
  obtain ⟨u0, u1, u2, u3, u4, u5, u6, rfl⟩ := tlen7 hl
  obtain ⟨x0, x1, x2, x3, rfl⟩ := tlen4 (show xs.length = 4 from hx)
  have g0 := hf 0 _ rfl
  have g1 := hf 1 _ rfl
  have g2 := hf 2 _ rfl
  have g3 := hf 3 _ rfl
  simp [c23, c4] at g0 g1 g2 g3
  obtain ⟨a0, h0⟩ := take_span rfl g0
  obtain ⟨a1, h1⟩ := take_span rfl g1
  obtain ⟨a2, h2⟩ := take_span rfl g2
  obtain ⟨a3, h3, _⟩ := DataW.trod_bool Try.underlying4 g3
  cases h0; cases h1; cases h2; cases h3
  exact ⟨⟨a0, a1, a2, a3⟩, rfl⟩
theorem take_march {fuel : Nat} {cs : List Value} {x : DataW H × List MemPlace} (hl : cs.length = 8) (h : DataW.trod enc Try.prog w base spare held fuel 29 cs = some x) : ∃ s : March, s.cells = cs := by
  obtain ⟨xs, n, _, _, _, hx, hf⟩ := DataW.trod_struct Try.underlying29 h
  obtain ⟨u0, u1, u2, u3, u4, u5, u6, u7, rfl⟩ := tlen8 hl
  obtain ⟨x0, x1, x2, x3, x4, rfl⟩ := tlen5 (show xs.length = 5 from hx)
  have g0 := hf 0 _ rfl
  have g1 := hf 1 _ rfl
  have g2 := hf 2 _ rfl
  have g3 := hf 3 _ rfl
  have g4 := hf 4 _ rfl
  simp [c23, c3] at g0 g1 g2 g3 g4
  obtain ⟨a0, h0, _⟩ := take_int Try.underlying3 g0
  obtain ⟨a1, h1, _⟩ := take_int Try.underlying3 g1
  obtain ⟨a2, h2⟩ := take_span rfl g2
  obtain ⟨a3, h3⟩ := take_span rfl g3
  obtain ⟨a4, h4⟩ := take_span rfl g4
  cases h0; cases h1; cases h2; cases h3; cases h4
  exact ⟨⟨a0, a1, a2, a3, a4⟩, rfl⟩
theorem take_well {fuel : Nat} {cs : List Value} {x : DataW H × List MemPlace} (hl : cs.length = 9) (h : DataW.trod enc Try.prog w base spare held fuel 131 cs = some x) : ∃ s : Well, s.cells = cs := by
  obtain ⟨xs, n, _, _, _, hx, hf⟩ := DataW.trod_struct Try.underlying131 h
  obtain ⟨u0, u1, u2, u3, u4, u5, u6, u7, u8, rfl⟩ := tlen9 hl
  obtain ⟨x0, x1, x2, x3, x4, x5, x6, rfl⟩ := tlen7 (show xs.length = 7 from hx)
  have g0 := hf 0 _ rfl
  have g1 := hf 1 _ rfl
  have g2 := hf 2 _ rfl
  have g3 := hf 3 _ rfl
  have g4 := hf 4 _ rfl
  have g5 := hf 5 _ rfl
  have g6 := hf 6 _ rfl
  simp [c23, c3] at g0 g1 g2 g3 g4 g5 g6
  obtain ⟨a0, h0, _⟩ := take_int Try.underlying3 g0
  obtain ⟨a1, h1, _⟩ := take_int Try.underlying3 g1
  obtain ⟨a2, h2, _⟩ := take_int Try.underlying3 g2
  obtain ⟨a3, h3⟩ := take_span rfl g3
  obtain ⟨a4, h4, _⟩ := take_int Try.underlying3 g4
  obtain ⟨a5, h5⟩ := take_span rfl g5
  obtain ⟨a6, h6, _⟩ := take_int Try.underlying3 g6
  cases h0; cases h1; cases h2; cases h3; cases h4; cases h5; cases h6
  exact ⟨⟨a0, a1, a2, a3, a4, a5, a6⟩, rfl⟩
theorem take_gate {fuel : Nat} {cs : List Value} {x : DataW H × List MemPlace} (hl : cs.length = 4) (h : DataW.trod enc Try.prog w base spare held fuel 177 cs = some x) : ∃ s : Gate, s.cells = cs := by
  obtain ⟨xs, n, _, _, _, hx, hf⟩ := DataW.trod_struct Try.underlying177 h
  obtain ⟨u0, u1, u2, u3, rfl⟩ := tlen4 hl
  obtain ⟨x0, x1, rfl⟩ := tlen2 (show xs.length = 2 from hx)
  have g0 := hf 0 _ rfl
  have g1 := hf 1 _ rfl
  simp [c23] at g0 g1
  obtain ⟨a0, h0⟩ := take_span rfl g0
  obtain ⟨a1, h1⟩ := take_span rfl g1
  cases h0; cases h1
  exact ⟨⟨a0, a1⟩, rfl⟩
theorem take_draw {fuel : Nat} {cs : List Value} {x : DataW H × List MemPlace} (hl : cs.length = 3) (h : DataW.trod enc Try.prog w base spare held fuel 60 cs = some x) : ∃ s : Draw, s.cells = cs := by
  obtain ⟨xs, n, _, _, _, hx, hf⟩ := DataW.trod_struct Try.underlying60 h
  obtain ⟨u0, u1, u2, rfl⟩ := tlen3 hl
  obtain ⟨x0, x1, x2, rfl⟩ := tlen3 (show xs.length = 3 from hx)
  have g0 := hf 0 _ rfl
  have g1 := hf 1 _ rfl
  have g2 := hf 2 _ rfl
  simp [c3] at g0 g1 g2
  obtain ⟨a0, h0, _⟩ := take_int Try.underlying3 g0
  obtain ⟨a1, h1, _⟩ := take_int Try.underlying3 g1
  obtain ⟨a2, h2, _⟩ := take_int Try.underlying3 g2
  cases h0; cases h1; cases h2
  exact ⟨⟨a0, a1, a2⟩, rfl⟩
theorem take_trek {fuel : Nat} {cs : List Value} {x : DataW H × List MemPlace} (hl : cs.length = 6) (h : DataW.trod enc Try.prog w base spare held fuel 156 cs = some x) : ∃ s : Trek, s.cells = cs := by
  obtain ⟨xs, n, _, _, _, hx, hf⟩ := DataW.trod_struct Try.underlying156 h
  obtain ⟨u0, u1, u2, u3, u4, u5, rfl⟩ := tlen6 hl
  obtain ⟨x0, x1, x2, rfl⟩ := tlen3 (show xs.length = 3 from hx)
  have g0 := hf 0 _ rfl
  have g1 := hf 1 _ rfl
  have g2 := hf 2 _ rfl
  simp [c23] at g0 g1 g2
  obtain ⟨a0, h0⟩ := take_span rfl g0
  obtain ⟨a1, h1⟩ := take_span rfl g1
  obtain ⟨a2, h2⟩ := take_span rfl g2
  cases h0; cases h1; cases h2
  exact ⟨⟨a0, a1, a2⟩, rfl⟩
theorem take_half {fuel : Nat} {cs : List Value} {x : DataW H × List MemPlace} (hl : cs.length = 3) (h : DataW.trod enc Try.prog w base spare held fuel 162 cs = some x) : ∃ s : Half, s.cells = cs := by
  obtain ⟨xs, n, _, _, _, hx, hf⟩ := DataW.trod_struct Try.underlying162 h
  obtain ⟨u0, u1, u2, rfl⟩ := tlen3 hl
  obtain ⟨x0, x1, x2, rfl⟩ := tlen3 (show xs.length = 3 from hx)
  have g0 := hf 0 _ rfl
  have g1 := hf 1 _ rfl
  have g2 := hf 2 _ rfl
  simp [c3] at g0 g1 g2
  obtain ⟨a0, h0, _⟩ := take_int Try.underlying3 g0
  obtain ⟨a1, h1, _⟩ := take_int Try.underlying3 g1
  obtain ⟨a2, h2, _⟩ := take_int Try.underlying3 g2
  cases h0; cases h1; cases h2
  exact ⟨⟨a0, a1, a2⟩, rfl⟩
theorem take_camels {fuel : Nat} {a : Option Addr} {n c : Nat} {x : DataW H × List MemPlace} (h : DataW.trod enc Try.prog w base spare held fuel 49 [.slice a n c] = some x) : n ≤ c ∧ c ≤ maxLen ∧ ∃ l, CamelsAt w a n l := by
  obtain ⟨h1, h2, l, h3, h4⟩ := take_slice (sz := 7) Try.underlying49 (by kernel_rfl) (by omega) (fun (y : Camel) cs => y.cells = cs) (fun n cs x hl hx => take_camel hl hx) h
  refine ⟨h1, h2, l, h3, fun hn => ?_⟩
  obtain ⟨b, off, ha, hk⟩ := h4 hn
  refine ⟨b, off, ha, fun k' hk' => ?_⟩
  obtain ⟨y, hy⟩ : ∃ y, l[k']? = some y := ⟨_, List.getElem?_eq_getElem (by omega)⟩
  obtain ⟨cs, h5, rfl⟩ := hk k' y hy
  simpa [List.getD, hy] using h5
theorem take_wells {fuel : Nat} {a : Option Addr} {n c : Nat} {x : DataW H × List MemPlace} (h : DataW.trod enc Try.prog w base spare held fuel 30 [.slice a n c] = some x) : n ≤ c ∧ c ≤ maxLen ∧ ∃ l, WellsAt w a n l := by
  obtain ⟨h1, h2, l, h3, h4⟩ := take_slice (sz := 9) Try.underlying30 (by kernel_rfl) (by omega) (fun (y : Well) cs => y.cells = cs) (fun n cs x hl hx => take_well hl hx) h
  refine ⟨h1, h2, l, h3, fun hn => ?_⟩
  obtain ⟨b, off, ha, hk⟩ := h4 hn
  refine ⟨b, off, ha, fun k' hk' => ?_⟩
  obtain ⟨y, hy⟩ : ∃ y, l[k']? = some y := ⟨_, List.getElem?_eq_getElem (by omega)⟩
  obtain ⟨cs, h5, rfl⟩ := hk k' y hy
  simpa [List.getD, hy] using h5
theorem take_gates {fuel : Nat} {a : Option Addr} {n c : Nat} {x : DataW H × List MemPlace} (h : DataW.trod enc Try.prog w base spare held fuel 104 [.slice a n c] = some x) : n ≤ c ∧ c ≤ maxLen ∧ ∃ l, GatesAt w a n l := by
  obtain ⟨h1, h2, l, h3, h4⟩ := take_slice (sz := 4) Try.underlying104 (by kernel_rfl) (by omega) (fun (y : Gate) cs => y.cells = cs) (fun n cs x hl hx => take_gate hl hx) h
  refine ⟨h1, h2, l, h3, fun hn => ?_⟩
  obtain ⟨b, off, ha, hk⟩ := h4 hn
  refine ⟨b, off, ha, fun k' hk' => ?_⟩
  obtain ⟨y, hy⟩ : ∃ y, l[k']? = some y := ⟨_, List.getElem?_eq_getElem (by omega)⟩
  obtain ⟨cs, h5, rfl⟩ := hk k' y hy
  simpa [List.getD, hy] using h5
theorem take_draws {fuel : Nat} {a : Option Addr} {n c : Nat} {x : DataW H × List MemPlace} (h : DataW.trod enc Try.prog w base spare held fuel 61 [.slice a n c] = some x) : n ≤ c ∧ c ≤ maxLen ∧ ∃ l, DrawsAt w a n l := by
  obtain ⟨h1, h2, l, h3, h4⟩ := take_slice (sz := 3) Try.underlying61 (by kernel_rfl) (by omega) (fun (y : Draw) cs => y.cells = cs) (fun n cs x hl hx => take_draw hl hx) h
  refine ⟨h1, h2, l, h3, fun hn => ?_⟩
  obtain ⟨b, off, ha, hk⟩ := h4 hn
  refine ⟨b, off, ha, fun k' hk' => ?_⟩
  obtain ⟨y, hy⟩ : ∃ y, l[k']? = some y := ⟨_, List.getElem?_eq_getElem (by omega)⟩
  obtain ⟨cs, h5, rfl⟩ := hk k' y hy
  simpa [List.getD, hy] using h5
theorem take_treks {fuel : Nat} {a : Option Addr} {n c : Nat} {x : DataW H × List MemPlace} (h : DataW.trod enc Try.prog w base spare held fuel 84 [.slice a n c] = some x) : n ≤ c ∧ c ≤ maxLen ∧ ∃ l, TreksAt w a n l := by
  obtain ⟨h1, h2, l, h3, h4⟩ := take_slice (sz := 6) Try.underlying84 (by kernel_rfl) (by omega) (fun (y : Trek) cs => y.cells = cs) (fun n cs x hl hx => take_trek hl hx) h
  refine ⟨h1, h2, l, h3, fun hn => ?_⟩
  obtain ⟨b, off, ha, hk⟩ := h4 hn
  refine ⟨b, off, ha, fun k' hk' => ?_⟩
  obtain ⟨y, hy⟩ : ∃ y, l[k']? = some y := ⟨_, List.getElem?_eq_getElem (by omega)⟩
  obtain ⟨cs, h5, rfl⟩ := hk k' y hy
  simpa [List.getD, hy] using h5
theorem take_halves {fuel : Nat} {a : Option Addr} {n c : Nat} {x : DataW H × List MemPlace} (h : DataW.trod enc Try.prog w base spare held fuel 81 [.slice a n c] = some x) : n ≤ c ∧ c ≤ maxLen ∧ ∃ l, HalvesAt w a n l := by
  obtain ⟨h1, h2, l, h3, h4⟩ := take_slice (sz := 3) Try.underlying81 (by kernel_rfl) (by omega) (fun (y : Half) cs => y.cells = cs) (fun n cs x hl hx => take_half hl hx) h
  refine ⟨h1, h2, l, h3, fun hn => ?_⟩
  obtain ⟨b, off, ha, hk⟩ := h4 hn
  refine ⟨b, off, ha, fun k' hk' => ?_⟩
  obtain ⟨y, hy⟩ : ∃ y, l[k']? = some y := ⟨_, List.getElem?_eq_getElem (by omega)⟩
  obtain ⟨cs, h5, rfl⟩ := hk k' y hy
  simpa [List.getD, hy] using h5
theorem c30 : Try.prog.cellsOf 30 = 1 := by kernel_rfl
theorem c31 : Try.prog.cellsOf 31 = 1 := by kernel_rfl
theorem c81 : Try.prog.cellsOf 81 = 1 := by kernel_rfl
theorem c104 : Try.prog.cellsOf 104 = 1 := by kernel_rfl
theorem take_leg {fuel : Nat} {cs : List Value} {x : DataW H × List MemPlace} (hl : cs.length = 5) (h : DataW.trod enc Try.prog w base spare held fuel 106 cs = some x) : ∃ (f : Leg) (ka : Option Addr) (kn kc : Nat), [.int .i64 f.frm, .int .i64 f.to, .int .i64 f.long.lo, .int .i64 f.long.hi, .slice ka kn kc] = cs ∧ kn ≤ kc ∧ kc ≤ maxLen ∧ GatesAt w ka kn f.gates := by
  obtain ⟨xs, n, _, _, _, hx, hf⟩ := DataW.trod_struct Try.underlying106 h
  obtain ⟨u0, u1, u2, u3, u4, rfl⟩ := tlen5 hl
  obtain ⟨x0, x1, x2, x3, rfl⟩ := tlen4 (show xs.length = 4 from hx)
  have g0 := hf 0 _ rfl
  have g1 := hf 1 _ rfl
  have g2 := hf 2 _ rfl
  have g3 := hf 3 _ rfl
  simp [c3, c23, c104] at g0 g1 g2 g3
  obtain ⟨a0, h0, _⟩ := take_int Try.underlying3 g0
  obtain ⟨a1, h1, _⟩ := take_int Try.underlying3 g1
  obtain ⟨a2, h2⟩ := take_span rfl g2
  obtain ⟨ka, kn, kc, h3⟩ := slice_shape Try.underlying104 g3
  cases h0; cases h1; cases h2; cases h3
  obtain ⟨k1, k2, gs, k3⟩ := take_gates g3
  exact ⟨⟨a0, a1, a2, gs⟩, ka, kn, kc, rfl, k1, k2, k3⟩
theorem take_legs {fuel : Nat} {a : Option Addr} {n c : Nat} {x : DataW H × List MemPlace} (h : DataW.trod enc Try.prog w base spare held fuel 31 [.slice a n c] = some x) : n ≤ c ∧ c ≤ maxLen ∧ ∃ l, LegsAt w a n l := by
  obtain ⟨h1, h2, l, h3, h4⟩ := take_slice (sz := 5) Try.underlying31 (by kernel_rfl) (by omega) (fun (f : Leg) cs => ∃ (ka : Option Addr) (kn kc : Nat), [.int .i64 f.frm, .int .i64 f.to, .int .i64 f.long.lo, .int .i64 f.long.hi, .slice ka kn kc] = cs ∧ kn ≤ kc ∧ kc ≤ maxLen ∧ GatesAt w ka kn f.gates) (fun n cs x hl hx => take_leg hl hx) h
  refine ⟨h1, h2, l, h3, fun hn => ?_⟩
  obtain ⟨b, off, ha, hk⟩ := h4 hn
  refine ⟨b, off, ha, fun k' y hy => ?_⟩
  obtain ⟨cs, h5, ka, kn, kc, rfl, h6⟩ := hk k' y hy
  exact ⟨ka, kn, kc, h5, h6⟩
theorem take_land {fuel : Nat} {cs : Array Value} {x : DataW H × List MemPlace} (hl : cs.size = 2) (h : DataW.trod enc Try.prog w base spare held fuel 33 cs.toList = some x) : ∃ a n c a' n' c' ws ls, cs = #[.slice a n c, .slice a' n' c'] ∧ n ≤ c ∧ c ≤ maxLen ∧ WellsAt w a n ws ∧ n' ≤ c' ∧ c' ≤ maxLen ∧ LegsAt w a' n' ls := by
  obtain ⟨xs, n, _, _, _, hx, hf⟩ := DataW.trod_struct Try.underlying33 h
  obtain ⟨l⟩ := cs
  simp only at hf
  obtain ⟨u, v, rfl⟩ := tlen2 (show l.length = 2 from hl)
  obtain ⟨x0, x1, rfl⟩ := tlen2 (show xs.length = 2 from hx)
  have g0 := hf 0 _ rfl
  have g1 := hf 1 _ rfl
  simp [c30, c31] at g0 g1
  obtain ⟨a, n, c, e⟩ := slice_shape Try.underlying30 g0
  obtain ⟨a', n', c', e'⟩ := slice_shape Try.underlying31 g1
  cases e; cases e'
  obtain ⟨h1, h2, ws, h3⟩ := take_wells g0
  obtain ⟨k1, k2, ls, k3⟩ := take_legs g1
  exact ⟨a, n, c, a', n', c', ws, ls, rfl, h1, h2, h3, k1, k2, k3⟩
theorem take_area {fuel : Nat} {cs : Array Value} {x : DataW H × List MemPlace} (hl : cs.size = 1) (h : DataW.trod enc Try.prog w base spare held fuel 83 cs.toList = some x) : ∃ a n c l, cs = #[.slice a n c] ∧ n ≤ c ∧ c ≤ maxLen ∧ HalvesAt w a n l := by
  obtain ⟨xs, n, _, _, _, hx, hf⟩ := DataW.trod_struct Try.underlying83 h
  obtain ⟨l⟩ := cs
  simp only at hf
  obtain ⟨u, rfl⟩ := tlen1 (show l.length = 1 from hl)
  obtain ⟨x0, rfl⟩ := tlen1 (show xs.length = 1 from hx)
  have g0 := hf 0 _ rfl
  simp [c81] at g0
  obtain ⟨a, n, c, e⟩ := slice_shape Try.underlying81 g0
  cases e
  obtain ⟨h1, h2, l, h3⟩ := take_halves g0
  exact ⟨a, n, c, l, rfl, h1, h2, h3⟩
end
theorem cell_lt {P : Program} {t e : TypeId} {w : World} {b0 n c : Nat} {a : Option Addr} (ht : P.underlying t = some (.slice e)) (h : Cell.okWide P w .any b0 t (.slice a n c)) : ∀ x, a = some x → x.block < w.heap.size := by
  rintro x rfl
  unfold Cell.okWide at h
  rw [ht] at h
  simp only at h
  unfold Cell.ok at h
  rw [ht] at h
  simp only at h
  obtain ⟨_, _, _, _, row, cells, hs, _⟩ := h
  unfold World.shape? at hs
  rcases Nat.lt_or_ge x.block w.heap.size with q | q
  · exact q
  · simp [Array.getElem?_eq_none q] at hs
theorem wide_lt {P : Program} {t e : TypeId} {w : World} {b0 n c : Nat} {a : Option Addr} (ht : P.underlying t = some (.slice e)) (h : Value.okWide P w .any b0 t (.slice a n c)) : ∀ x, a = some x → x.block < w.heap.size := by
  unfold Value.okWide at h
  rw [ht] at h
  exact cell_lt ht h
theorem pair_lt {P : Program} {t t0 t1 e : TypeId} {fs : Array Field} {w : World} {b0 n c n' c' : Nat} {a a' : Option Addr} (ht : P.underlying t = some (.struct fs)) (hs : P.cellTypes P.depth t = some [t0, t1]) (ht1 : P.underlying t1 = some (.slice e)) (h : Value.okWide P w .any b0 t (.agg #[.slice a n c, .slice a' n' c'])) : ∀ x, a' = some x → x.block < w.heap.size := by
  unfold Value.okWide at h
  rw [ht] at h
  simp only at h
  obtain ⟨cs, e, _, ts, h1, _, h2⟩ := h
  cases e
  rw [hs] at h1
  cases h1
  obtain ⟨u, hu, hc⟩ := h2 1 _ rfl
  have e : u = t1 := by simpa using hu.symm
  subst e
  exact cell_lt ht1 hc
theorem land_types : Try.prog.cellTypes Try.prog.depth 33 = some [30, 31] := by kernel_rfl
set_option maxRecDepth 100000 in
theorem land_lt {w : World} {b0 n c n' c' : Nat} {a a' : Option Addr} (h : Value.okWide Try.prog w .any b0 33 (.agg #[.slice a n c, .slice a' n' c'])) : ∀ x, a' = some x → x.block < w.heap.size := pair_lt Try.underlying33 land_types Try.underlying31 h
end Go.Proofs.Ytcoelhpmkhimpaa
