/- What the input is: areas, sights, treks, spans, numbers, read off the arguments' own data. -/
import Derived.Test.YtacdndehlkaaeaaVBase
import Derived.Test.YtacdndehlkaaeaaRows
import Derived.WalkKit
import Derived.ProofKit
import Derived.Deep.Slices
namespace Go.Proofs.Ytacdndehlkaaeaa
open Go.RowKit Go.ChangeShapes Go.WideShapes Go.ChangeAt
set_option linter.unusedVariables false
theorem plain_of {w : World} {base n : Nat} {a : Addr} {cs : List Value} (h : w.cells? base (a.add 0) n = some cs) (hn : 0 < n) : ∃ b off, a = ⟨b, off, none⟩ := by
  obtain ⟨_, hl, hc⟩ := World.cells?_some h
  obtain ⟨b, off, spot⟩ := a
  have h0 := hc 0 hn
  obtain ⟨v, hv⟩ : ∃ v, cs[0]? = some v := ⟨_, List.getElem?_eq_getElem (by omega)⟩
  rw [hv] at h0
  have hs : spot = none := by simpa [Addr.add] using World.cell?_spot h0
  subst hs
  exact ⟨b, off, rfl⟩

theorem cells_of {w : World} {base i n b off : Nat} {cs : List Value} (h : w.cells? base ((⟨b, off, none⟩ : Addr).add i) n = some cs) : cs.length = n ∧ Cells w b (off + i) cs := by
  obtain ⟨_, hl, hc⟩ := World.cells?_some h
  refine ⟨hl, fun j v hj => ?_⟩
  have := hc j (by have := (List.getElem?_eq_some_iff.1 hj).1; omega)
  rw [hj] at this
  rcases Nat.eq_zero_or_pos i with rfl | hi <;> rcases Nat.eq_zero_or_pos j with rfl | hj'
  · simpa [Addr.add] using this
  · simpa [Addr.add, show j ≠ 0 by omega] using this
  · simpa [Addr.add, show i ≠ 0 by omega] using this
  · simpa [Addr.add, show i ≠ 0 by omega, show j ≠ 0 by omega, Nat.add_assoc] using this

theorem len2 {α : Type} {l : List α} (h : l.length = 2) : ∃ a b, l = [a, b] := by
  match l, h with
  | [a, b], _ => exact ⟨a, b, rfl⟩
theorem len3 {α : Type} {l : List α} (h : l.length = 3) : ∃ a b c, l = [a, b, c] := by
  match l, h with
  | [a, b, c], _ => exact ⟨a, b, c, rfl⟩
theorem len1 {α : Type} {l : List α} (h : l.length = 1) : ∃ a, l = [a] := by
  match l, h with
  | [a], _ => exact ⟨a, rfl⟩
theorem len6 {α : Type} {l : List α} (h : l.length = 6) : ∃ a b c d e f, l = [a, b, c, d, e, f] := by
  match l, h with
  | [a, b, c, d, e, f], _ => exact ⟨a, b, c, d, e, f, rfl⟩
theorem len10 {α : Type} {l : List α} (h : l.length = 10) : ∃ a b c d e f g i j k, l = [a, b, c, d, e, f, g, i, j, k] := by
  match l, h with
  | [a, b, c, d, e, f, g, i, j, k], _ => exact ⟨a, b, c, d, e, f, g, i, j, k, rfl⟩
theorem len7 {α : Type} {l : List α} (h : l.length = 7) : ∃ a b c d e f g, l = [a, b, c, d, e, f, g] := by
  match l, h with
  | [a, b, c, d, e, f, g], _ => exact ⟨a, b, c, d, e, f, g, rfl⟩
theorem len8 {α : Type} {l : List α} (h : l.length = 8) : ∃ a b c d e f g i, l = [a, b, c, d, e, f, g, i] := by
  match l, h with
  | [a, b, c, d, e, f, g, i], _ => exact ⟨a, b, c, d, e, f, g, i, rfl⟩

theorem list_of {α : Type} {p : Nat → α → Prop} : ∀ (n : Nat), (∀ i, i < n → ∃ x, p i x) → ∃ l : List α, l.length = n ∧ ∀ k x, l[k]? = some x → p k x
  | 0, _ => ⟨[], rfl, fun k x h => by simp at h⟩
  | n + 1, h => by
    obtain ⟨l, hl, hp⟩ := list_of n (fun i hi => h i (by omega))
    obtain ⟨x, hx⟩ := h n (by omega)
    refine ⟨l ++ [x], by simp [hl], fun k y hk => ?_⟩
    rcases Nat.lt_or_ge k n with h' | h'
    · rw [List.getElem?_append_left (by omega)] at hk
      exact hp k y hk
    · have e : k = n := by have := (List.getElem?_eq_some_iff.1 hk).1; simp at this; omega
      subst e
      rw [List.getElem?_append_right (by omega), hl] at hk
      simp at hk
      subst hk
      exact hx

section
variable {H : Type} {enc : TypeId × Value → H} {w : World} {base : Nat} {spare : Nat → Bool} {held : Bool}

theorem take_slice {α : Type} {t e : TypeId} {sz : Nat} (ht : Try.prog.underlying t = some (.slice e)) (hc : Try.prog.cellsOf e = sz) (hsz : 0 < sz) (R : α → List Value → Prop)
    (hR : ∀ n cs x, cs.length = sz → DataW.trod enc Try.prog w base spare held n e cs = some x → ∃ y, R y cs) {fuel : Nat} {a : Option Addr} {n c : Nat} {x : DataW H × List MemPlace}
    (h : DataW.trod enc Try.prog w base spare held fuel t [.slice a n c] = some x) :
    n ≤ c ∧ c ≤ maxLen ∧ ∃ l : List α, l.length = n ∧ (0 < n → ∃ b off, a = some ⟨b, off, none⟩ ∧ ∀ (k : Nat) (y : α), l[k]? = some y → ∃ cs, Cells w b (off + k * sz) cs ∧ R y cs) := by
  rcases Go.Deep.open_slice ht h with ⟨h0, _⟩ | ⟨ad, len, cap, m, n', D, Pl, hcs, hb, hl, hm, hmm, _, hx⟩
  · cases h0
    exact ⟨Nat.le_refl _, by decide, [], rfl, fun h => by omega⟩
  · cases hcs
    refine ⟨hl, hm, ?_⟩
    rw [hc] at hx
    have hle : n ≤ m := by rw [hmm]; split <;> omega
    rcases Nat.eq_zero_or_pos n with rfl | hn
    · exact ⟨[], rfl, fun h => by omega⟩
    obtain ⟨cs0, h0, _⟩ := hx 0 (by omega)
    rw [Nat.zero_mul] at h0
    obtain ⟨b, off, rfl⟩ := plain_of h0 hsz
    have hk : ∀ i, i < n → ∃ y, ∃ cs, Cells w b (off + i * sz) cs ∧ R y cs := fun i hi => by
      obtain ⟨cs, h1, h2⟩ := hx i (by omega)
      obtain ⟨hl', e2⟩ := cells_of h1
      obtain ⟨y, hy⟩ := hR _ _ _ hl' h2
      exact ⟨y, cs, e2, hy⟩
    obtain ⟨l, hl', hp⟩ := list_of n hk
    exact ⟨l, hl', fun hn => ⟨b, off, rfl, fun k y hy => hp k y hy⟩⟩

theorem take_int {k : IntKind} {t : TypeId} (ht : Try.prog.underlying t = some (.int k)) {fuel : Nat} {cs : List Value} {x : DataW H × List MemPlace} (h : DataW.trod enc Try.prog w base spare held fuel t cs = some x) : ∃ n, cs = [.int k n] ∧ (Lit.int k n).wf = true := by
  obtain ⟨n, h1, _, h2⟩ := DataW.trod_int ht h
  exact ⟨n, h1, h2⟩

theorem take_ints {k : IntKind} {t e : TypeId} (ht : Try.prog.underlying t = some (.slice e)) (he : Try.prog.underlying e = some (.int k)) (hc : Try.prog.cellsOf e = 1) {fuel : Nat} {a : Option Addr} {n c : Nat} {x : DataW H × List MemPlace}
    (h : DataW.trod enc Try.prog w base spare held fuel t [.slice a n c] = some x) : n ≤ c ∧ c ≤ maxLen ∧ ∃ l, IntsAt k w a n l ∧ ∀ i ∈ l, (Lit.int k i).wf = true := by
  obtain ⟨h1, h2, l, h3, h4⟩ := take_slice (α := { i : Int // (Lit.int k i).wf = true }) ht hc (by omega) (fun y cs => cs = [.int k y.1]) (fun n cs x _ hx => by obtain ⟨i, hi, hw⟩ := take_int he hx; exact ⟨⟨i, hw⟩, hi⟩) h
  refine ⟨h1, h2, l.map (·.1), ⟨by simp [h3], fun hn => ?_⟩, fun i hi => ?_⟩
  · obtain ⟨b, off, ha, hk⟩ := h4 hn
    refine ⟨b, off, ha, fun k' hk' => ?_⟩
    obtain ⟨y, hy⟩ : ∃ y, l[k']? = some y := ⟨_, List.getElem?_eq_getElem (by omega)⟩
    obtain ⟨cs, h5, rfl⟩ := hk k' y hy
    simpa [List.getD, hy] using h5
  · obtain ⟨y, _, rfl⟩ := List.mem_map.1 hi
    exact y.2


theorem c3 : Try.prog.cellsOf 3 = 1 := by kernel_rfl
theorem c5 : Try.prog.cellsOf 5 = 1 := by kernel_rfl
theorem c22 : Try.prog.cellsOf 22 = 1 := by kernel_rfl
theorem c26 : Try.prog.cellsOf 26 = 2 := by kernel_rfl
theorem c28 : Try.prog.cellsOf 28 = 2 := by kernel_rfl
theorem take_span {fuel : Nat} {cs : List Value} {x : DataW H × List MemPlace} (hl : cs.length = 2) (h : DataW.trod enc Try.prog w base spare held fuel 28 cs = some x) : ∃ s : Span, s.cells = cs := by
  obtain ⟨xs, n, _, _, _, hx, hf⟩ := DataW.trod_struct Try.underlying28 h
  obtain ⟨u, v, rfl⟩ := len2 hl
  obtain ⟨x0, x1, rfl⟩ := len2 (show xs.length = 2 from hx)
  have g0 := hf 0 _ rfl
  have g1 := hf 1 _ rfl
  simp [c3] at g0 g1
  obtain ⟨a, ha, _⟩ := take_int Try.underlying3 g0
  obtain ⟨b, hb, _⟩ := take_int Try.underlying3 g1
  cases ha; cases hb
  exact ⟨⟨a, b⟩, rfl⟩
theorem take_course {fuel : Nat} {cs : List Value} {x : DataW H × List MemPlace} (hl : cs.length = 2) (h : DataW.trod enc Try.prog w base spare held fuel 26 cs = some x) : ∃ a b : Int, [.int .i64 a, .int .i64 b] = cs := by
  obtain ⟨xs, n, _, _, _, hx, hf⟩ := DataW.trod_struct Try.underlying26 h
  obtain ⟨u, v, rfl⟩ := len2 hl
  obtain ⟨x0, x1, rfl⟩ := len2 (show xs.length = 2 from hx)
  have g0 := hf 0 _ rfl
  have g1 := hf 1 _ rfl
  simp [c3] at g0 g1
  obtain ⟨a, ha, _⟩ := take_int Try.underlying3 g0
  obtain ⟨b, hb, _⟩ := take_int Try.underlying3 g1
  cases ha; cases hb
  exact ⟨a, b, rfl⟩
theorem take_half {fuel : Nat} {cs : List Value} {x : DataW H × List MemPlace} (hl : cs.length = 3) (h : DataW.trod enc Try.prog w base spare held fuel 47 cs = some x) : ∃ s : Half, s.cells = cs := by
  obtain ⟨xs, n, _, _, _, hx, hf⟩ := DataW.trod_struct Try.underlying47 h
  obtain ⟨u, v, t, rfl⟩ := len3 hl
  obtain ⟨x0, x1, x2, rfl⟩ := len3 (show xs.length = 3 from hx)
  have g0 := hf 0 _ rfl
  have g1 := hf 1 _ rfl
  have g2 := hf 2 _ rfl
  simp [c3] at g0 g1 g2
  obtain ⟨a, ha, _⟩ := take_int Try.underlying3 g0
  obtain ⟨b, hb, _⟩ := take_int Try.underlying3 g1
  obtain ⟨c, hc, _⟩ := take_int Try.underlying3 g2
  cases ha; cases hb; cases hc
  exact ⟨⟨a, b, c⟩, rfl⟩
theorem take_trek {fuel : Nat} {cs : List Value} {x : DataW H × List MemPlace} (hl : cs.length = 6) (h : DataW.trod enc Try.prog w base spare held fuel 63 cs = some x) : ∃ s : Trek, s.cells = cs := by
  obtain ⟨xs, n, _, _, _, hx, hf⟩ := DataW.trod_struct Try.underlying63 h
  obtain ⟨u0, u1, u2, u3, u4, u5, rfl⟩ := len6 hl
  obtain ⟨x0, x1, x2, rfl⟩ := len3 (show xs.length = 3 from hx)
  have g0 := hf 0 _ rfl
  have g1 := hf 1 _ rfl
  have g2 := hf 2 _ rfl
  simp [c28] at g0 g1 g2
  obtain ⟨a, ha⟩ := take_span rfl g0
  obtain ⟨b, hb⟩ := take_span rfl g1
  obtain ⟨c, hc⟩ := take_span rfl g2
  simp only [Span.cells, List.cons.injEq, and_true] at ha hb hc
  obtain ⟨rfl, rfl⟩ := ha
  obtain ⟨rfl, rfl⟩ := hb
  obtain ⟨rfl, rfl⟩ := hc
  exact ⟨⟨a, b, c⟩, rfl⟩
theorem wf_u8 {n : Int} (h : (Lit.int .u8 n).wf = true) : 0 ≤ n ∧ n ≤ 255 := by
  have e1 : IntKind.u8.min = 0 := rfl
  have e2 : IntKind.u8.max = 255 := rfl
  simp only [Lit.wf, Bool.and_eq_true, decide_eq_true_eq, e1, e2] at h
  exact h
theorem wf_u32 {n : Int} (h : (Lit.int .u32 n).wf = true) : 0 ≤ n ∧ n ≤ 4294967295 := by
  have e1 : IntKind.u32.min = 0 := rfl
  have e2 : IntKind.u32.max = 4294967295 := rfl
  simp only [Lit.wf, Bool.and_eq_true, decide_eq_true_eq, e1, e2] at h
  exact h
theorem wf_i64 {n : Int} (h : (Lit.int .i64 n).wf = true) : -9223372036854775808 ≤ n ∧ n ≤ 9223372036854775807 := by
  have e1 : IntKind.i64.min = -9223372036854775808 := rfl
  have e2 : IntKind.i64.max = 9223372036854775807 := rfl
  simp only [Lit.wf, Bool.and_eq_true, decide_eq_true_eq, e1, e2] at h
  exact h
theorem take_sight {fuel : Nat} {cs : List Value} {x : DataW H × List MemPlace} (hl : cs.length = 10) (h : DataW.trod enc Try.prog w base spare held fuel 30 cs = some x) : ∃ s : Sight, s.cells = cs ∧ 0 ≤ s.kind ∧ s.kind ≤ 255 := by
  obtain ⟨xs, n, _, _, _, hx, hf⟩ := DataW.trod_struct Try.underlying30 h
  obtain ⟨u0, u1, u2, u3, u4, u5, u6, u7, u8, u9, rfl⟩ := len10 hl
  obtain ⟨x0, x1, x2, x3, x4, x5, x6, rfl⟩ := len7 (show xs.length = 7 from hx)
  have g0 := hf 0 _ rfl
  have g1 := hf 1 _ rfl
  have g2 := hf 2 _ rfl
  have g3 := hf 3 _ rfl
  have g4 := hf 4 _ rfl
  have g5 := hf 5 _ rfl
  have g6 := hf 6 _ rfl
  simp [c3, c5, c26, c28] at g0 g1 g2 g3 g4 g5 g6
  obtain ⟨a0, h0, hw⟩ := take_int Try.underlying5 g0
  obtain ⟨a1, h1, _⟩ := take_int Try.underlying3 g1
  obtain ⟨a2, h2, _⟩ := take_int Try.underlying3 g2
  obtain ⟨b0, b1, h3⟩ := take_course rfl g3
  obtain ⟨d0, d1, h4⟩ := take_course rfl g4
  obtain ⟨s, h5⟩ := take_span rfl g5
  obtain ⟨a6, h6, _⟩ := take_int Try.underlying3 g6
  cases h0; cases h1; cases h2; cases h3; cases h4; cases h5; cases h6
  exact ⟨⟨a0, a1, a2, b0, b1, d0, d1, s.lo, s.hi, a6⟩, rfl, wf_u8 hw⟩
theorem slice_shape {t e : TypeId} (ht : Try.prog.underlying t = some (.slice e)) {fuel : Nat} {cs : List Value} {x : DataW H × List MemPlace} (h : DataW.trod enc Try.prog w base spare held fuel t cs = some x) : ∃ a n c, cs = [.slice a n c] := by
  rcases Go.Deep.open_slice ht h with ⟨h0, _⟩ | ⟨ad, len, cap, m, n', D, Pl, hcs, _⟩
  · exact ⟨_, _, _, h0⟩
  · exact ⟨_, _, _, hcs⟩
theorem take_halves {fuel : Nat} {a : Option Addr} {n c : Nat} {x : DataW H × List MemPlace} (h : DataW.trod enc Try.prog w base spare held fuel 22 [.slice a n c] = some x) : n ≤ c ∧ c ≤ maxLen ∧ ∃ l, HalvesAt w a n l := by
  obtain ⟨h1, h2, l, h3, h4⟩ := take_slice (sz := 3) Try.underlying22 (by kernel_rfl) (by omega) (fun (y : Half) cs => y.cells = cs) (fun n cs x hl hx => take_half hl hx) h
  refine ⟨h1, h2, l, h3, fun hn => ?_⟩
  obtain ⟨b, off, ha, hk⟩ := h4 hn
  refine ⟨b, off, ha, fun k' hk' => ?_⟩
  obtain ⟨y, hy⟩ : ∃ y, l[k']? = some y := ⟨_, List.getElem?_eq_getElem (by omega)⟩
  obtain ⟨cs, h5, rfl⟩ := hk k' y hy
  simpa [List.getD, hy] using h5
theorem take_treks {fuel : Nat} {a : Option Addr} {n c : Nat} {x : DataW H × List MemPlace} (h : DataW.trod enc Try.prog w base spare held fuel 64 [.slice a n c] = some x) : n ≤ c ∧ c ≤ maxLen ∧ ∃ l, TreksAt w a n l := by
  obtain ⟨h1, h2, l, h3, h4⟩ := take_slice (sz := 6) Try.underlying64 (by kernel_rfl) (by omega) (fun (y : Trek) cs => y.cells = cs) (fun n cs x hl hx => take_trek hl hx) h
  refine ⟨h1, h2, l, h3, fun hn => ?_⟩
  obtain ⟨b, off, ha, hk⟩ := h4 hn
  refine ⟨b, off, ha, fun k' hk' => ?_⟩
  obtain ⟨y, hy⟩ : ∃ y, l[k']? = some y := ⟨_, List.getElem?_eq_getElem (by omega)⟩
  obtain ⟨cs, h5, rfl⟩ := hk k' y hy
  simpa [List.getD, hy] using h5
theorem take_sights {fuel : Nat} {a : Option Addr} {n c : Nat} {x : DataW H × List MemPlace} (h : DataW.trod enc Try.prog w base spare held fuel 31 [.slice a n c] = some x) : n ≤ c ∧ c ≤ maxLen ∧ ∃ l, SightsAt w a n l ∧ ∀ i, i < n → 0 ≤ (l.getD i zl).kind ∧ (l.getD i zl).kind ≤ 255 := by
  obtain ⟨h1, h2, l, h3, h4⟩ := take_slice (sz := 10) Try.underlying31 (by kernel_rfl) (by omega) (fun (y : Sight) cs => y.cells = cs ∧ 0 ≤ y.kind ∧ y.kind ≤ 255) (fun n cs x hl hx => take_sight hl hx) h
  refine ⟨h1, h2, l, ⟨h3, fun hn => ?_⟩, fun i hi => ?_⟩
  · obtain ⟨b, off, ha, hk⟩ := h4 hn
    refine ⟨b, off, ha, fun k' hk' => ?_⟩
    obtain ⟨y, hy⟩ : ∃ y, l[k']? = some y := ⟨_, List.getElem?_eq_getElem (by omega)⟩
    obtain ⟨cs, h5, rfl, _⟩ := hk k' y hy
    simpa [List.getD, hy] using h5
  · obtain ⟨b, off, ha, hk⟩ := h4 (by omega)
    obtain ⟨y, hy⟩ : ∃ y, l[i]? = some y := ⟨_, List.getElem?_eq_getElem (by omega)⟩
    obtain ⟨cs, h5, _, h6⟩ := hk i y hy
    simpa [List.getD, hy] using h6
theorem take_area {fuel : Nat} {cs : Array Value} {x : DataW H × List MemPlace} (hl : cs.size = 1) (h : DataW.trod enc Try.prog w base spare held fuel 24 cs.toList = some x) : ∃ a n c l, cs = #[.slice a n c] ∧ n ≤ c ∧ c ≤ maxLen ∧ HalvesAt w a n l := by
  obtain ⟨xs, n, _, _, _, hx, hf⟩ := DataW.trod_struct Try.underlying24 h
  obtain ⟨l⟩ := cs
  simp only at hf
  obtain ⟨u, rfl⟩ := len1 (show l.length = 1 from hl)
  obtain ⟨x0, rfl⟩ := len1 (show xs.length = 1 from hx)
  have g0 := hf 0 _ rfl
  simp [c22] at g0
  obtain ⟨a, n, c, e⟩ := slice_shape Try.underlying22 g0
  cases e
  obtain ⟨h1, h2, l, h3⟩ := take_halves g0
  exact ⟨a, n, c, l, rfl, h1, h2, h3⟩
end
end Go.Proofs.Ytacdndehlkaaeaa
