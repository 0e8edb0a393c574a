/- What the input is: slices of offers, fairs, spans, numbers, read off the arguments' own data. -/
import Derived.Test.YtkbhmajcddmhnaaVGr1
import Derived.Test.YtkbhmajcddmhnaaRows
import Derived.WalkKit
import Derived.ProofKit
import Derived.Deep.Slices
import Derived.Test.YtkbhmajcddmhnaaVPurse
namespace Go.Proofs.Ytkbhmajcddmhnaa
open Go.RowKit Go.ChangeShapes Go.WideShapes Go.ChangeAt
set_option linter.unusedVariables false

theorem plain_of {w : World} {base n : Nat} {a : Addr} {cs : List Value} (h : w.cells? base (a.add 0) n = some cs) (hn : 0 < n) : ∃ b off, a = ⟨b, off, none⟩ := by
  obtain ⟨_, hl, hc⟩ := World.cells?_some h
  obtain ⟨b, off, spot⟩ := a
  have h0 := hc 0 hn
  obtain ⟨v, hv⟩ : ∃ v, cs[0]? = some v := ⟨_, List.getElem?_eq_getElem (by omega)⟩
  rw [hv] at h0
  have hs : spot = none := by simpa [Addr.add] using World.cell?_spot h0
  subst hs
  exact ⟨b, off, rfl⟩

theorem cells_of {w : World} {base i n b off : Nat} {cs : List Value} (h : w.cells? base ((⟨b, off, none⟩ : Addr).add i) n = some cs) : cs.length = n ∧ Cells w b (off + i) cs := by
  obtain ⟨_, hl, hc⟩ := World.cells?_some h
  refine ⟨hl, fun j v hj => ?_⟩
  have := hc j (by have := (List.getElem?_eq_some_iff.1 hj).1; omega)
  rw [hj] at this
  rcases Nat.eq_zero_or_pos i with rfl | hi <;> rcases Nat.eq_zero_or_pos j with rfl | hj'
  · simpa [Addr.add] using this
  · simpa [Addr.add, show j ≠ 0 by omega] using this
  · simpa [Addr.add, show i ≠ 0 by omega] using this
  · simpa [Addr.add, show i ≠ 0 by omega, show j ≠ 0 by omega, Nat.add_assoc] using this

theorem len2 {α : Type} {l : List α} (h : l.length = 2) : ∃ a b, l = [a, b] := by
  match l, h with
  | [a, b], _ => exact ⟨a, b, rfl⟩
theorem len3 {α : Type} {l : List α} (h : l.length = 3) : ∃ a b c, l = [a, b, c] := by
  match l, h with
  | [a, b, c], _ => exact ⟨a, b, c, rfl⟩
theorem len7 {α : Type} {l : List α} (h : l.length = 7) : ∃ a b c d e f g, l = [a, b, c, d, e, f, g] := by
  match l, h with
  | [a, b, c, d, e, f, g], _ => exact ⟨a, b, c, d, e, f, g, rfl⟩
theorem len8 {α : Type} {l : List α} (h : l.length = 8) : ∃ a b c d e f g i, l = [a, b, c, d, e, f, g, i] := by
  match l, h with
  | [a, b, c, d, e, f, g, i], _ => exact ⟨a, b, c, d, e, f, g, i, rfl⟩

theorem list_of {α : Type} {p : Nat → α → Prop} : ∀ (n : Nat), (∀ i, i < n → ∃ x, p i x) → ∃ l : List α, l.length = n ∧ ∀ k x, l[k]? = some x → p k x
  | 0, _ => ⟨[], rfl, fun k x h => by simp at h⟩
  | n + 1, h => by
    obtain ⟨l, hl, hp⟩ := list_of n (fun i hi => h i (by omega))
    obtain ⟨x, hx⟩ := h n (by omega)
    refine ⟨l ++ [x], by simp [hl], fun k y hk => ?_⟩
    rcases Nat.lt_or_ge k n with h' | h'
    · rw [List.getElem?_append_left (by omega)] at hk
      exact hp k y hk
    · have e : k = n := by have := (List.getElem?_eq_some_iff.1 hk).1; simp at this; omega
      subst e
      rw [List.getElem?_append_right (by omega), hl] at hk
      simp at hk
      subst hk
      exact hx

section
variable {H : Type} {enc : TypeId × Value → H} {w : World} {base : Nat} {spare : Nat → Bool} {held : Bool}

theorem take_slice {α : Type} {t e : TypeId} {sz : Nat} (ht : Try.prog.underlying t = some (.slice e)) (hc : Try.prog.cellsOf e = sz) (hsz : 0 < sz) (R : α → List Value → Prop)
    (hR : ∀ n cs x, cs.length = sz → DataW.trod enc Try.prog w base spare held n e cs = some x → ∃ y, R y cs) {fuel : Nat} {a : Option Addr} {n c : Nat} {x : DataW H × List MemPlace}
    (h : DataW.trod enc Try.prog w base spare held fuel t [.slice a n c] = some x) :
    n ≤ c ∧ c ≤ maxLen ∧ ∃ l : List α, l.length = n ∧ (0 < n → ∃ b off, a = some ⟨b, off, none⟩ ∧ ∀ (k : Nat) (y : α), l[k]? = some y → ∃ cs, Cells w b (off + k * sz) cs ∧ R y cs) := by
  rcases Go.Deep.open_slice ht h with ⟨h0, _⟩ | ⟨ad, len, cap, m, n', D, Pl, hcs, hb, hl, hm, hmm, _, hx⟩
  · cases h0
    exact ⟨Nat.le_refl _, by decide, [], rfl, fun h => by omega⟩
  · cases hcs
    refine ⟨hl, hm, ?_⟩
    rw [hc] at hx
    have hle : n ≤ m := by rw [hmm]; split <;> omega
    rcases Nat.eq_zero_or_pos n with rfl | hn
    · exact ⟨[], rfl, fun h => by omega⟩
    obtain ⟨cs0, h0, _⟩ := hx 0 (by omega)
    rw [Nat.zero_mul] at h0
    obtain ⟨b, off, rfl⟩ := plain_of h0 hsz
    have hk : ∀ i, i < n → ∃ y, ∃ cs, Cells w b (off + i * sz) cs ∧ R y cs := fun i hi => by
      obtain ⟨cs, h1, h2⟩ := hx i (by omega)
      obtain ⟨hl', e2⟩ := cells_of h1
      obtain ⟨y, hy⟩ := hR _ _ _ hl' h2
      exact ⟨y, cs, e2, hy⟩
    obtain ⟨l, hl', hp⟩ := list_of n hk
    exact ⟨l, hl', fun hn => ⟨b, off, rfl, fun k y hy => hp k y hy⟩⟩

theorem take_int {k : IntKind} {t : TypeId} (ht : Try.prog.underlying t = some (.int k)) {fuel : Nat} {cs : List Value} {x : DataW H × List MemPlace} (h : DataW.trod enc Try.prog w base spare held fuel t cs = some x) : ∃ n, cs = [.int k n] ∧ (Lit.int k n).wf = true := by
  obtain ⟨n, h1, _, h2⟩ := DataW.trod_int ht h
  exact ⟨n, h1, h2⟩

theorem take_ints {k : IntKind} {t e : TypeId} (ht : Try.prog.underlying t = some (.slice e)) (he : Try.prog.underlying e = some (.int k)) (hc : Try.prog.cellsOf e = 1) {fuel : Nat} {a : Option Addr} {n c : Nat} {x : DataW H × List MemPlace}
    (h : DataW.trod enc Try.prog w base spare held fuel t [.slice a n c] = some x) : n ≤ c ∧ c ≤ maxLen ∧ ∃ l, IntsAt k w a n l ∧ ∀ i ∈ l, (Lit.int k i).wf = true := by
  obtain ⟨h1, h2, l, h3, h4⟩ := take_slice (α := { i : Int // (Lit.int k i).wf = true }) ht hc (by omega) (fun y cs => cs = [.int k y.1]) (fun n cs x _ hx => by obtain ⟨i, hi, hw⟩ := take_int he hx; exact ⟨⟨i, hw⟩, hi⟩) h
  refine ⟨h1, h2, l.map (·.1), ⟨by simp [h3], fun hn => ?_⟩, fun i hi => ?_⟩
  · obtain ⟨b, off, ha, hk⟩ := h4 hn
    refine ⟨b, off, ha, fun k' hk' => ?_⟩
    obtain ⟨y, hy⟩ : ∃ y, l[k']? = some y := ⟨_, List.getElem?_eq_getElem (by omega)⟩
    obtain ⟨cs, h5, rfl⟩ := hk k' y hy
    simpa [List.getD, hy] using h5
  · obtain ⟨y, _, rfl⟩ := List.mem_map.1 hi
    exact y.2

theorem take_span {fuel : Nat} {cs : List Value} {x : DataW H × List MemPlace} (hl : cs.length = 2) (h : DataW.trod enc Try.prog w base spare held fuel 70 cs = some x) : ∃ s : Span, s.cells = cs := by
  obtain ⟨xs, n, _, _, _, hx, hf⟩ := DataW.trod_struct Try.underlying70 h
  have c3 : Try.prog.cellsOf 3 = 1 := by kernel_rfl
  obtain ⟨u, v, rfl⟩ := len2 hl
  obtain ⟨x0, x1, rfl⟩ := len2 (show xs.length = 2 from hx)
  have g0 := hf 0 _ rfl
  have g1 := hf 1 _ rfl
  simp [c3] at g0 g1
  obtain ⟨a, ha, _⟩ := take_int Try.underlying3 g0
  obtain ⟨b, hb, _⟩ := take_int Try.underlying3 g1
  cases ha; cases hb
  exact ⟨⟨a, b⟩, rfl⟩

theorem take_offer {fuel : Nat} {cs : List Value} {x : DataW H × List MemPlace} (hl : cs.length = 8) (h : DataW.trod enc Try.prog w base spare held fuel 81 cs = some x) : ∃ s : Offer, s.cells = cs := by
  obtain ⟨xs, n, _, _, _, hx, hf⟩ := DataW.trod_struct Try.underlying81 h
  have c3 : Try.prog.cellsOf 3 = 1 := by kernel_rfl
  have c70 : Try.prog.cellsOf 70 = 2 := by kernel_rfl
  obtain ⟨u0, u1, u2, u3, u4, u5, u6, u7, rfl⟩ := len8 hl
  obtain ⟨x0, x1, x2, x3, x4, x5, x6, rfl⟩ := len7 (show xs.length = 7 from hx)
  have g0 := hf 0 _ rfl
  have g1 := hf 1 _ rfl
  have g2 := hf 2 _ rfl
  have g3 := hf 3 _ rfl
  have g4 := hf 4 _ rfl
  have g5 := hf 5 _ rfl
  have g6 := hf 6 _ rfl
  simp [c3, c70] at g0 g1 g2 g3 g4 g5 g6
  obtain ⟨a0, h0, _⟩ := take_int Try.underlying3 g0
  obtain ⟨a1, h1, _⟩ := take_int Try.underlying3 g1
  obtain ⟨a2, h2, _⟩ := take_int Try.underlying3 g2
  obtain ⟨a3, h3, _⟩ := take_int Try.underlying3 g3
  obtain ⟨s, h4⟩ := take_span rfl g4
  obtain ⟨a5, h5, _⟩ := take_int Try.underlying3 g5
  obtain ⟨a6, h6, _⟩ := take_int Try.underlying3 g6
  cases h0; cases h1; cases h2; cases h3; cases h4; cases h5; cases h6
  exact ⟨⟨a0, a1, a2, a3, s.lo, s.hi, a5, a6⟩, rfl⟩

theorem take_spans {fuel : Nat} {a : Option Addr} {n c : Nat} {x : DataW H × List MemPlace} (h : DataW.trod enc Try.prog w base spare held fuel 35 [.slice a n c] = some x) : n ≤ c ∧ c ≤ maxLen ∧ ∃ l, SpansAt w a n l := by
  obtain ⟨h1, h2, l, h3, h4⟩ := take_slice (sz := 2) Try.underlying35 (by kernel_rfl) (by omega) (fun (y : Span) cs => y.cells = cs) (fun n cs x hl hx => take_span hl hx) h
  refine ⟨h1, h2, l, h3, fun hn => ?_⟩
  obtain ⟨b, off, ha, hk⟩ := h4 hn
  refine ⟨b, off, ha, fun k' hk' => ?_⟩
  obtain ⟨y, hy⟩ : ∃ y, l[k']? = some y := ⟨_, List.getElem?_eq_getElem (by omega)⟩
  obtain ⟨cs, h5, rfl⟩ := hk k' y hy
  simpa [List.getD, hy] using h5

theorem take_offers {fuel : Nat} {a : Option Addr} {n c : Nat} {x : DataW H × List MemPlace} (h : DataW.trod enc Try.prog w base spare held fuel 22 [.slice a n c] = some x) : n ≤ c ∧ c ≤ maxLen ∧ ∃ l, OffersAt w a n l := by
  obtain ⟨h1, h2, l, h3, h4⟩ := take_slice (sz := 8) Try.underlying22 (by kernel_rfl) (by omega) (fun (y : Offer) cs => y.cells = cs) (fun n cs x hl hx => take_offer hl hx) h
  refine ⟨h1, h2, l, h3, fun hn => ?_⟩
  obtain ⟨b, off, ha, hk⟩ := h4 hn
  refine ⟨b, off, ha, fun k' hk' => ?_⟩
  obtain ⟨y, hy⟩ : ∃ y, l[k']? = some y := ⟨_, List.getElem?_eq_getElem (by omega)⟩
  obtain ⟨cs, h5, rfl⟩ := hk k' y hy
  simpa [List.getD, hy] using h5

theorem take_fairs {fuel : Nat} {a : Option Addr} {n c : Nat} {x : DataW H × List MemPlace} (h : DataW.trod enc Try.prog w base spare held fuel 23 [.slice a n c] = some x) : n ≤ c ∧ c ≤ maxLen ∧ ∃ l, FairsAt w a n l := by
  have c3 : Try.prog.cellsOf 3 = 1 := by kernel_rfl
  have c35 : Try.prog.cellsOf 35 = 1 := by kernel_rfl
  obtain ⟨h1, h2, l, h3, h4⟩ := take_slice (sz := 3) Try.underlying23 (by kernel_rfl) (by omega) (fun (f : Fair) cs => ∃ ka kn kc, cs = [.int .i64 f.place, .int .i64 f.day, .slice ka kn kc] ∧ kn ≤ kc ∧ kc ≤ maxLen ∧ SpansAt w ka kn f.keeps) (fun n cs x hl hx => by
    obtain ⟨xs, n, _, _, _, hx', hf⟩ := DataW.trod_struct Try.underlying83 hx
    obtain ⟨u0, u1, u2, rfl⟩ := len3 hl
    obtain ⟨x0, x1, x2, rfl⟩ := len3 (show xs.length = 3 from hx')
    have g0 := hf 0 _ rfl
    have g1 := hf 1 _ rfl
    have g2 := hf 2 _ rfl
    simp [c3, c35] at g0 g1 g2
    obtain ⟨a0, h0, _⟩ := take_int Try.underlying3 g0
    obtain ⟨a1, h1, _⟩ := take_int Try.underlying3 g1
    cases h0; cases h1
    have hv : ∃ ka kn kc, u2 = .slice ka kn kc := by
      rcases Go.Deep.open_slice Try.underlying35 g2 with ⟨h0, _⟩ | ⟨ad, len, cap, m, n', D, Pl, hcs, _⟩
      · cases h0; exact ⟨_, _, _, rfl⟩
      · cases hcs; exact ⟨_, _, _, rfl⟩
    obtain ⟨ka, kn, kc, rfl⟩ := hv
    obtain ⟨h5, h6, l, h7⟩ := take_spans g2
    exact ⟨⟨a0, a1, l⟩, ka, kn, kc, rfl, h5, h6, h7⟩) h
  refine ⟨h1, h2, l, h3, fun hn => ?_⟩
  obtain ⟨b, off, ha, hk⟩ := h4 hn
  refine ⟨b, off, ha, fun k' f hf => ?_⟩
  obtain ⟨cs, h5, ka, kn, kc, rfl, h6, h7, h8⟩ := hk k' f hf
  exact ⟨ka, kn, kc, h5, h6, h7, h8⟩

theorem take_rows {fuel : Nat} {a : Option Addr} {n c : Nat} {x : DataW H × List MemPlace} (h : DataW.trod enc Try.prog w base spare held fuel 25 [.slice a n c] = some x) : n ≤ c ∧ c ≤ maxLen ∧ ∃ l, RowsAt w a n l := by
  obtain ⟨h1, h2, l, h3, h4⟩ := take_slice (sz := 1) Try.underlying25 (by kernel_rfl) (by omega) (fun (r : List Int) cs => ∃ ka kn kc, cs = [.slice ka kn kc] ∧ kn ≤ kc ∧ kc ≤ maxLen ∧ IntsAt .i64 w ka kn r) (fun n cs x hl hx => by
    have hv : ∃ ka kn kc, cs = [.slice ka kn kc] := by
      rcases Go.Deep.open_slice Try.underlying24 hx with ⟨h0, _⟩ | ⟨ad, len, cap, m, n', D, Pl, hcs, _⟩
      · exact ⟨_, _, _, h0⟩
      · exact ⟨_, _, _, hcs⟩
    obtain ⟨ka, kn, kc, rfl⟩ := hv
    obtain ⟨h5, h6, l, h7, _⟩ := take_ints Try.underlying24 Try.underlying3 (by kernel_rfl) hx
    exact ⟨l, ka, kn, kc, rfl, h5, h6, h7⟩) h
  refine ⟨h1, h2, l, h3, fun hn => ?_⟩
  obtain ⟨b, off, ha, hk⟩ := h4 hn
  refine ⟨b, off, ha, fun k' f hf => ?_⟩
  obtain ⟨cs, h5, ka, kn, kc, rfl, h6, h7, h8⟩ := hk k' f hf
  exact ⟨ka, kn, kc, h5, h6, h7, h8⟩
end
end Go.Proofs.Ytkbhmajcddmhnaa

/- What the input is: slices of barters. -/
namespace Go.Proofs.Ytkbhmajcddmhnaa
open Go.RowKit Go.ChangeShapes Go.WideShapes Go.ChangeAt
set_option linter.unusedVariables false
section
variable {H : Type} {enc : TypeId × Value → H} {w : World} {base : Nat} {spare : Nat → Bool} {held : Bool}
theorem take_barter {fuel : Nat} {cs : List Value} {x : DataW H × List MemPlace} (hl : cs.length = 3) (h : DataW.trod enc Try.prog w base spare held fuel 46 cs = some x) : ∃ s : Barter, s.cells = cs := by
  obtain ⟨xs, n, _, _, _, hx, hf⟩ := DataW.trod_struct Try.underlying46 h
  have c3 : Try.prog.cellsOf 3 = 1 := by kernel_rfl
  obtain ⟨u, v, t, rfl⟩ := len3 hl
  obtain ⟨x0, x1, x2, rfl⟩ := len3 (show xs.length = 3 from hx)
  have g0 := hf 0 _ rfl
  have g1 := hf 1 _ rfl
  have g2 := hf 2 _ rfl
  simp [c3] at g0 g1 g2
  obtain ⟨a, ha, _⟩ := take_int Try.underlying3 g0
  obtain ⟨b, hb, _⟩ := take_int Try.underlying3 g1
  obtain ⟨c, hc, _⟩ := take_int Try.underlying3 g2
  cases ha; cases hb; cases hc
  exact ⟨⟨a, b, c⟩, rfl⟩
theorem take_barters {fuel : Nat} {a : Option Addr} {n c : Nat} {x : DataW H × List MemPlace} (h : DataW.trod enc Try.prog w base spare held fuel 33 [.slice a n c] = some x) : n ≤ c ∧ c ≤ maxLen ∧ ∃ l, BartersAt w a n l := by
  obtain ⟨h1, h2, l, h3, h4⟩ := take_slice (sz := 3) Try.underlying33 (by kernel_rfl) (by omega) (fun (y : Barter) cs => y.cells = cs) (fun n cs x hl hx => take_barter hl hx) h
  refine ⟨h1, h2, l, h3, fun hn => ?_⟩
  obtain ⟨b, off, ha, hk⟩ := h4 hn
  refine ⟨b, off, ha, fun k' hk' => ?_⟩
  obtain ⟨y, hy⟩ : ∃ y, l[k']? = some y := ⟨_, List.getElem?_eq_getElem (by omega)⟩
  obtain ⟨cs, h5, rfl⟩ := hk k' y hy
  simpa [List.getD, hy] using h5
end
end Go.Proofs.Ytkbhmajcddmhnaa
