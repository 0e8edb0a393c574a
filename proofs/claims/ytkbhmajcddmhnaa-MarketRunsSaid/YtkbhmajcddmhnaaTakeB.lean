/- What the input is: slices of barters. -/
import Derived.Test.YtkbhmajcddmhnaaTake
import Derived.Test.YtkbhmajcddmhnaaPurse
namespace Go.Proofs.Ytkbhmajcddmhnaa
open Go.RowKit Go.ChangeShapes Go.WideShapes Go.ChangeAt
set_option linter.unusedVariables false
section
variable {H : Type} {enc : TypeId × Value → H} {w : World} {base : Nat} {spare : Nat → Bool} {held : Bool}
theorem take_barter {fuel : Nat} {cs : List Value} {x : DataW H × List MemPlace} (hl : cs.length = 3) (h : DataW.trod enc Try.prog w base spare held fuel 46 cs = some x) : ∃ s : Barter, s.cells = cs := by
  obtain ⟨xs, n, _, _, _, hx, hf⟩ := DataW.trod_struct Try.underlying46 h
  have c3 : Try.prog.cellsOf 3 = 1 := by kernel_rfl
  obtain ⟨u, v, t, rfl⟩ := len3 hl
  obtain ⟨x0, x1, x2, rfl⟩ := len3 (show xs.length = 3 from hx)
  have g0 := hf 0 _ rfl
  have g1 := hf 1 _ rfl
  have g2 := hf 2 _ rfl
  simp [c3] at g0 g1 g2
  obtain ⟨a, ha, _⟩ := take_int Try.underlying3 g0
  obtain ⟨b, hb, _⟩ := take_int Try.underlying3 g1
  obtain ⟨c, hc, _⟩ := take_int Try.underlying3 g2
  cases ha; cases hb; cases hc
  exact ⟨⟨a, b, c⟩, rfl⟩
theorem take_barters {fuel : Nat} {a : Option Addr} {n c : Nat} {x : DataW H × List MemPlace} (h : DataW.trod enc Try.prog w base spare held fuel 33 [.slice a n c] = some x) : n ≤ c ∧ c ≤ maxLen ∧ ∃ l, BartersAt w a n l := by
  obtain ⟨h1, h2, l, h3, h4⟩ := take_slice (sz := 3) Try.underlying33 (by kernel_rfl) (by omega) (fun (y : Barter) cs => y.cells = cs) (fun n cs x hl hx => take_barter hl hx) h
  refine ⟨h1, h2, l, h3, fun hn => ?_⟩
  obtain ⟨b, off, ha, hk⟩ := h4 hn
  refine ⟨b, off, ha, fun k' hk' => ?_⟩
  obtain ⟨y, hy⟩ : ∃ y, l[k']? = some y := ⟨_, List.getElem?_eq_getElem (by omega)⟩
  obtain ⟨cs, h5, rfl⟩ := hk k' y hy
  simpa [List.getD, hy] using h5
end
end Go.Proofs.Ytkbhmajcddmhnaa
