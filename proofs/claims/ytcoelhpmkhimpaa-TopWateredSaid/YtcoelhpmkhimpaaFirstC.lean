/- Contracts of layer 3: the first of some days. -/
import Derived.Test.YtcoelhpmkhimpaaLegC
import Derived.ArgAppend
namespace Go.Proofs.Ytcoelhpmkhimpaa
open Go.RowKit
set_option linter.unusedVariables false
set_option linter.unusedSimpArgs false
/-- the least of the first k and one -/
def minTo (l : List Int) (k : Nat) (x : Int) : Int := (l.take k).foldl min x
theorem minTo_succ {l : List Int} {k : Nat} {y : Int} (h : l[k]? = some y) (x : Int) : minTo l (k + 1) x = min (minTo l k x) y := by
  unfold minTo
  rw [List.take_add_one, h, Option.toList_some, List.foldl_append]
  rfl
theorem if_min (a b : Int) : (if b < a then b else a) = min a b := by split <;> omega
set_option maxRecDepth 100000 in
theorem min_any (a : Option Addr) (n cap : Nat) (l : List Int) (x : Int) (w : World) (hl : IntsAt .i64 w a n l) (h0 : l[0]? = some x) (hn : n ≤ 1000) : Calls Try.prog 136 #[.slice a n cap] w fun e w' => e = .returned (.int .i64 (minTo l n x)) ∧ w' = w := by
  have hll := hl.1
  have hn0 : 0 < n := by have := (List.getElem?_eq_some_iff.1 h0).1; omega
  obtain ⟨b, off, y, rfl, hy, hb, c0⟩ := hl.get 0 hn0
  rw [h0] at hy
  cases hy
  have h1 : minTo l 1 x = x := by
    rw [minTo_succ h0]
    simp [minTo]
  have hnB : decide ((n : Int) < 1) = false := by simp; omega
  have hnC : decide (n < 1) = false := by simp; omega
  simp only [Nat.add_zero] at c0
  have Hl := Lib.hid hl
  have Hll := Lib.hid hll
  have H1 := Lib.hid h1
  have H0 := Lib.hid h0
  clear hl hll h1 h0
  go_enter Try.func136, Try.ntmps136
  go_wp2_with fail
  go_loopw [4, 3] (fun i m wr => ∃ k : Nat, 1 ≤ k ∧ k ≤ n ∧ i = .int .i64 k ∧ m = .int .i64 (minTo l k x) ∧ wr = w) (fun i _ _ => n - (intOf i).toNat)
  case atStart => exact ⟨1, by omega, by omega, rfl, by rw [H1.out], rfl⟩
  case round =>
    obtain ⟨k, hk1, hk, rfl, rfl, rfl⟩ := hrel
    clear c0
    by_cases hlt : k < n
    · have hltB : decide ((k : Int) < (n : Int)) = true := by simp; omega
      obtain ⟨b', off', z, e, hz, hb', c1⟩ := Hl.out.get k hlt
      cases e
      have hs := minTo_succ hz x
      generalize minTo l k x = A at *
      obtain ⟨B, hB⟩ : ∃ B, (if z < A then z else A) = B := ⟨_, rfl⟩
      rw [← if_min, hB] at hs
      have Hs := Lib.hid hs
      have Hz := Lib.hid hz
      clear hs hz
      go_wp2_with fail
      go_roundw
      case rel => exact ⟨k + 1, by omega, by omega, by go_num, by rw [Hs.out], trivial⟩
      case measure => simp [intOf]; omega
    · obtain rfl : k = n := by omega
      go_wp2_with fail
      go_ret
      exact ⟨rfl, rfl⟩
theorem ext_of_grown {w w' : World} (h : w.grownBy w' none) : Ext w w' := by
  obtain ⟨h1, h2, h3, h4, h5⟩ := h
  exact ⟨h1, h2, h3, h4, fun k hk => h5 k hk (by simp)⟩
theorem info3 : (Try.prog.info? 3).map (fun i => (i.zero, i.size, i.bytes)) = some (some (.int .i64 0), 1, 8) := by kernel_rfl
theorem intRows_flat (k : IntKind) (l : List Int) : (intRows k l).flatten = l.map (Value.int k) := by
  induction l with
  | nil => rfl
  | cons x r ih =>
    show (intRows k (x :: r)).flatten = _
    simp only [intRows, List.map_cons, List.flatten_cons] at *
    rw [ih]
    rfl
theorem owns_of_grow {w : World} {B e n : Nat} {k : IntKind} {v : Value} {l m : List Int} (h : w.ownsRow B e 1 v n (l.map (Value.int k) ++ m.map (Value.int k))) (hn : n = (l ++ m).length) : Owns w B e 1 v (intRows k (l ++ m)) := by
  subst hn
  refine ⟨?_, fun r hr => (intRows_row k _ r hr).1⟩
  rw [intRows_flat, List.map_append]
  simpa [intRows] using h
theorem one_cell : ∀ u ∈ [Value.int .i64 100001], u.oneCell' = true := by intro u hu; simp at hu; subst hu; rfl
theorem grown_ints {W w w' : World} {e n B : Nat} {v : Value} {l m : List Int} (hx : Ext W w) (ho : w'.ownsRow B e 1 v n (l.map (Value.int .i64) ++ m.map (Value.int .i64))) (hg : w.grownBy w' none) (hn : (l ++ m).length = n) :
    ∃ a c, v = .slice a n c ∧ Ext W w' ∧ IntsAt .i64 w' a n (l ++ m) := by
  obtain ⟨a, c, e, -, -, -, h⟩ := ints_of_owns (owns_of_grow ho hn.symm)
  rw [hn] at e h
  exact ⟨a, c, e, hx.trans (ext_of_grown hg), h⟩
set_option maxRecDepth 100000 in
theorem first_any (b n : Nat) (l : List Int) (x : Int) (w : World) (hl : IntsAt .i64 w (some ⟨b, 0, none⟩) n l) (h0 : l[0]? = some x) (hn : n ≤ 100) : Calls Try.prog 96 #[.slice (some ⟨b, 0, none⟩) n n] w fun e w' => e = .returned (.int .i64 (min (minTo l n x) 100001)) ∧ Ext w w' := by
  have hll := hl.1
  have hmin : minTo (l ++ [100001]) (n + 1) x = min (minTo l n x) 100001 := by
    unfold minTo
    rw [List.take_of_length_le (by simp; omega), List.take_of_length_le (by omega), List.foldl_append]
    rfl
  rw [← hmin]
  obtain ⟨i, e1, e2, e3, e4⟩ := info_parts info3
  have hx1 : Ext w (w.alloc (.cells #[.int .i64 100001] 3)) := (Ext.refl _).alloc _
  have hb1 := heap_alloc_new w (.cells #[.int .i64 100001] 3)
  have hl1 := hl.ext hx1
  have holds : ∀ j u, (l.map (Value.int .i64))[j]? = some u → (w.alloc (.cells #[.int .i64 100001] 3)).cell? ⟨b, 0 + j, none⟩ = some u := fun j u hu => by
    obtain ⟨b', off, y, e, hy, _, hc⟩ := hl1.get j (by have := (List.getElem?_eq_some_iff.1 hu).1; simp at this; omega)
    cases e
    rw [List.getElem?_map, hy] at hu
    cases hu
    exact hc
  have hnews : ∀ j u, [Value.int .i64 100001][j]? = some u → (w.alloc (.cells #[.int .i64 100001] 3)).cell? ((⟨w.heap.size, 0, none⟩ : Addr).add j) = some u := fun j u hu => by
    cases j with
    | zero =>
      cases hu
      rw [addr_add', cell_of_row _ _ _ _ 3 (0, 0) hb1]
      rfl
    | succ j => simp at hu
  have hlo : (l.map (Value.int .i64)).length = n * 1 := by simp; omega
  have hby : (n + 1) * 8 ≤ 140737488355328 := by omega
  have h0' : (l ++ [100001])[0]? = some x := by
    have := (List.getElem?_eq_some_iff.1 h0).1
    rw [List.getElem?_append_left this]
    exact h0
  have hml : (l ++ [100001] : List Int).length = n + 1 := by simp; omega
  have Hx1 := Lib.hid hx1
  have Holds := Lib.hid holds
  have Hnews := Lib.hid hnews
  have Hlo := Lib.hid hlo
  have Hby := Lib.hid hby
  have H0' := Lib.hid h0'
  have Hml := Lib.hid hml
  have E1 := Lib.hid e1
  have E2 := Lib.hid e2
  have E3 := Lib.hid e3
  have E4 := Lib.hid e4
  clear hx1 holds hnews hlo hby h0' hml e1 e2 e3 e4
  clear hl hl1 hb1 h0 hll hmin
  have h63 : n + 1 ≤ maxLen := by unfold maxLen; omega
  go_enter Try.func96, Try.ntmps96
  go_wp2_with (first | (at_builtin; refine wpList_append_arg _ rfl (.tmp 3) (.tmp 4) 34 rfl 3 i (.int .i64 0) 1 8 Try.underlying34 E1.out E2.out E3.out E4.out rfl (by omega) b 0 n n (l.map (Value.int .i64)) rfl Hlo.out Holds.out ⟨w.heap.size, 0, none⟩ 1 1 [.int .i64 100001] rfl rfl Hnews.out one_cell (fun h => absurd h (by omega)) h63 Hby.out (fun h => absurd h (by omega)) ?_; intro hcap v' w' hown hgr; obtain ⟨a', c', e', hx2, hi'⟩ := grown_ints (m := [100001]) Hx1.out hown hgr Hml.out; subst e'; have hmn := min_any a' (n + 1) c' _ x w' hi' H0'.out (by omega); have Hx2 := Lib.hid hx2; have Hmn := Lib.hid hmn; clear hx2 hmn hi' hown hgr) | (go_at_call 136; refine (Hmn.out).mono ?_; rintro e w9 ⟨rfl, rfl⟩))
  go_ret
  exact ⟨rfl, Hx2.out⟩
end Go.Proofs.Ytcoelhpmkhimpaa
