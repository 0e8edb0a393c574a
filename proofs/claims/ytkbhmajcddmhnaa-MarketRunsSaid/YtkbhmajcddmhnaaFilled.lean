/- Contract: market.filled. -/
import Derived.Test.YtkbhmajcddmhnaaAt
namespace Go.Proofs.Ytkbhmajcddmhnaa
open Go.RowKit
set_option linter.unusedVariables false

def stocksOk (l : List Int) : Bool := decide (l.length = 5) && l.all (fun n => inB n 0 1000000)

theorem filledFn_any (x : Int) (w : World) : Calls Try.prog 76 #[.int .i64 x] w fun e w' => e = .returned (.bool (inB x 0 1000000)) ∧ Ext w w' := by
  go_enter Try.func76, Try.ntmps76
  go_wp2_with (go_at_call 51; refine (in_any _ _ _ _).mono ?_; rintro e w' ⟨rfl, rfl⟩)
  go_ret
  exact ⟨rfl, Ext.refl _⟩

theorem ints5 {w : World} {a : Option Addr} {l : List Int} (h : IntsAt .i64 w a 5 l) : ∃ b off x0 x1 x2 x3 x4, a = some ⟨b, off, none⟩ ∧ l = [x0, x1, x2, x3, x4] ∧ b < w.heap.size ∧ w.cell? ⟨b, off, none⟩ = some (.int .i64 x0) ∧ w.cell? ⟨b, off + 1, none⟩ = some (.int .i64 x1) ∧
    w.cell? ⟨b, off + 2, none⟩ = some (.int .i64 x2) ∧ w.cell? ⟨b, off + 3, none⟩ = some (.int .i64 x3) ∧ w.cell? ⟨b, off + 4, none⟩ = some (.int .i64 x4) := by
  obtain ⟨b, off, x0, rfl, h0, hb, c0⟩ := h.get 0 (by omega)
  obtain ⟨b', off', x1, e1, h1, _, c1⟩ := h.get 1 (by omega)
  cases e1
  obtain ⟨b', off', x2, e1, h2, _, c2⟩ := h.get 2 (by omega)
  cases e1
  obtain ⟨b', off', x3, e1, h3, _, c3⟩ := h.get 3 (by omega)
  cases e1
  obtain ⟨b', off', x4, e1, h4, _, c4⟩ := h.get 4 (by omega)
  cases e1
  have hl := h.1
  refine ⟨b, off, x0, x1, x2, x3, x4, rfl, ?_, hb, c0, c1, c2, c3, c4⟩
  match l, hl with
  | [y0, y1, y2, y3, y4], _ => simp at h0 h1 h2 h3 h4; simp [*]

set_option maxRecDepth 100000 in
set_option maxHeartbeats 4000000 in
theorem filled_ok (a : Option Addr) (cap : Nat) (x0 x1 x2 x3 x4 : Int) (w : World) (hl : IntsAt .i64 w a 5 [x0, x1, x2, x3, x4]) (hv : stocksOk [x0, x1, x2, x3, x4] = true) :
    Calls Try.prog 47 #[.slice a 5 cap] w fun e w' => e = .returned (.tuple #[.agg #[.int .i64 x0, .int .i64 x0, .int .i64 x1, .int .i64 x1, .int .i64 x2, .int .i64 x2, .int .i64 x3, .int .i64 x3, .int .i64 x4, .int .i64 x4], .bool true]) ∧ Ext w w' := by
  have hev : ∀ W, Ext w W → Calls Try.prog 75 #[.slice a 5 cap, .func (.func 76) #[] #[]] W fun e w' => e = .returned (.bool true) ∧ Ext W w' := fun W hW => by
    have := every_int 76 (enters_of Try.func76 (by kernel_rfl) rfl) a 5 cap _ (fun n => inB n 0 1000000) W (hl.ext hW) (by omega) (fun o _ W' _ => filledFn_any o W')
    simp only [stocksOk, Bool.and_eq_true] at hv
    rw [hv.2] at this
    exact this
  obtain ⟨b, off, y0, y1, y2, y3, y4, rfl, he, hb, c0, c1, c2, c3, c4⟩ := ints5 hl
  cases he
  have Hev := Lib.hid hev
  clear hl hv hev
  go_enter Try.func47, Try.ntmps47
  go_wp2_with (go_at_call 75; refine (Hev.out _ ((Ext.refl _).alloc _)).mono ?_; rintro e w1 ⟨rfl, hx1⟩; obtain ⟨hc1, hf1⟩ := hx1.box (heap_alloc_new w _); have hz1 := ((Ext.refl _).alloc _).trans hx1; obtain ⟨hc2, hf2, hz2⟩ := hz1.facts)
  refine wp_loop_rounds 6 ?_
  iterate 6 (rw [rounds_succ]; go_wp2_with fail)
  have hb1 := hx1.heap (heap_alloc_new w _)
  refine bodyPost_ret (results_cell_tmp (P := Try.prog) (fn := Try.f47) rfl _ _ w.heap.size 107 #[.int .i64 x0, .int .i64 x0, .int .i64 x1, .int .i64 x1, .int .i64 x2, .int .i64 x2, .int .i64 x3, .int .i64 x3, .int .i64 x4, .int .i64 x4] (0, 0) _ rfl (by simp only [heap_setCell_box, hb1, Option.map_some, setIn_cells, List.setIfInBounds_toArray, List.set_cons_zero, List.set_cons_succ]) Try.underlying107 rfl (by kernel_rfl)) rfl ⟨rfl, ?_⟩
  repeat (refine Ext.setCell ?_ (Nat.le_refl _) _)
  exact hz1

theorem filled_bad (a : Option Addr) (n cap : Nat) (l : List Int) (w : World) (hl : IntsAt .i64 w a n l) (hn : n ≤ 1000000) (hv : stocksOk l = false) :
    Calls Try.prog 47 #[.slice a n cap] w fun e w' => e = .returned (.tuple #[.agg #[.int .i64 0, .int .i64 0, .int .i64 0, .int .i64 0, .int .i64 0, .int .i64 0, .int .i64 0, .int .i64 0, .int .i64 0, .int .i64 0], .bool false]) ∧ Ext w w' := by
  have hln := hl.1
  by_cases h5 : n = 5
  · have hev : ∀ W, Ext w W → Calls Try.prog 75 #[.slice a n cap, .func (.func 76) #[] #[]] W fun e w' => e = .returned (.bool false) ∧ Ext W w' := fun W hW => by
      have := every_int 76 (enters_of Try.func76 (by kernel_rfl) rfl) a n cap _ (fun n => inB n 0 1000000) W (hl.ext hW) (by omega) (fun o _ W' _ => filledFn_any o W')
      have e : (l.all fun n => inB n 0 1000000) = false := by simpa [stocksOk, hln, h5] using hv
      rw [e] at this
      exact this
    subst h5
    have Hev := Lib.hid hev
    clear hl hv hev hln
    go_enter Try.func47, Try.ntmps47
    go_wp2_with (go_at_call 75; refine (Hev.out _ ((Ext.refl _).alloc _)).mono ?_; rintro e w1 ⟨rfl, hx1⟩; obtain ⟨hc1, hf1⟩ := hx1.box (heap_alloc_new w _))
    refine bodyPost_ret (v := .tuple #[.agg #[.int .i64 0, .int .i64 0, .int .i64 0, .int .i64 0, .int .i64 0, .int .i64 0, .int .i64 0, .int .i64 0, .int .i64 0, .int .i64 0], .bool false]) (by simp only [results, Try.results47]; go_simp) rfl ⟨rfl, ?_⟩
    repeat (refine Ext.setCell ?_ (Nat.le_refl _) _)
    exact ((Ext.refl _).alloc _).trans hx1
  · have h5' : ((n : Int) != 5) = true := by rw [bne_iff_ne]; omega
    clear hl hv hln
    go_enter Try.func47, Try.ntmps47
    go_wp2_with fail
    refine bodyPost_ret (v := .tuple #[.agg #[.int .i64 0, .int .i64 0, .int .i64 0, .int .i64 0, .int .i64 0, .int .i64 0, .int .i64 0, .int .i64 0, .int .i64 0, .int .i64 0], .bool false]) (by simp [results, Try.results47, go_sem]) rfl ⟨rfl, ?_⟩
    repeat (refine Ext.setCell ?_ (Nat.le_refl _) _)
    exact (Ext.refl _).alloc _
end Go.Proofs.Ytkbhmajcddmhnaa
