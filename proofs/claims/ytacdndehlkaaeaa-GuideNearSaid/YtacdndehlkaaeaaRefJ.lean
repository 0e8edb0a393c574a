/- Halves joined, in memory that may be written. -/
import Derived.Test.YtacdndehlkaaeaaRefA
namespace Go.Proofs.Ytacdndehlkaaeaa
open Go.RowKit
set_option linter.unusedVariables false
set_option linter.unusedSimpArgs false
/-- halves in a slice of their own, which may be written -/
def OwnHalvesO (l : List Half) (w : World) (e : Ending) (w' : World) : Prop := ∃ v, e = .returned v ∧ Ext w w' ∧ Owns w' w.heap.size 47 3 v (halfRows l)
theorem OwnHalvesO.own {l : List Half} {w : World} {e : Ending} {w' : World} (h : OwnHalvesO l w e w') : OwnHalves l w e w' := by
  obtain ⟨v, rfl, hx, ho⟩ := h
  obtain ⟨a, c, rfl, h1, h2, h3, h4⟩ := halves_of_owns ho
  exact ⟨a, c, rfl, h2, h3, hx, h4, h1⟩
set_option maxRecDepth 100000 in
set_option maxHeartbeats 4000000 in
theorem joinedO_any (a : Option Addr) (len cap : Nat) (l : List Half) (b : Option Addr) (m mc : Nat) (M : List Half) (w : World) (hl : HalvesAt w a len l) (hM : HalvesAt w b m M) (hlen : len ≤ 100000) (hm : m ≤ 100000) : Calls Try.prog 50 #[.slice a len cap, .slice b m mc] w (OwnHalvesO (l ++ M) w) := by
  have hll := hl.1
  have hml := hM.1
  have hrl : (halfRows l).length = len := by rw [halfRows_len]; exact hll
  have hrm : (halfRows M).length = m := by rw [halfRows_len]; exact hml
  have hsl : SlAt w 3 a len (fun k => (halfRows l).getD k []) := hl.src
  have Hrl := Lib.hid hrl
  have Hrm := Lib.hid hrm
  have Hsl := Lib.hid hsl
  have HM := Lib.hid hM
  have Hl := Lib.hid hl
  clear hrl hrm hsl hM hl
  go_enter Try.func50, Try.ntmps50
  go_wp2_with (at_builtin; refine wpList_app elem22 _ rfl (.tmp 5) (.tmp 6) rfl w.heap.size _ (halfRows []) rfl (Owns.empty' (alloc_at _ _ _ rfl) (Nat.le_refl _) rfl (by decide)) a len cap (halfRows l) rfl Hrl.out (Hsl.out.ext ((Ext.refl _).alloc _)) (halfRows_row _) ?_ ?_ ?_)
  · show 0 + len ≤ 1000000000
    omega
  · simp
  intro v4 w4 ho4 hg4 _
  rw [show halfRows [] ++ halfRows l = halfRows l from rfl] at ho4
  have hx4 : Ext w w4 := ((Ext.refl w).alloc _).app (Owns.empty' (sz := 3) (cap := 0) (alloc_at _ _ _ rfl) (Nat.le_refl _) rfl (by decide)) hg4
  obtain ⟨va4, vc4, hv4, _, _, _, _⟩ := ho4.slAt
  subst hv4
  have hM4 := (HM.out.ext hx4).src
  have Ho4 := Lib.hid ho4
  have Hx4 := Lib.hid hx4
  have HM4 := Lib.hid hM4
  clear ho4 hx4 hM4
  clear hg4
  go_wp2_with (at_builtin; refine wpList_app elem22 _ rfl (.tmp 7) (.tmp 8) rfl w.heap.size _ (halfRows l) rfl Ho4.out b m mc (halfRows M) rfl Hrm.out HM4.out (halfRows_row _) ?_ ?_ ?_)
  · rw [Hrl.out]
    omega
  · exact Hx4.out.size
  intro v5 w5 ho5 hg5 _
  rw [← halfRows_append] at ho5
  have hx5 := Hx4.out.app Ho4.out hg5
  have Ho5 := Lib.hid ho5
  have Hx5 := Lib.hid hx5
  clear ho5 hx5
  clear hg5
  go_wp2_with fail
  go_ret
  exact ⟨_, rfl, Hx5.out, Ho5.out⟩
set_option maxRecDepth 100000 in
theorem twinO_any (a : Option Addr) (len cap : Nat) (l : List Half) (w : World) (hl : HalvesAt w a len l) (hlen : len ≤ 100000) : Calls Try.prog 15 #[.agg #[.slice a len cap]] w fun e w' => ∃ v, e = .returned (.agg #[v]) ∧ Ext w w' ∧ Owns w' w.heap.size 47 3 v (halfRows l) := by
  have hj := fun W (hW : Ext w W) => joinedO_any a len cap l none 0 0 [] W (hl.ext hW) ⟨rfl, fun h => absurd h (by simp)⟩ hlen (by omega)
  rw [List.append_nil] at hj
  have hll := hl.1
  unfold OwnHalvesO at hj
  have Hj := Lib.hid hj
  clear hj
  clear hl
  go_enter Try.func15, Try.ntmps15
  go_wp2_with (go_at_call 50; refine (Hj.out _ (((Ext.refl _).alloc _).alloc _)).mono ?_; rintro e w1 ⟨v, rfl, h3, h4⟩; have hr1 := h3.heap (alloc_at (w.alloc (.cells #[.slice a len cap] 24)) (.cells #[.slice none 0 0] 24) (w.heap.size + 1) (by simp)); have hlr := heap_lt hr1; obtain ⟨f0, _⟩ := (Ext.refl w1).box hr1; obtain ⟨va, vc, hv, _⟩ := h4.slAt; subst hv)
  refine bodyPost_ret (results_cell_row rfl _ _ (w.heap.size + 1) 24 #[.slice va (halfRows l).length vc] (0, 0) _ rfl (by simp only [heap_setCell_box, hr1, Option.map_some, setIn_cells, List.setIfInBounds_toArray, List.set_cons_zero, List.set_cons_succ]) Try.underlying24 rfl (by kernel_rfl)) rfl ?_
  exact ⟨_, rfl, ((((Ext.refl _).alloc _).alloc _).trans h3).setCell (p := ⟨w.heap.size + 1, 0, none⟩) (by simp only; omega) _, (owns_set h4 (by simp)).mono (by simp; omega)⟩
end Go.Proofs.Ytacdndehlkaaeaa
