/- slices.Clone over meetings. -/
import Derived.Test.YtcoelhpmkhimpaaStableC
import Derived.Lib.AppendZeros
import Derived.Test.YtcoelhpmkhimpaaFromTo
import Derived.Lib.SliceRun
namespace Go.Proofs.Ytcoelhpmkhimpaa
open Go.RowKit
set_option linter.unusedVariables false
set_option linter.unusedSimpArgs false
theorem info74 : (Try.prog.info? 74).map (fun i => (i.zero, i.size, i.bytes)) = some (some (.agg #[.int .i64 0, .int .i64 0, .int .i64 0, .bool false]), 4, 32) := by kernel_rfl
theorem elem66 : Elem Try.prog 66 74 4 := by
  obtain ⟨i, h1, h2, h3, h4⟩ := info_parts info74
  exact ⟨Try.underlying66, ⟨i, _, _, h1, h2, h3, h4, rfl, by decide⟩, by decide⟩
theorem meetRows_row (l : List Meet) : ∀ r ∈ meetRows l, r.length = 4 ∧ ∀ u ∈ r, u.oneCell' = true := by
  intro r hr
  obtain ⟨t, _, rfl⟩ := List.mem_map.1 hr
  refine ⟨rfl, fun u hu => ?_⟩
  simp only [Meet.cells, List.mem_cons, List.not_mem_nil, or_false] at hu
  rcases hu with rfl | rfl | rfl | rfl <;> rfl
theorem MeetsAt.src {w : World} {a : Option Addr} {n : Nat} {l : List Meet} (h : MeetsAt w a n l) : SlAt w 4 a n (fun k => (meetRows l).getD k []) :=
  h.2.congr fun k hk => by
    have := h.1
    simp only [meetRows, List.getD, List.getElem?_map, List.getElem?_eq_getElem (show k < l.length by omega), Option.map_some, Option.getD_some]
theorem Owns.emptyM {w : World} {base b cap : Nat} {e : TypeId} {sz : Nat} {cur : Array Value} (hb : w.heap[b]? = some (.cells cur e (0, 0))) (hB : base ≤ b) (hc : cur.size = cap * sz) (hm : cap ≤ maxLen) : Owns w base e sz (.slice (some ⟨b, 0, none⟩) 0 cap) [] :=
  ⟨⟨by simp, .inr ⟨b, cap, cur, rfl, hB, hb, Nat.zero_le _, hm, hc, by simp⟩⟩, by simp⟩
def OwnMeets (B : Nat) (l : List Meet) (e : Ending) (w w' : World) : Prop := ∃ a c, e = .returned (.slice a l.length c) ∧ Ext w w' ∧ Owns w' B 74 4 (.slice a l.length c) (meetRows l)
set_option maxRecDepth 100000 in
theorem cloneM_any (a : Option Addr) (n cap : Nat) (l : List Meet) (w : World) (hl : MeetsAt w a n l) (hn : n ≤ 100000) (ha : a = none → n = 0 ∧ cap = 0) (hoff : ∀ x, a = some x → ∃ b o, x = ⟨b, o, none⟩) : Calls Try.prog 68 #[.slice a n cap] w fun e w' => OwnMeets w.heap.size l e w w' := by
  have hll := hl.1
  cases a with
  | none =>
    obtain ⟨rfl, rfl⟩ := ha rfl
    have hL : l = [] := List.length_eq_zero_iff.1 hll
    subst hL
    have heq : (binOp .eql 66 (.slice none 0 0) (.slice none 0 0)).run Try.prog w = .ok (.bool true) w := by
      have := Go.Lib.run_eql_slice_nil (P := Try.prog) w 66 74 none 0 0 0 0 Try.underlying66
      simpa using this
    clear hl
    go_enter Try.func68, Try.ntmps68
    go_wp2_with fail
    go_ret
    exact ⟨none, 0, rfl, Ext.refl _, Owns.nil _ _ _ _⟩
  | some x =>
    obtain ⟨b, o, rfl⟩ := hoff _ rfl
    have hrl : (meetRows l).length = n := by rw [meetRows_len]; exact hll
    have hsl := hl.src
    have heq : (binOp .eql 66 (.slice (some ⟨b, o, none⟩) n cap) (.slice none 0 0)).run Try.prog w = .ok (.bool false) w := by
      have := Go.Lib.run_eql_slice_nil (P := Try.prog) w 66 74 (some ⟨b, o, none⟩) n cap 0 0 Try.underlying66
      simpa using this
    have Hrl := Lib.hid hrl
    have Hsl := Lib.hid hsl
    have Hl := Lib.hid hl
    clear hrl hsl hl
    go_enter Try.func68, Try.ntmps68
    go_wp2_with (at_builtin; refine wpList_app elem66 _ rfl (.tmp 5) (.tmp 6) rfl w.heap.size _ (meetRows []) rfl (Owns.emptyM (alloc_at _ _ _ rfl) (Nat.le_refl _) rfl (by decide)) (some ⟨b, o, none⟩) n cap (meetRows l) rfl Hrl.out (Hsl.out.ext ((Ext.refl _).alloc _)) (meetRows_row _) ?_ ?_ ?_)
    · show 0 + n ≤ 1000000000
      omega
    · simp
    intro v4 w4 ho4 hg4 _
    rw [show meetRows [] ++ meetRows l = meetRows l from rfl] at ho4
    have hx4 : Ext w w4 := ((Ext.refl w).alloc _).app (Owns.emptyM (sz := 4) (cap := 0) (alloc_at _ _ _ rfl) (Nat.le_refl _) rfl (by decide)) hg4
    obtain ⟨a4, c4, e4, _, _, _, _⟩ := ho4.slAt
    rw [meetRows_len] at e4
    subst e4
    have Ho4 := Lib.hid ho4
    have Hx4 := Lib.hid hx4
    clear ho4 hx4
    clear hg4
    go_wp2_with fail
    go_ret
    exact ⟨a4, c4, rfl, Hx4.out, Ho4.out⟩
end Go.Proofs.Ytcoelhpmkhimpaa
