/- slices.SortStableFunc over meetings (fewer than 20 of them), slices.Clone. -/
import Derived.Test.YtcoelhpmkhimpaaSortC
namespace Go.Proofs.Ytcoelhpmkhimpaa
open Go.RowKit
set_option linter.unusedVariables false
set_option linter.unusedSimpArgs false
theorem meets_of_block {w : World} {b : Nat} {l : List Meet} (h : RowBlock w b 74 4 (meetRows l)) : MeetsAt w (some ⟨b, 0, none⟩) l.length l := by
  have := h.slAt
  rw [meetRows_len] at this
  exact ⟨rfl, this.congr fun i hi => by simp [meetRows, List.getD, List.getElem?_map, List.getElem?_eq_getElem hi]⟩
theorem but_more {O O' : Nat → Prop} {A B : World} (h : But O A B) (hO : ∀ b, O b → O' b) : But O' A B := ⟨h.os, h.tape, h.output, h.size, fun b o hb hn => h.block b o hb (fun q => hn (hO b q))⟩
theorem meets_nil {w : World} {a : Option Addr} : MeetsAt w a 0 [] := ⟨rfl, fun h => absurd h (Nat.lt_irrefl 0)⟩
theorem insSort_none (a : Option Addr) (cap : Nat) (w : World) : Calls Try.prog 144 #[.slice a 0 cap, .int .i64 0, .int .i64 0, .func (.func 70) #[] #[]] w fun e w' => (∃ v, e = .returned v) ∧ w' = w := by
  go_enter Try.func144, Try.ntmps144
  go_upto_region 1 with fail
  go_loopw [8] (fun i wr => i = .int .i64 1 ∧ wr = w) (fun _ _ => 0)
  case atStart => exact ⟨rfl, rfl⟩
  case round =>
    obtain ⟨rfl, rfl⟩ := hrel
    go_wp2_with fail
    go_end0
    exact ⟨⟨_, rfl⟩, rfl⟩
/-- sorted in place: what is not in the slice's block lies as it lay -/
def SortPost (a : Option Addr) (n : Nat) (L : List Meet) (w : World) (e : Ending) (w' : World) : Prop := (∃ v, e = .returned v) ∧ MeetsAt w' a n (sortM L) ∧ But (fun b => ∃ x, a = some x ∧ x.block = b) w w'
theorem insOwn_any (B : Nat) (a : Option Addr) (n c : Nat) (L : List Meet) (w : World) (ho : Owns w B 74 4 (.slice a n c) (meetRows L)) (hn : n < 20) : Calls Try.prog 144 #[.slice a n c, .int .i64 0, .int .i64 n, .func (.func 70) #[] #[]] w (SortPost a n L w) := by
  rcases Nat.eq_zero_or_pos n with h0 | h0
  · subst h0
    have hL : L = [] := by
      obtain ⟨_, _, e, _, _, _, h⟩ := ho.slAt
      simp only [Value.slice.injEq, meetRows_len] at e
      exact List.length_eq_zero_iff.1 e.2.1.symm
    subst hL
    exact (insSort_none a c w).mono fun e w' h => ⟨h.1, meets_nil, by rw [h.2]; exact But.refl _ _⟩
  · have hl : (meetRows L).length = n := by
      obtain ⟨_, _, e, _, _, _, h⟩ := ho.slAt
      simp only [Value.slice.injEq] at e
      exact e.2.1.symm
    obtain ⟨g, c', e, h1, h2, h3, hB⟩ := ho.block (by omega)
    simp only [Value.slice.injEq] at e
    obtain ⟨rfl, hn', rfl⟩ := e
    have hl' : L.length = n := by rw [← meetRows_len]; exact hl
    refine (insSort_any g n c L w hB hl' h0 (by omega) (by omega)).mono fun e w' h => ⟨h.1, ?_, but_more h.2.2 fun b hb => ⟨_, rfl, hb.symm⟩⟩
    have := meets_of_block h.2.1
    rw [sortM_len, hl'] at this
    exact this
set_option maxRecDepth 100000 in
theorem stableCmp_any (B : Nat) (a : Option Addr) (n c : Nat) (L : List Meet) (w : World) (ho : Owns w B 74 4 (.slice a n c) (meetRows L)) (hn : n < 20) : Calls Try.prog 115 #[.slice a n c, .int .i64 n, .func (.func 70) #[] #[]] w (SortPost a n L w) := by
  have hi := insOwn_any B a n c L w ho hn
  have h1 : decide (20 ≤ (n : Int)) = false := decide_eq_false (by omega)
  have h2 : decide (20 < (n : Int)) = false := decide_eq_false (by omega)
  have Hi := Lib.hid hi
  clear hi
  clear ho
  go_enter Try.func115, Try.ntmps115
  go_upto_region 2 with fail
  go_loopw [7, 8] (fun i j wr => i = .int .i64 0 ∧ j = .int .i64 20 ∧ wr = w) (fun _ _ _ => 0)
  case atStart => exact ⟨rfl, rfl, rfl⟩
  case round =>
    obtain ⟨rfl, rfl, rfl⟩ := hrel
    go_upto_region 7 with (go_at_call 144; refine Hi.out.mono ?_; rintro e v1 ⟨⟨v, rfl⟩, hm, hb⟩; have HM := Lib.hid hm; have HBu := Lib.hid hb; clear hm hb)
    go_loopw [6] (fun i wr => i = .int .i64 20 ∧ wr = v1) (fun _ _ => 0)
    case atStart => exact ⟨rfl, rfl⟩
    case round =>
      obtain ⟨rfl, rfl⟩ := hrel
      go_wp2_with fail
      go_end0
      exact ⟨⟨_, rfl⟩, HM.out, HBu.out⟩
theorem stable_any (B : Nat) (a : Option Addr) (n c : Nat) (L : List Meet) (w : World) (ho : Owns w B 74 4 (.slice a n c) (meetRows L)) (hn : n < 20) : Calls Try.prog 69 #[.slice a n c, .func (.func 70) #[] #[]] w (SortPost a n L w) := by
  have hi := stableCmp_any B a n c L w ho hn
  have Hi := Lib.hid hi
  clear hi
  clear ho
  go_enter Try.func69, Try.ntmps69
  go_wp2_with (go_at_call 115; refine Hi.out.mono ?_; rintro e v1 ⟨⟨v, rfl⟩, hm, hb⟩; have HM := Lib.hid hm; have HBu := Lib.hid hb; clear hm hb)
  go_end0
  exact ⟨⟨_, rfl⟩, HM.out, HBu.out⟩
end Go.Proofs.Ytcoelhpmkhimpaa
