/- What Finds notes after each trek. -/
import Derived.Test.YtacdndehlkaaeaaVNear
import Derived.Test.YtacdndehlkaaeaaVGr1
namespace Go.Proofs.Ytacdndehlkaaeaa
open Go.RowKit
set_option linter.unusedVariables false
set_option linter.unusedSimpArgs false
def NoteRel (B bF : Nat) (w w' : World) : Prop := Below B w w' ∧ ∀ b o, b ≠ bF → w.heap[b]? = some o → w'.heap[b]? = some o
theorem NoteRel.set {B bF : Nat} {w w' : World} (h : NoteRel B bF w w') (hB : B ≤ bF) (i : Nat) (u : Value) : NoteRel B bF w (w'.setCell ⟨bF, i, none⟩ u) :=
  ⟨h.1.setCell (p := ⟨bF, i, none⟩) hB u, fun b o hb hw => (Below.heap_setCell _ _ _ _ (by simp only; exact hb)).trans (h.2 b o hb hw)⟩
theorem NoteRel.trans {B bF : Nat} {w w' w'' : World} (h : NoteRel B bF w w') (k : NoteRel B bF w' w'') : NoteRel B bF w w'' :=
  ⟨h.1.trans k.1, fun b o hb hw => k.2 b o hb (h.2 b o hb hw)⟩
theorem noteRel_ext {B bF : Nat} {w w' : World} (h : Ext w w') (hB : B ≤ w.heap.size) : NoteRel B bF w w' := ⟨Below.mono h hB, fun b o _ hw => h.heap hw⟩
theorem known_012 (l : List Half) (x y far : Int) : knownOf l x y far = 0 ∨ knownOf l x y far = 1 ∨ knownOf l x y far = 2 := by
  unfold knownOf
  split
  · exact .inl rfl
  · split
    · exact .inr (.inr rfl)
    · exact .inr (.inl rfl)
set_option maxRecDepth 100000 in
set_option maxHeartbeats 4000000 in
theorem note_any (B n bn bx by' bf bF : Nat) (a : Option Addr) (len cap : Nat) (l : List Half) (x y far may sure : Int) (w : World) (hl : HalvesAt w a len l) (hl0 : 0 < len) (hlen : len ≤ 900) (hcap : len ≤ cap) (hcm : cap ≤ maxLen) (hh : ∀ h ∈ l, HalfIn h) (hn : NearOk x y far)
    (hb1 : w.heap[bn]? = some (.cells #[.slice a len cap] 22 (0, 0))) (hb2 : w.heap[bx]? = some (.cells #[.int .i64 x] 3 (0, 0))) (hb3 : w.heap[by']? = some (.cells #[.int .i64 y] 3 (0, 0))) (hb4 : w.heap[bf]? = some (.cells #[.int .i64 far] 3 (0, 0))) (hb5 : w.heap[bF]? = some (.cells #[.int .i64 0, .int .i64 may, .int .i64 sure] 123 (0, 0))) (hB : B ≤ bF) :
    Calls Try.prog 73 #[.int .i64 n, .pointer (some ⟨bn, 0, none⟩), .pointer (some ⟨bx, 0, none⟩), .pointer (some ⟨by', 0, none⟩), .pointer (some ⟨bf, 0, none⟩), .pointer (some ⟨bF, 0, none⟩)] w fun e w' => e = .returned (.tuple #[]) ∧ NoteRel B bF w w' ∧ w'.heap[bF]? = some (.cells #[.int .i64 0, .int .i64 (noteMay may (knownOf l x y far) n), .int .i64 (noteSure sure (knownOf l x y far) n)] 123 (0, 0)) := by
  have hnr := near_any a len cap l x y far w hl hl0 hlen hcap hcm hh hn
  have hk := known_012 l x y far
  generalize knownOf l x y far = k at *
  obtain ⟨K, rfl⟩ : ∃ K : Nat, k = K := ⟨k.toNat, by omega⟩
  have hK : K ≤ 2 := by omega
  obtain ⟨M, hM⟩ : ∃ M, noteMay may K n = M := ⟨_, rfl⟩
  obtain ⟨S, hS⟩ : ∃ S, noteSure sure K n = S := ⟨_, rfl⟩
  rw [hM, hS]
  obtain ⟨z1, _⟩ := (Ext.refl w).box hb1
  obtain ⟨z2, _⟩ := (Ext.refl w).box hb2
  obtain ⟨z3, _⟩ := (Ext.refl w).box hb3
  obtain ⟨z4, _⟩ := (Ext.refl w).box hb4
  have hsz := heap_lt hb5
  have Hnr := Lib.hid hnr
  have Hb5 := Lib.hid hb5
  clear hnr hb5
  clear hl hh hk
  go_enter Try.func73, Try.ntmps73
  go_upto_region 1 with (go_at_call 63; refine (Hnr.out).mono ?_; rintro e w1 ⟨rfl, hx1⟩)
  have hr1 : NoteRel B bF w w1 := noteRel_ext hx1 (by omega)
  have hb51 := hx1.heap Hb5.out
  clear Hnr hb1 hb2 hb3 hb4 z1 z2 z3 z4 hx1
  go_loopw [7] (fun v wr => ∃ (j : Nat) (m s : Int), j ≤ 2 ∧ v = .int .u8 j ∧ NoteRel B bF w wr ∧ wr.heap[bF]? = some (.cells #[.int .i64 0, .int .i64 m, .int .i64 s] 123 (0, 0)) ∧ noteMay m j n = M ∧ noteSure s j n = S) (fun v _ => (intOf v).toNat)
  case atStart => exact ⟨K, may, sure, hK, rfl, hr1, hb51, hM, hS⟩
  case round =>
    obtain ⟨j, m, s, hj, rfl, hr, hb, hm, hs⟩ := hrel
    obtain ⟨z5, z5'⟩ := (Ext.refl wr).box hb
    match j, hj with
    | 0, _ =>
      obtain rfl : m = M := by rw [← hm]; simp [noteMay]
      obtain rfl : s = S := by rw [← hs]; simp [noteSure]
      have Hr := Lib.hid hr
      have Hb := Lib.hid hb
      clear hr hb
      go_wp2_with fail
      go_end0
      exact ⟨rfl, Hr.out, Hb.out⟩
    | 1, _ =>
      by_cases h0 : m < 0
      · have h0B : decide (m < 0) = true := decide_eq_true h0
        have hm' : noteMay n 0 n = M := by rw [← hm]; simp only [noteMay]; (repeat' split) <;> omega
        have hs' : noteSure s 0 n = S := by rw [← hs]; simp only [noteSure]; (repeat' split) <;> omega
        have Hr := Lib.hid hr
        have Hb := Lib.hid hb
        have Hm' := Lib.hid hm'
        have Hs' := Lib.hid hs'
        clear hr hb hm' hs'
        clear hm hs
        go_wp2_with fail
        go_roundw
        case rel => exact ⟨0, n, s, by omega, by go_num, Hr.out.set hB _ _, by rw [heap_setCell_box, Hb.out]; rfl, Hm'.out, Hs'.out⟩
        case measure => simp [intOf]
      · have h0B : decide (m < 0) = false := decide_eq_false h0
        have hm' : noteMay m 0 n = M := by rw [← hm]; simp only [noteMay]; (repeat' split) <;> omega
        have hs' : noteSure s 0 n = S := by rw [← hs]; simp only [noteSure]; (repeat' split) <;> omega
        have Hr := Lib.hid hr
        have Hb := Lib.hid hb
        have Hm' := Lib.hid hm'
        have Hs' := Lib.hid hs'
        clear hr hb hm' hs'
        clear hm hs
        go_wp2_with fail
        go_roundw
        case rel => exact ⟨0, m, s, by omega, by go_num, Hr.out, Hb.out, Hm'.out, Hs'.out⟩
        case measure => simp [intOf]
    | 2, _ =>
      by_cases h0 : s < 0
      · have h0B : decide (s < 0) = true := decide_eq_true h0
        have hm' : noteMay m 1 n = M := by rw [← hm]; simp only [noteMay]; (repeat' split) <;> omega
        have hs' : noteSure n 1 n = S := by rw [← hs]; simp only [noteSure]; (repeat' split) <;> omega
        have Hr := Lib.hid hr
        have Hb := Lib.hid hb
        have Hm' := Lib.hid hm'
        have Hs' := Lib.hid hs'
        clear hr hb hm' hs'
        clear hm hs
        go_wp2_with fail
        go_roundw
        case rel => exact ⟨1, m, n, by omega, by go_num, Hr.out.set hB _ _, by rw [heap_setCell_box, Hb.out]; rfl, Hm'.out, Hs'.out⟩
        case measure => simp [intOf]
      · have h0B : decide (s < 0) = false := decide_eq_false h0
        have hm' : noteMay m 1 n = M := by rw [← hm]; simp only [noteMay]; (repeat' split) <;> omega
        have hs' : noteSure s 1 n = S := by rw [← hs]; simp only [noteSure]; (repeat' split) <;> omega
        have Hr := Lib.hid hr
        have Hb := Lib.hid hb
        have Hm' := Lib.hid hm'
        have Hs' := Lib.hid hs'
        clear hr hb hm' hs'
        clear hm hs
        go_wp2_with fail
        go_roundw
        case rel => exact ⟨1, m, s, by omega, by go_num, Hr.out, Hb.out, Hm'.out, Hs'.out⟩
        case measure => simp [intOf]
end Go.Proofs.Ytacdndehlkaaeaa
