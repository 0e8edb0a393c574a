/- The reference of layer 2: within, ordered, At, Great. -/
import Derived.Test.YtcoelhpmkhimpaaHerdD
import Derived.Test.YtcoelhpmkhimpaaFromTo
import Derived.Deep.CutRange
import Derived.Deep.CutBlock
import Derived.Carry
namespace Go.Proofs.Ytcoelhpmkhimpaa
open Go.RowKit
set_option linter.unusedVariables false
set_option linter.unusedSimpArgs false
theorem within2_any (x lo hi : Int) (w : World) : Calls Try.prog 105 #[.int .i64 x, .int .i64 lo, .int .i64 hi] w fun e w' => e = .returned (.bool (inB x lo hi)) ∧ Ext w w' := by
  have hv : inB x lo hi = (decide (lo ≤ x) && decide (x ≤ hi)) := rfl
  by_cases h1 : lo ≤ x
  · have b1 : decide (lo ≤ x) = true := decide_eq_true h1
    have e : inB x lo hi = decide (x ≤ hi) := by rw [hv, b1]; rfl
    rw [e]
    clear e hv h1
    go_enter Try.func105, Try.ntmps105
    go_wp2_with fail
    go_ret
    exact ⟨rfl, Ext.refl _⟩
  · have b1 : decide (lo ≤ x) = false := decide_eq_false h1
    have e : inB x lo hi = false := by rw [hv, b1]; rfl
    rw [e]
    clear e hv h1
    go_enter Try.func105, Try.ntmps105
    go_wp2_with fail
    go_ret
    exact ⟨rfl, Ext.refl _⟩
theorem ordered2_any (s : Span) (lo hi : Int) (w : World) : Calls Try.prog 106 #[s.val, .int .i64 lo, .int .i64 hi] w fun e w' => e = .returned (.bool (spanOk s lo hi)) ∧ Ext w w' := by
  obtain ⟨a, b⟩ := s
  have hv : spanOk ⟨a, b⟩ lo hi = (decide (lo ≤ a) && decide (a ≤ b) && decide (b ≤ hi)) := rfl
  unfold Span.val
  simp only
  by_cases h1 : lo ≤ a
  · have b1 : decide (lo ≤ a) = true := decide_eq_true h1
    by_cases h2 : a ≤ b
    · have b2 : decide (a ≤ b) = true := decide_eq_true h2
      have e : spanOk ⟨a, b⟩ lo hi = decide (b ≤ hi) := by rw [hv, b1, b2]; rfl
      rw [e]
      clear e hv h1 h2
      go_enter Try.func106, Try.ntmps106
      go_wp2_with fail
      go_ret
      exact ⟨rfl, (Ext.refl _).alloc _⟩
    · have b2 : decide (a ≤ b) = false := decide_eq_false h2
      have e : spanOk ⟨a, b⟩ lo hi = false := by rw [hv, b1, b2]; rfl
      rw [e]
      clear e hv h1 h2
      go_enter Try.func106, Try.ntmps106
      go_wp2_with fail
      go_ret
      exact ⟨rfl, (Ext.refl _).alloc _⟩
  · have b1 : decide (lo ≤ a) = false := decide_eq_false h1
    have e : spanOk ⟨a, b⟩ lo hi = false := by rw [hv, b1]; rfl
    rw [e]
    clear e hv h1
    go_enter Try.func106, Try.ntmps106
    go_wp2_with fail
    go_ret
    exact ⟨rfl, (Ext.refl _).alloc _⟩
theorem place_found {l : List Animal} {id : Int} {k : Nat} {a : Animal} (h : l[k]? = some a) (e : a.id = id) (hb : ∀ j x, j < k → l[j]? = some x → x.id ≠ id) : placeOf l id = some k := by
  unfold placeOf
  rw [List.findIdx?_eq_some_iff_getElem]
  obtain ⟨hk, rfl⟩ := List.getElem?_eq_some_iff.1 h
  refine ⟨hk, by simpa using e, fun j hj => ?_⟩
  have := hb j _ hj (List.getElem?_eq_getElem (by omega))
  simpa using this
theorem place_missing {l : List Animal} {id : Int} (hb : ∀ j x, j < l.length → l[j]? = some x → x.id ≠ id) : placeOf l id = none := by
  unfold placeOf
  rw [List.findIdx?_eq_none_iff]
  intro x hx
  obtain ⟨j, hj, rfl⟩ := List.mem_iff_getElem.1 hx
  simpa using hb j _ hj (List.getElem?_eq_getElem hj)
theorem at2_any (a : Option Addr) (n c : Nat) (l : List Animal) (id : Int) (w : World) (hl : AnimalsAt w a n l) (hn : n ≤ 1000000000) : Calls Try.prog 24 #[.slice a n c, .int .i64 id] w fun e w' => e = .returned (.int .i64 (atOf l id)) ∧ Ext w w' := by
  have hll := hl.1
  have hfin := fun k x (h : l[k]? = some x) (e : x.id = id) (hb : ∀ j y, j < k → l[j]? = some y → y.id ≠ id) => place_found h e hb
  have hmis := fun (hb : ∀ j y, j < l.length → l[j]? = some y → y.id ≠ id) => place_missing hb
  obtain ⟨V, hV⟩ : ∃ V, atOf l id = V := ⟨_, rfl⟩
  rw [hV]
  unfold atOf at hV
  have Hl := Lib.hid hl
  have Hfin := Lib.hid hfin
  have Hmis := Lib.hid hmis
  have HV := Lib.hid hV
  clear hl hfin hmis hV
  go_enter Try.func24, Try.ntmps24
  go_upto_region 2 with fail
  go_loopw [5] (fun i wr => ∃ k : Nat, i = .int .i64 k ∧ k ≤ n ∧ Ext w wr ∧ ∀ j y, j < k → l[j]? = some y → y.id ≠ id) (fun i _ => n - (intOf i).toNat)
  case atStart => exact ⟨0, rfl, Nat.zero_le _, Ext.refl _, fun j _ hj _ => absurd hj (Nat.not_lt_zero _)⟩
  case round =>
    obtain ⟨k, rfl, hk, hxw, hb⟩ := hrel
    by_cases hlt : k < n
    · have hltB : decide ((k : Int) < (n : Int)) = true := by simp; omega
      obtain ⟨b, off, x, ka, kn, kc, rfl, hxk, hbs, c0, _, _, _, _, _, _, _⟩ := (Hl.out.ext hxw).get k hlt
      by_cases he : x.id = id
      · have heB : (x.id == id) = true := by simpa using he
        have hp := Hfin.out k x hxk he hb
        have hv := HV.out
        rw [hp] at hv
        simp only at hv
        clear hb hxk
        subst hv
        have Hxw := Lib.hid hxw
        clear hxw
        go_wp2_with fail
        go_ret
        exact ⟨rfl, Hxw.out⟩
      · have heB : (x.id == id) = false := by simpa using he
        have hb' : ∀ j y, j < k + 1 → l[j]? = some y → y.id ≠ id := fun j y hj hy => by
          by_cases e : j = k
          · subst e
            rw [hxk] at hy
            cases hy
            exact he
          · exact hb j y (by omega) hy
        have hbd := hn
        clear hb hxk he
        have Hxw := Lib.hid hxw
        have Hb' := Lib.hid hb'
        clear hxw hb'
        go_wp2_with fail
        go_roundw
        case rel => exact ⟨k + 1, by go_num, by omega, Hxw.out, Hb'.out⟩
        case measure => simp [intOf]; omega
    · have hltB : decide ((k : Int) < (n : Int)) = false := by simp; omega
      have hp := Hmis.out (fun j y hj hy => hb j y (by omega) hy)
      have hv := HV.out
      rw [hp] at hv
      simp only at hv
      subst hv
      clear hb
      have Hxw := Lib.hid hxw
      clear hxw
      go_wp2_with fail
      go_ret
      exact ⟨rfl, Hxw.out⟩
def great2B (l : List Animal) : Bool := decide (20 < l.length) || l.any fun x => decide (12 < x.marks.length)
theorem great2_any (a : Option Addr) (n c : Nat) (l : List Animal) (w : World) (hl : AnimalsAt w a n l) (hn : n ≤ maxLen) : Calls Try.prog 21 #[.slice a n c] w fun e w' => e = .returned (.bool (great2B l)) ∧ Ext w w' := by
  have hll := hl.1
  unfold maxLen at hn
  have hv : great2B l = (decide (20 < n) || l.any fun x => decide (12 < x.marks.length)) := by unfold great2B; rw [hll]
  obtain ⟨V, hV⟩ : ∃ V, great2B l = V := ⟨_, rfl⟩
  rw [hV] at hv ⊢
  by_cases h20 : 20 < n
  · have hB : decide (20 < (n : Int)) = true := by simp; omega
    have hB' : decide (20 < n) = true := decide_eq_true h20
    rw [hB'] at hv
    simp only [Bool.true_or] at hv
    subst hv
    clear hV hB' hl
    go_enter Try.func21, Try.ntmps21
    go_wp2_with fail
    go_ret
    exact ⟨rfl, Ext.refl _⟩
  · have hB : decide (20 < (n : Int)) = false := by simp; omega
    have hB' : decide (20 < n) = false := decide_eq_false h20
    rw [hB', Bool.false_or] at hv
    clear hV hB'
    have Hl := Lib.hid hl
    have Hv := Lib.hid hv
    clear hl hv
    go_enter Try.func21, Try.ntmps21
    go_upto_region 4 with fail
    go_loopw [3] (fun i wr => ∃ k : Nat, i = .int .i64 k ∧ k ≤ n ∧ Ext w wr ∧ ∀ y ∈ l.take k, ¬12 < y.marks.length) (fun i _ => n - (intOf i).toNat)
    case atStart => exact ⟨0, rfl, Nat.zero_le _, Ext.refl _, by simp⟩
    case round =>
      obtain ⟨k, rfl, hk, hxw, hb⟩ := hrel
      by_cases hlt : k < n
      · have hltB : decide ((k : Int) < (n : Int)) = true := by simp; omega
        obtain ⟨b, off, x, ka, kn, kc, rfl, hxk, hbs, c0, c1, c2, c3, c4, q1, q2, hm⟩ := (Hl.out.ext hxw).get k hlt
        have hml := hm.1
        unfold maxLen at q2
        by_cases he : 12 < kn
        · have heB : decide (12 < (kn : Int)) = true := by simp; omega
          have hv := Hv.out
          rw [List.any_eq_true.2 ⟨x, List.mem_of_getElem? hxk, by simp; omega⟩] at hv
          subst hv
          clear hb hxk hm
          have Hxw := Lib.hid hxw
          clear hxw
          go_wp2_with fail
          go_ret
          exact ⟨rfl, Hxw.out⟩
        · have heB : decide (12 < (kn : Int)) = false := by simp; omega
          have hb' : ∀ y ∈ l.take (k + 1), ¬12 < y.marks.length := fun y hy => by
            rw [List.take_add_one, hxk, Option.toList_some, List.mem_append, List.mem_singleton] at hy
            rcases hy with hy | rfl
            · exact hb y hy
            · omega
          clear hb hxk hm
          have Hxw := Lib.hid hxw
          have Hb' := Lib.hid hb'
          clear hxw hb'
          go_wp2_with fail
          go_roundw
          case rel => exact ⟨k + 1, by go_num, by omega, Hxw.out, Hb'.out⟩
          case measure => simp [intOf]; omega
      · have hltB : decide ((k : Int) < (n : Int)) = false := by simp; omega
        have hv := Hv.out
        rw [List.take_of_length_le (by omega)] at hb
        rw [List.any_eq_false.2 fun y hy => by simpa using hb y hy] at hv
        subst hv
        clear hb
        have Hxw := Lib.hid hxw
        clear hxw
        go_wp2_with fail
        go_ret
        exact ⟨rfl, Hxw.out⟩
end Go.Proofs.Ytcoelhpmkhimpaa
