/- The reference: whether a place is in the halves of all looks but some. -/
import Derived.Test.YtacdndehlkaaeaaVRefSee
import Derived.Test.YtacdndehlkaaeaaVClashP
namespace Go.Proofs.Ytacdndehlkaaeaa
open Go.RowKit
set_option linter.unusedVariables false
set_option linter.unusedSimpArgs false
/-- a slice of truth values -/
def BoolsAt (w : World) (a : Option Addr) (n : Nat) (f : Nat → Bool) : Prop := SlAt w 1 a n fun i => [.bool (f i)]
theorem BoolsAt.ext {w w' : World} {a : Option Addr} {n : Nat} {f : Nat → Bool} (h : BoolsAt w a n f) (e : Ext w w') : BoolsAt w' a n f := SlAt.ext h e
theorem BoolsAt.get {w : World} {a : Option Addr} {n : Nat} {f : Nat → Bool} (h : BoolsAt w a n f) (k : Nat) (hk : k < n) :
    ∃ b off, a = some ⟨b, off, none⟩ ∧ b < w.heap.size ∧ w.cell? ⟨b, off + k, none⟩ = some (.bool (f k)) := by
  obtain ⟨b, off, ha, hc⟩ := h (by omega)
  have h0 := hc k hk 0 _ rfl
  simp only [Nat.mul_one, Nat.add_zero] at h0
  exact ⟨b, off, ha, block_lt_of_cell h0, h0⟩
/-- the halves of the first k looks, but some -/
def butTo (l : List Half) (looks : List Sight) (out : Nat → Bool) (k : Nat) : List Half := l ++ (List.range k).flatMap fun i => if out i then [] else halvesOf (looks.getD i zl)
theorem butTo_all (l : List Half) (looks : List Sight) (out : Nat → Bool) : butTo l looks out looks.length = allBut l looks out := rfl
theorem butTo_zero (l : List Half) (looks : List Sight) (out : Nat → Bool) : butTo l looks out 0 = l := by simp [butTo]
theorem butTo_succ (l : List Half) (looks : List Sight) (out : Nat → Bool) (k : Nat) : butTo l looks out (k + 1) = butTo l looks out k ++ if out k then [] else halvesOf (looks.getD k zl) := by
  simp only [butTo, List.range_succ, List.flatMap_append, List.flatMap_cons, List.flatMap_nil, List.append_nil, List.append_assoc]
theorem butTo_len (l : List Half) (looks : List Sight) (out : Nat → Bool) : ∀ k, (butTo l looks out k).length ≤ l.length + 4 * k
  | 0 => by rw [butTo_zero]; omega
  | k + 1 => by
    have := butTo_len l looks out k
    rw [butTo_succ, List.length_append]
    split
    · simp only [List.length_nil]; omega
    · have := (halves_len (looks.getD k zl)).2
      omega
theorem butTo_in {l : List Half} {looks : List Sight} {out : Nat → Bool} (hl : ∀ h ∈ l, HalfIn h) (hs : ∀ i, i < looks.length → sightOk (looks.getD i zl) = true) : ∀ k, k ≤ looks.length → ∀ h ∈ butTo l looks out k, HalfIn h
  | 0, _, h, hh => hl h (by rw [butTo_zero] at hh; exact hh)
  | k + 1, hk, h, hh => by
    rw [butTo_succ] at hh
    rcases List.mem_append.1 hh with h1 | h1
    · exact butTo_in hl hs k (by omega) h h1
    · split at h1
      · cases h1
      · exact halves_ok (hs k (by omega)) h h1
/-- halves in a slice -/
def HalvesSl (w W : World) (v : Value) (l : List Half) : Prop := ∃ a c, v = .slice a l.length c ∧ Ext w W ∧ HalvesAt W a l.length l
theorem gtr_of_some {l : List Half} {n : Nat} (hn : (cornersOf l).length = n) : decide ((0 : Int) < (n : Int)) = someB l := by
  unfold someB
  subst hn
  cases cornersOf l with
  | nil => rfl
  | cons c r => simp
set_option maxRecDepth 100000 in
set_option maxHeartbeats 4000000 in
theorem fits_any (a : Option Addr) (len cap : Nat) (l : List Half) (sa : Option Addr) (n sc : Nat) (looks : List Sight) (oa : Option Addr) (on oc : Nat) (out : Nat → Bool) (w : World) (hl : HalvesAt w a len l) (hlen : len ≤ 60) (hs : SightsAt w sa n looks) (hn : n ≤ 60) (ho : BoolsAt w oa on out) (hon : on = n)
    (hh : ∀ h ∈ l, HalfIn h) (hok : ∀ i, i < looks.length → sightOk (looks.getD i zl) = true) : Calls Try.prog 56 #[.slice a len cap, .slice sa n sc, .slice oa on oc] w fun e w' => e = .returned (.bool (someB (allBut l looks out))) ∧ Ext w w' := by
  subst hon
  have hll := hl.1
  have hsl := hs.1
  have hj0 := joined_any a len cap l none 0 0 [] w hl ⟨rfl, fun h => absurd h (by simp)⟩ (by omega) (by omega)
  rw [List.append_nil] at hj0
  unfold OwnHalves at hj0
  rw [hll] at hj0
  have hbl := butTo_len l looks out
  have hbi := butTo_in (out := out) hh hok
  obtain ⟨R, hR⟩ : ∃ R, someB (allBut l looks out) = R := ⟨_, rfl⟩
  rw [hR]
  have Hj0 := Lib.hid hj0
  have Hl := Lib.hid hl
  have Hs := Lib.hid hs
  have Ho := Lib.hid ho
  have Hh := Lib.hid hh
  have Hok := Lib.hid hok
  have Hll := Lib.hid hll
  have Hsl := Lib.hid hsl
  have Hbl := Lib.hid hbl
  have Hbi := Lib.hid hbi
  have HR := Lib.hid hR
  clear hj0 hl hs ho hh hok hll hsl hbl hbi hR
  go_enter Try.func56, Try.ntmps56
  go_upto_region 3 with (go_at_call 50; refine Hj0.out.mono ?_; rintro e w1 ⟨ja, jc, rfl, j1, j2, hx1, hJ, _⟩)
  go_loopw [7, 8] (fun v i wr => ∃ k : Nat, k ≤ on ∧ i = .int .i64 k ∧ HalvesSl w wr v (butTo l looks out k)) (fun _ i _ => on - (intOf i).toNat)
  case atStart => exact ⟨0, Nat.zero_le _, rfl, ja, jc, by rw [butTo_zero, Hll.out], hx1, by rw [butTo_zero, Hll.out]; exact hJ⟩
  case round =>
    clear hx1 hJ
    obtain ⟨k, hk, rfl, va, vc, hv, hx, hV⟩ := hrel
    obtain ⟨N, hN⟩ : ∃ N, (butTo l looks out k).length = N := ⟨_, rfl⟩
    have hNle : N ≤ 300 := by have := Hbl.out k; have := Hll.out; omega
    rw [hN] at hv hV
    subst hv
    by_cases hlt : k < on
    · have hltB : decide ((k : Int) < (on : Int)) = true := by simp; omega
      obtain ⟨ob, oo, rfl, hob, co⟩ := (Ho.out.ext hx).get k hlt
      obtain ⟨sb, so, x, rfl, hsk, hsb, c0, c1, c2, c3, c4, c5, c6, c7, c8, c9⟩ := (Hs.out.ext hx).get k hlt
      have hgx : looks.getD k zl = x := by simp [List.getD, hsk]
      have hsucc := butTo_succ l looks out k
      rw [hgx] at hsucc
      cases hok' : out k with
      | true =>
        rw [hok'] at hsucc co
        simp only [if_true, List.append_nil] at hsucc
        have Hx := Lib.hid hx
        have HV := Lib.hid hV
        have HN := Lib.hid hN
        have Hsucc := Lib.hid hsucc
        clear hx hV hN hsucc
        clear c0 c1 c2 c3 c4 c5 c6 c7 c8 c9 hsk hgx hok'
        go_wp2_with fail
        go_roundw
        case rel => exact ⟨k + 1, by omega, by go_num, va, vc, by rw [Hsucc.out, HN.out], Hx.out, by rw [Hsucc.out, HN.out]; exact HV.out⟩
        case measure => simp [intOf]; omega
      | false =>
        rw [hok'] at hsucc co
        simp only [Bool.false_eq_true, if_false] at hsucc
        have hso := Hok.out k (by have := Hsl.out; omega)
        rw [hgx] at hso
        have hal := fun W => rhalves_any x W hso
        have hml := (halves_len x).2
        unfold Sight.val OwnHalves at hal
        try simp only at hal
        generalize halvesOf x = M at *
        obtain ⟨m, hm⟩ : ∃ m, M.length = m := ⟨_, rfl⟩
        rw [hm] at hal hml
        obtain ⟨N', hN'⟩ : ∃ N', (butTo l looks out k ++ M).length = N' := ⟨_, rfl⟩
        have hjo := fun (W : World) ma mc (hW : Ext wr W) (hM : HalvesAt W ma m M) => joined_any va N vc _ ma m mc M W (hV.ext hW) hM (by omega) (by omega)
        unfold OwnHalves at hjo
        simp only [hN'] at hjo
        have Hx := Lib.hid hx
        have HV := Lib.hid hV
        have HN := Lib.hid hN
        have Hsucc := Lib.hid hsucc
        have Hal := Lib.hid hal
        have Hjo := Lib.hid hjo
        have Hm := Lib.hid hm
        have HN' := Lib.hid hN'
        clear hx hV hN hsucc hal hjo hm hN'
        clear hsk hgx hok' hso
        go_wp2_with (first | (go_at_call 54; refine (Hal.out _).mono ?_; rintro e w2 ⟨ma, mc, rfl, m1, m2, hx2, hM, _⟩) | (go_at_call 50; refine (Hjo.out _ _ _ hx2 hM).mono ?_; rintro e w3 ⟨ka, kc, rfl, k1, k2, hx3, hK, _⟩; have hx4 := Hx.out.trans (hx2.trans hx3)))
        go_roundw
        case rel => exact ⟨k + 1, by omega, by go_num, ka, kc, by rw [Hsucc.out, HN'.out], hx4, by rw [Hsucc.out, HN'.out]; exact hK⟩
        case measure => simp [intOf]; omega
    · have hltB : decide ((k : Int) < (on : Int)) = false := by simp; omega
      obtain rfl : k = on := by omega
      have hrc := rcorners_any va N vc _ wr hV (Hbi.out k (by have := Hsl.out; omega)) (by omega)
      have hall : butTo l looks out k = allBut l looks out := by rw [← butTo_all, Hsl.out]
      unfold CornersPost at hrc
      rw [hall] at hrc
      obtain ⟨K, hK⟩ : ∃ K, (cornersOf (allBut l looks out)).length = K := ⟨_, rfl⟩
      rw [hK] at hrc
      have hg := gtr_of_some hK
      rw [HR.out] at hg
      have hg' : decide (0 < K) = R := by rw [← hg]; simp
      have Hrc := Lib.hid hrc
      have Hx := Lib.hid hx
      have HK := Lib.hid hK
      have HN := Lib.hid hN
      clear hrc hx hK hN
      clear hall hV
      go_wp2_with (go_at_call 55; refine Hrc.out.mono ?_; rintro e w4 ⟨ka, kc, rfl, hx4, _⟩)
      go_ret
      exact ⟨ret_bool (by first | rfl | exact hg' | exact hg), Hx.out.trans hx4⟩
end Go.Proofs.Ytacdndehlkaaeaa
