/- The law MarketBest. -/
import Derived.Test.YtkbhmajcddmhnaaVReady
import Derived.Test.YtkbhmajcddmhnaaVBestLaw
namespace Go.Proofs.Ytkbhmajcddmhnaa
open Go.RowKit
set_option linter.unusedVariables false
set_option linter.unusedSimpArgs false

/-- the chain that the other numbers choose -/
def otherAt (os : List Int) (n : Nat) (i : Nat) : Int := if i < os.length then os.getD i 0 % ((n : Int) + 1) - 1 else -1
def otherChain (os : List Int) (n m : Nat) : List Int := (List.range m).map (otherAt os n)
def fillTo (c : List Int) (m k : Nat) : List Int := c.take k ++ List.replicate (m - k) 0
theorem fillTo_step {c : List Int} {m k : Nat} {x : Int} (hk : k < m) (hc : c[k]? = some x) (y : Int) : fillTo c m (k + 1) = ((fillTo c m k).set k y).set k x := by
  have hl : k < c.length := (List.getElem?_eq_some_iff.1 hc).1
  unfold fillTo
  rw [List.set_set, List.take_add_one, hc, Option.toList_some, show m - k = (m - (k + 1)) + 1 by omega, List.replicate_succ, List.set_append_right _ _ (by simp; omega)]
  simp [Nat.min_eq_left (Nat.le_of_lt hl)]
theorem fillTo_get {c : List Int} {m k : Nat} (hk : k < m) (hl : c.length = m) : (fillTo c m k)[k]? = some 0 := by
  unfold fillTo
  rw [List.getElem?_append_right (by simp; omega)]
  simp only [List.length_take, hl, Nat.min_eq_left (Nat.le_of_lt hk), Nat.sub_self]
  rw [List.getElem?_replicate_of_lt (by omega)]
theorem other_len (os : List Int) (n m : Nat) : (otherChain os n m).length = m := by simp [otherChain]
theorem other_ok {os : List Int} {n m : Nat} (h : ∀ x ∈ os, 0 ≤ x ∧ x ≤ 255) : ∀ k ∈ otherChain os n m, -1 ≤ k ∧ k < (n : Int) := by
  intro k hk
  obtain ⟨i, _, rfl⟩ := List.mem_map.1 hk
  unfold otherAt
  split
  · have h1 : 0 ≤ os.getD i 0 % ((n : Int) + 1) := Int.emod_nonneg _ (by omega)
    have h2 : os.getD i 0 % ((n : Int) + 1) < (n : Int) + 1 := Int.emod_lt_of_pos _ (by omega)
    omega
  · omega
theorem other_get (os : List Int) (n : Nat) {m k : Nat} (hk : k < m) : (otherChain os n m)[k]? = some (otherAt os n k) := by simp [otherChain, hk]

set_option maxRecDepth 100000 in
set_option maxHeartbeats 4000000 in
theorem lawBest_any (a : Option Addr) (n cap : Nat) (l : List Offer) (fa : Option Addr) (fn fc : Nat) (fs : List Fair) (g0 u0 want : Int) (oa : Option Addr) (on oc : Nat) (os : List Int) (w : World)
    (hl : OffersAt w a n l) (hf : FairsAt w fa fn fs) (hos : IntsAt .u8 w oa on os) (hu8 : ∀ x ∈ os, 0 ≤ x ∧ x ≤ 255) (hn : n ≤ maxLen) (hfn : fn ≤ maxLen) (hon : on ≤ maxLen) :
    Calls Try.prog 8 #[.slice a n cap, .slice fa fn fc, .int .i64 g0, .int .i64 u0, .int .i64 want, .slice oa on oc] w fun e w' => e = .returned (.bool true) ∧ Ext w w' := by
  have hal := fun W => alive_any W
  have hrd := fun W (hW : Ext w W) => ready_any a n cap l fa fn fc fs W (hl.ext hW) (hf.ext hW) hn hfn
  unfold maxLen at hn hfn hon
  cases hr : readyB l fs with
  | false =>
    rw [hr] at hrd
    have Hal := Lib.hid hal
    have Hrd := Lib.hid hrd
    clear hal hrd
    clear hl hf hos hu8 hr
    go_enter Try.func8, Try.ntmps8
    go_wp2_with (first | (go_at_call 32; refine (Hal.out _).mono ?_; rintro e w1 ⟨rfl, hx1⟩) | (go_at_call 33; refine (Hrd.out _ hx1).mono ?_; rintro e w2 ⟨rfl, hx2⟩))
    go_ret
    exact ⟨rfl, hx1.trans hx2⟩
  | true =>
  have hr2 := hr
  simp only [readyB, Bool.and_eq_true, Bool.not_eq_true', decide_eq_true_eq] at hr2
  obtain ⟨ho, ht⟩ := checkOf_zero hr2.2
  rw [hr] at hrd
  have hc0 := hr2.2
  clear hr hr2
  by_cases b1 : g0 < 0
  · have b1' : decide (g0 < 0) = true := decide_eq_true b1
    have Hal := Lib.hid hal
    have Hrd := Lib.hid hrd
    clear hal hrd
    clear hl hf hos hu8 ho ht hc0
    go_enter Try.func8, Try.ntmps8
    go_wp2_with (first | (go_at_call 32; refine (Hal.out _).mono ?_; rintro e w1 ⟨rfl, hx1⟩) | (go_at_call 33; refine (Hrd.out _ hx1).mono ?_; rintro e w2 ⟨rfl, hx2⟩))
    go_ret
    exact ⟨rfl, hx1.trans hx2⟩
  have b1' : decide (g0 < 0) = false := decide_eq_false b1
  by_cases b2 : 5 ≤ g0
  · have b2' : decide (5 ≤ g0) = true := decide_eq_true b2
    have Hal := Lib.hid hal
    have Hrd := Lib.hid hrd
    clear hal hrd
    clear hl hf hos hu8 ho ht hc0
    go_enter Try.func8, Try.ntmps8
    go_wp2_with (first | (go_at_call 32; refine (Hal.out _).mono ?_; rintro e w1 ⟨rfl, hx1⟩) | (go_at_call 33; refine (Hrd.out _ hx1).mono ?_; rintro e w2 ⟨rfl, hx2⟩))
    go_ret
    exact ⟨rfl, hx1.trans hx2⟩
  have b2' : decide (5 ≤ g0) = false := decide_eq_false b2
  by_cases b3 : want < 0
  · have b3' : decide (want < 0) = true := decide_eq_true b3
    have Hal := Lib.hid hal
    have Hrd := Lib.hid hrd
    clear hal hrd
    clear hl hf hos hu8 ho ht hc0
    go_enter Try.func8, Try.ntmps8
    go_wp2_with (first | (go_at_call 32; refine (Hal.out _).mono ?_; rintro e w1 ⟨rfl, hx1⟩) | (go_at_call 33; refine (Hrd.out _ hx1).mono ?_; rintro e w2 ⟨rfl, hx2⟩))
    go_ret
    exact ⟨rfl, hx1.trans hx2⟩
  have b3' : decide (want < 0) = false := decide_eq_false b3
  by_cases b4 : 5 ≤ want
  · have b4' : decide (5 ≤ want) = true := decide_eq_true b4
    have Hal := Lib.hid hal
    have Hrd := Lib.hid hrd
    clear hal hrd
    clear hl hf hos hu8 ho ht hc0
    go_enter Try.func8, Try.ntmps8
    go_wp2_with (first | (go_at_call 32; refine (Hal.out _).mono ?_; rintro e w1 ⟨rfl, hx1⟩) | (go_at_call 33; refine (Hrd.out _ hx1).mono ?_; rintro e w2 ⟨rfl, hx2⟩))
    go_ret
    exact ⟨rfl, hx1.trans hx2⟩
  have b4' : decide (5 ≤ want) = false := decide_eq_false b4
  by_cases b5 : u0 < 0
  · have b5' : decide (u0 < 0) = true := decide_eq_true b5
    have Hal := Lib.hid hal
    have Hrd := Lib.hid hrd
    clear hal hrd
    clear hl hf hos hu8 ho ht hc0
    go_enter Try.func8, Try.ntmps8
    go_wp2_with (first | (go_at_call 32; refine (Hal.out _).mono ?_; rintro e w1 ⟨rfl, hx1⟩) | (go_at_call 33; refine (Hrd.out _ hx1).mono ?_; rintro e w2 ⟨rfl, hx2⟩))
    go_ret
    exact ⟨rfl, hx1.trans hx2⟩
  have b5' : decide (u0 < 0) = false := decide_eq_false b5
  by_cases b6 : 1000000 < u0
  · have b6' : decide (1000000 < u0) = true := decide_eq_true b6
    have Hal := Lib.hid hal
    have Hrd := Lib.hid hrd
    clear hal hrd
    clear hl hf hos hu8 ho ht hc0
    go_enter Try.func8, Try.ntmps8
    go_wp2_with (first | (go_at_call 32; refine (Hal.out _).mono ?_; rintro e w1 ⟨rfl, hx1⟩) | (go_at_call 33; refine (Hrd.out _ hx1).mono ?_; rintro e w2 ⟨rfl, hx2⟩))
    go_ret
    exact ⟨rfl, hx1.trans hx2⟩
  have b6' : decide (1000000 < u0) = false := decide_eq_false b6
  have hao : argsOk g0 u0 want = true := by simp only [argsOk, inB, Bool.and_eq_true, decide_eq_true_eq]; omega
  have hh0 : HandOk 0 ⟨g0, u0⟩ := ⟨⟨g0.toNat, by simp only; omega, by omega⟩, by simp only; omega, by simp; omega⟩
  have hbo : bestOf l fs g0 u0 want = chosen (bestTo l fs ⟨g0, u0⟩ want ((l.length + 1) ^ fs.length)) := by unfold bestOf; rw [if_neg (by simp [hc0]), if_neg (by simp [hao])]
  have hspec := best_spec (l := l) (fs := fs) (h0 := ⟨g0, u0⟩) (want := want) ho ht hh0
  obtain ⟨F, hF⟩ : ∃ F, bestTo l fs ⟨g0, u0⟩ want ((l.length + 1) ^ fs.length) = F := ⟨_, rfl⟩
  rw [hF] at hbo hspec
  have hlen := trip_len ht
  have hfl := hf.1
  have hnl := hl.1
  have hol := offers_len ho
  have hn10 : n ≤ 10 := by omega
  have hfn5 : fn ≤ 5 := by omega
  have hfn1 : 1 ≤ fn := by omega
  have hcl := other_len os n fn
  have hcok := other_ok (n := n) (m := fn) hu8
  have hcget := fun k (hk : k < fn) => other_get os n hk
  have hch : ChainOk l fs (otherChain os n fn) := ⟨by rw [hcl, hfl], fun k hk => by rw [hnl]; exact hcok k hk⟩
  have hmk := fun W => mk24 fn (by omega) W
  have hgone := fun ca cn cc ch W (hW : Ext w W) (hi : IntsAt .i64 W ca cn ch) (h1 : fn ≤ cn) (h2 : cn ≤ 1000000) (h3 : ∀ k ∈ ch, -1 ≤ k ∧ k < (n : Int)) =>
    gone_any a n cap l fa fn fc fs ca cn cc ch g0 u0 W (hl.ext hW) (hf.ext hW) hi ho ht h1 h2 h3 (by omega) (by omega) (by omega) (by omega)
  have hbest := fun W (hW : Ext w W) => mBest_any a n cap l fa fn fc fs g0 u0 want W (hl.ext hW) (hf.ext hW) (by omega) (by omega)
  rw [hbo] at hbest
  have hosl := hos.1
  have Hal := Lib.hid hal
  have Hrd := Lib.hid hrd
  have Hspec := Lib.hid hspec
  have Hgone := Lib.hid hgone
  have Hbest := Lib.hid hbest
  have Hl := Lib.hid hl
  have Hf := Lib.hid hf
  have Hos := Lib.hid hos
  have Hu8 := Lib.hid hu8
  have Hcl := Lib.hid hcl
  have Hcok := Lib.hid hcok
  have Hcget := Lib.hid hcget
  have Hch := Lib.hid hch
  have Hosl := Lib.hid hosl
  have Hfl := Lib.hid hfl
  have Hnl := Lib.hid hnl
  clear hal hrd hspec hgone hbest hl hf hos hu8 hcl hcok hcget hch hosl hfl hnl
  clear ho ht hc0 hbo hF hlen hol
  go_enter Try.func8, Try.ntmps8
  go_wp2_with (first | (go_at_call 32; refine (Hal.out _).mono ?_; rintro e w1 ⟨rfl, hx1⟩) | (go_at_call 33; refine (Hrd.out _ hx1).mono ?_; rintro e w2 ⟨rfl, hx2⟩))
  have hxw2 := hx1.trans hx2
  have hx3 : Ext w (w2.alloc (.cells (Array.replicate fn (.int .i64 0)) 3)) := hxw2.alloc _
  have harr : ArrAt (w2.alloc (.cells (Array.replicate fn (.int .i64 0)) 3)) w2.heap.size (fillTo (otherChain os n fn) fn 0) := by
    have := arr_new w2 fn
    simpa [fillTo] using this
  have hcb : w.heap.size ≤ w2.heap.size := hxw2.size
  obtain ⟨cb, hcbe⟩ : ∃ cb, w2.heap.size = cb := ⟨_, rfl⟩
  rw [hcbe] at harr hcb
  rw [hcbe]
  generalize w2.alloc (.cells (Array.replicate fn (.int .i64 0)) 3) = w3 at *
  have Harr := Lib.hid harr
  have Hx3 := Lib.hid hx3
  clear harr hx3
  clear hx1 hx2 hxw2 hcbe hmk
  go_loopw [66] (fun i wr => ∃ k : Nat, k ≤ fn ∧ i = .int .i64 k ∧ Ext w wr ∧ ArrAt wr cb (fillTo (otherChain os n fn) fn k)) (fun i _ => fn - (intOf i).toNat)
  case atStart => exact ⟨0, Nat.zero_le _, rfl, Hx3.out, Harr.out⟩
  case round =>
    obtain ⟨k, hk, rfl, hx, har⟩ := hrel
    by_cases hlt : k < fn
    · have hlt' : decide ((k : Int) < (fn : Int)) = true := by simp; omega
      have c0 := har.cell (fillTo_get hlt Hcl.out)
      have cf := har.free k
      have hst := fillTo_step hlt (Hcget.out k hlt) (-1)
      have har1 := har.set k (-1)
      have hx1 := hx.setCell (p := ⟨cb, k, none⟩) hcb (.int .i64 (-1))
      by_cases hko : k < on
      · have hko' : decide ((k : Int) < (on : Int)) = true := by simp; omega
        obtain ⟨xb, xo, x, rfl, hxk, hxb, d0⟩ := (Hos.out.ext hx).get k hko
        obtain ⟨x1, x2⟩ := Hu8.out x (List.mem_of_getElem? hxk)
        have he : otherAt os n k = x % ((n : Int) + 1) - 1 := by unfold otherAt; rw [if_pos (by rw [Hosl.out]; exact hko)]; simp [List.getD, hxk]
        have hlt2 := block_lt_of_cell d0
        have hcb2 := block_lt_of_cell c0
        have hne : xb ≠ cb := by
          obtain ⟨yb, yo, y, hy, _, hyb, _⟩ := Hos.out.get k hko
          cases hy
          omega
        have har2 := har1.set k (x % ((n : Int) + 1) - 1)
        rw [he] at hst
        rw [← hst] at har2
        have hx2 := hx1.setCell (p := ⟨cb, k, none⟩) hcb (.int .i64 (x % ((n : Int) + 1) - 1))
        have hy1 : 0 ≤ x % ((n : Int) + 1) := Int.emod_nonneg _ (by omega)
        have hy2 : x % ((n : Int) + 1) < (n : Int) + 1 := Int.emod_lt_of_pos _ (by omega)
        have Har2 := Lib.hid har2
        have Hx2 := Lib.hid hx2
        clear har2 hx2
        clear hx har hst he har1 hx1
        go_wp2_with fail
        go_roundw
        case rel => exact ⟨k + 1, by omega, by go_num, Hx2.out, Har2.out⟩
        case measure => simp [intOf]; omega
      · have hko' : decide ((k : Int) < (on : Int)) = false := by simp; omega
        have he : otherAt os n k = -1 := by unfold otherAt; rw [if_neg (by rw [Hosl.out]; exact hko)]
        rw [he, List.set_set] at hst
        rw [← hst] at har1
        have Har1 := Lib.hid har1
        have Hx1 := Lib.hid hx1
        clear har1 hx1
        clear hx har hst he
        go_wp2_with fail
        go_roundw
        case rel => exact ⟨k + 1, by omega, by go_num, Hx1.out, Har1.out⟩
        case measure => simp [intOf]; omega
    · obtain rfl : k = fn := by omega
      have hlt' : decide ((k : Int) < (k : Int)) = false := by simp
      have hfill : fillTo (otherChain os n k) k k = otherChain os n k := by unfold fillTo; rw [List.take_of_length_le (by rw [Hcl.out]; omega)]; simp
      rw [hfill] at har
      have hci := har.ints
      rw [Hcl.out] at hci
      have hg1 := Hgone.out (some ⟨cb, 0, none⟩) k k (otherChain os n k) wr hx hci (Nat.le_refl _) (by omega) Hcok.out
      obtain ⟨C, hC⟩ : ∃ C, otherChain os n k = C := ⟨_, rfl⟩
      rw [hC] at hg1 har hci
      rw [hC] at Hch
      have hval : gains l fs ⟨g0, u0⟩ want C = match goneOf l fs C ⟨g0, u0⟩ with | some h => if h.good = want then some h.units else none | none => none := rfl
      have Hx := Lib.hid hx
      have Har := Lib.hid har
      have Hci := Lib.hid hci
      clear hx har hci
      clear Hcl Hcget Hcok Hos Hu8 Hosl hfill hC
      cases F with
      | none =>
        have hno := Hspec.out C Hch.out
        rw [hval] at hno
        cases hgo : goneOf l fs C ⟨g0, u0⟩ with
        | none =>
          rw [hgo] at hg1
          have Hg1 := Lib.hid hg1
          clear hg1
          clear hno hval
          go_wp2_with (first | (go_at_call 36; refine Hg1.out.mono ?_; rintro e w4 h4; obtain ⟨rfl, hx4⟩ := h4.none; have hxw4 := Hx.out.trans hx4) | (go_at_call 28; refine (Hbest.out _ hxw4).mono ?_; rintro e w5 ⟨ba, bn, bc, rfl, hx5, hbn, hbi⟩; obtain rfl : bn = 0 := by rw [← hbi.1]; rfl))
          go_ret
          exact ⟨rfl, hxw4.trans hx5⟩
        | some h =>
          obtain ⟨hg, hu⟩ := h
          rw [hgo] at hg1 hno
          have hgw : ¬(hg = want) := fun e => by simp [e] at hno
          have hgB : (hg == want) = false := by rw [beq_eq_false_iff_ne]; exact hgw
          have Hg1 := Lib.hid hg1
          clear hg1
          clear hno hval
          go_wp2_with (first | (go_at_call 36; refine Hg1.out.mono ?_; rintro e w4 h4; obtain ⟨rfl, hx4⟩ := h4.some; have hxw4 := Hx.out.trans hx4) | (go_at_call 28; refine (Hbest.out _ hxw4).mono ?_; rintro e w5 ⟨ba, bn, bc, rfl, hx5, hbn, hbi⟩; obtain rfl : bn = 0 := by rw [← hbi.1]; rfl))
          go_ret
          exact ⟨rfl, hxw4.trans hx5⟩
      | some x =>
        obtain ⟨B, V⟩ := x
        obtain ⟨hB1, hB2, hB3⟩ := Hspec.out
        simp only at hB1 hB2 hB3
        have hBk : B.length = k := by rw [hB1.1, Hfl.out]
        have hBr := fun (z : Int) (hz : z ∈ B) => hB1.2 z hz
        rw [Hnl.out] at hBr
        have hBg := gains_some hB2
        have hB3c := hB3 C Hch.out
        rw [hval, Hfl.out] at hB3c
        have hg2 := fun ba bc W (hW : Ext w W) (hi : IntsAt .i64 W ba k B) => Hgone.out ba k bc B W hW hi (Nat.le_refl _) (by omega) hBr
        rw [hBg] at hg2
        have hbest2 : ∀ W, Ext w W → Calls Try.prog 28 #[.slice a n cap, .slice fa k fc, .int .i64 g0, .int .i64 u0, .int .i64 want] W (BestPost ⟨B, V, 0⟩ W) := Hbest.out
        have hVV : (V != V) = false := by simp
        have hWW : (want != want) = false := by simp
        clear Hbest
        have Hbest := Lib.hid hbest2
        have HBk := Lib.hid hBk
        have HBr := Lib.hid hBr
        have Hg2 := Lib.hid hg2
        clear hBk hBr hg2
        clear hbest2
        clear hval hB1 hB2 hB3 hBg Hgone
        cases hgo : goneOf l fs C ⟨g0, u0⟩ with
        | none =>
          rw [hgo] at hg1
          have Hg1 := Lib.hid hg1
          clear hg1
          clear hB3c hgo
          go_wp2_with (go_at_call 36; refine Hg1.out.mono ?_; rintro e w4 h4; obtain ⟨rfl, hx4⟩ := h4.none; have hxw4 := Hx.out.trans hx4; have Hxw4 := Lib.hid hxw4; have Hx4 := Lib.hid hx4; clear hxw4 hx4)
          go_wp2_with (go_at_call 28; refine (Hbest.out _ Hxw4.out).mono ?_; rintro e w5 ⟨ba, bn, bc, rfl, hx5, hbn, hbi⟩; obtain rfl : bn = k := hbi.1.symm.trans HBk.out; have Hbi := Lib.hid hbi; have Hx5 := Lib.hid hx5; have Hxw5 := Lib.hid (Hxw4.out.trans hx5); clear hbi hx5)
          go_loopw [139] (fun i wr => ∃ j : Nat, j ≤ bn ∧ i = .int .i64 j ∧ wr = w5) (fun i _ => bn - (intOf i).toNat)
          case atStart => refine ⟨0, Nat.zero_le _, ?_, ?_⟩ <;> first | rfl | trivial
          case round =>
            obtain ⟨j, hj, rfl, rfl⟩ := hrel
            by_cases hjl : j < bn
            · have hjl' : decide ((j : Int) < (bn : Int)) = true := by simp; omega
              obtain ⟨zb, zo, z, rfl, hzk, hzb, z0⟩ := Hbi.out.get j hjl
              obtain ⟨z1, z2⟩ := HBr.out z (List.mem_of_getElem? hzk)
              have z1' : decide (z < -1) = false := by simp; omega
              have z2' : decide ((n : Int) ≤ z) = false := by simp; omega
              clear hzk
              go_wp2_with fail
              go_roundw
              case rel => exact ⟨j + 1, by omega, by go_num, trivial⟩
              case measure => simp [intOf]; omega
            · obtain rfl : j = bn := by omega
              have hjl' : decide ((j : Int) < (j : Int)) = false := by simp
              go_wp2_with (go_at_call 36; refine (Hg2.out ba bc _ Hxw5.out Hbi.out).mono ?_; rintro e w6 h6; obtain ⟨rfl, hx6⟩ := h6.some; have Hxw6 := Lib.hid (Hxw5.out.trans hx6); have Hx6 := Lib.hid hx6; clear hx6)
              go_ret
              exact ⟨rfl, Hxw6.out⟩
        | some h =>
          obtain ⟨hg, hu⟩ := h
          rw [hgo] at hg1 hB3c
          have Hg1 := Lib.hid hg1
          clear hg1
          by_cases hgw : hg = want
          · subst hgw
            obtain ⟨hle, hlex⟩ := hB3c hu (by simp)
            have hgB : (hg == hg) = true := by simp
            have hleB : decide (V < hu) = false := by simp; omega
            clear hB3c
            by_cases hVe : hu = V
            · have hVB : (hu == V) = true := by simp [hVe]
              have hlex2 := hlex hVe
              have Hlex2 := Lib.hid hlex2
              clear hlex2
              clear hlex hVe
              go_wp2_with (go_at_call 36; refine Hg1.out.mono ?_; rintro e w4 h4; obtain ⟨rfl, hx4⟩ := h4.some; have hxw4 := Hx.out.trans hx4; have Hxw4 := Lib.hid hxw4; have Hx4 := Lib.hid hx4; clear hxw4 hx4)
              go_wp2_with (go_at_call 28; refine (Hbest.out _ Hxw4.out).mono ?_; rintro e w5 ⟨ba, bn, bc, rfl, hx5, hbn, hbi⟩; obtain rfl : bn = k := hbi.1.symm.trans HBk.out; have Hbi := Lib.hid hbi; have Hx5 := Lib.hid hx5; have Hxw5 := Lib.hid (Hxw4.out.trans hx5); clear hbi hx5)
              go_loopw [139] (fun i wr => ∃ j : Nat, j ≤ bn ∧ i = .int .i64 j ∧ wr = w5) (fun i _ => bn - (intOf i).toNat)
              case atStart => refine ⟨0, Nat.zero_le _, ?_, ?_⟩ <;> first | rfl | trivial
              case round =>
                obtain ⟨j, hj, rfl, rfl⟩ := hrel
                by_cases hjl : j < bn
                · have hjl' : decide ((j : Int) < (bn : Int)) = true := by simp; omega
                  obtain ⟨zb, zo, z, rfl, hzk, hzb, z0⟩ := Hbi.out.get j hjl
                  obtain ⟨z1, z2⟩ := HBr.out z (List.mem_of_getElem? hzk)
                  have z1' : decide (z < -1) = false := by simp; omega
                  have z2' : decide ((n : Int) ≤ z) = false := by simp; omega
                  clear hzk
                  go_wp2_with fail
                  go_roundw
                  case rel => exact ⟨j + 1, by omega, by go_num, trivial⟩
                  case measure => simp [intOf]; omega
                · obtain rfl : j = bn := by omega
                  have hjl' : decide ((j : Int) < (j : Int)) = false := by simp
                  go_wp2_with (go_at_call 36; refine (Hg2.out ba bc _ Hxw5.out Hbi.out).mono ?_; rintro e w6 h6; obtain ⟨rfl, hx6⟩ := h6.some; have Hxw6 := Lib.hid (Hxw5.out.trans hx6); have Hx6 := Lib.hid hx6; clear hx6)
                  go_loopw [190] (fun i wr => ∃ q : Nat, q ≤ j ∧ i = .int .i64 q ∧ Ext w6 wr ∧ ∀ p, p < q → C.getD p 0 = B.getD p 0) (fun i _ => j - (intOf i).toNat)
                  case atStart => exact ⟨0, Nat.zero_le _, rfl, Ext.refl _, fun p hp => by omega⟩
                  case round =>
                    obtain ⟨q, hq, rfl, hxr, heq⟩ := hrel
                    have Heq := Lib.hid heq
                    clear heq
                    by_cases hql : q < j
                    · have hql' : decide ((q : Int) < (j : Int)) = true := by simp; omega
                      obtain ⟨b1, o1, x1, he1, hk1, hl1, c1⟩ := (Hci.out.ext (Hx4.out.trans (Hx5.out.trans (Hx6.out.trans hxr)))).get q hql
                      cases he1
                      obtain ⟨b2, o2, x2, rfl, hk2, hl2, c2⟩ := (Hbi.out.ext (Hx6.out.trans hxr)).get q hql
                      have g1 : C.getD q 0 = x1 := by simp [List.getD, hk1]
                      have g2 : B.getD q 0 = x2 := by have hk2' : B[q]? = some x2 := hk2; simp [List.getD, hk2']
                      simp only [Nat.zero_add] at c1
                      have Hxr := Lib.hid hxr
                      have G1 := Lib.hid g1
                      have G2 := Lib.hid g2
                      clear hxr g1 g2
                      clear hk1 hk2
                      by_cases hxx : x1 = x2
                      · subst hxx
                        have hxB : (x1 != x1) = false := by simp
                        go_wp2_with fail
                        refine wp_region_ext (by kernel_rfl) (by kernel_rfl) (fun f hf hs => ?_)
                        have f0 := fun q => (hf q).cell c1
                        have f1 := fun q => (hf q).cell c2
                        clear hf hs
                        repeat (go_big_quiet_step (fail))
                        refine wpQuiet_nil ?_
                        intro W7 hW7
                        clear f0 f1
                        go_wp2_with fail
                        go_roundw
                        case rel => exact ⟨q + 1, by omega, by go_num, Hxr.out.trans hW7, fun p hp => by
                          rcases Nat.lt_succ_iff_lt_or_eq.1 hp with h | h
                          · exact Heq.out p h
                          · rw [h, G1.out, G2.out]⟩
                        case measure => simp [intOf]; omega
                      · have hxB : (x1 != x2) = true := by rw [bne_iff_ne]; exact hxx
                        have hlt3 : x2 < x1 := by
                          rcases Hlex2.out with e | ⟨i0, i1, i2, i3⟩
                          · exact absurd (by rw [← G1.out, ← G2.out, e]) hxx
                          · rcases Nat.lt_trichotomy i0 q with h | h | h
                            · have := Heq.out i0 h; omega
                            · rw [h, G1.out, G2.out] at i3; exact i3
                            · have := i2 q h; rw [G1.out, G2.out] at this; exact absurd this.symm hxx
                        have hlt3B : decide (x2 < x1) = true := decide_eq_true hlt3
                        go_wp2_with fail
                        refine wp_region_ext (by kernel_rfl) (by kernel_rfl) (fun f hf hs => ?_)
                        have f0 := fun q => (hf q).cell c1
                        have f1 := fun q => (hf q).cell c2
                        clear hf hs
                        repeat (go_big_quiet_step (fail))
                        refine wpQuiet_nil ?_
                        intro W7 hW7
                        clear f0 f1
                        have d1 := hW7.cell c1
                        have d2 := hW7.cell c2
                        go_wp2_with fail
                        clear c1 c2
                        refine wp_region_ext (by kernel_rfl) (by kernel_rfl) (fun f hf hs => ?_)
                        have f0 := fun q => (hf q).cell d1
                        have f1 := fun q => (hf q).cell d2
                        clear hf hs
                        repeat (go_big_quiet_step (fail))
                        refine wpQuiet_nil ?_
                        intro W8 hW8
                        clear f0 f1
                        go_wp2_with fail
                        go_ret
                        exact ⟨rfl, Hxw6.out.trans (Hxr.out.trans (hW7.trans hW8))⟩
                    · obtain rfl : q = j := by omega
                      have hql' : decide ((q : Int) < (q : Int)) = false := by simp
                      have Hxr := Lib.hid hxr
                      clear hxr
                      go_wp2_with fail
                      go_ret
                      exact ⟨rfl, Hxw6.out.trans Hxr.out⟩
            · have hVB : (hu == V) = false := by rw [beq_eq_false_iff_ne]; exact hVe
              clear hlex hVe
              go_wp2_with (go_at_call 36; refine Hg1.out.mono ?_; rintro e w4 h4; obtain ⟨rfl, hx4⟩ := h4.some; have hxw4 := Hx.out.trans hx4; have Hxw4 := Lib.hid hxw4; have Hx4 := Lib.hid hx4; clear hxw4 hx4)
              go_wp2_with (go_at_call 28; refine (Hbest.out _ Hxw4.out).mono ?_; rintro e w5 ⟨ba, bn, bc, rfl, hx5, hbn, hbi⟩; obtain rfl : bn = k := hbi.1.symm.trans HBk.out; have Hbi := Lib.hid hbi; have Hx5 := Lib.hid hx5; have Hxw5 := Lib.hid (Hxw4.out.trans hx5); clear hbi hx5)
              go_loopw [139] (fun i wr => ∃ j : Nat, j ≤ bn ∧ i = .int .i64 j ∧ wr = w5) (fun i _ => bn - (intOf i).toNat)
              case atStart => refine ⟨0, Nat.zero_le _, ?_, ?_⟩ <;> first | rfl | trivial
              case round =>
                obtain ⟨j, hj, rfl, rfl⟩ := hrel
                by_cases hjl : j < bn
                · have hjl' : decide ((j : Int) < (bn : Int)) = true := by simp; omega
                  obtain ⟨zb, zo, z, rfl, hzk, hzb, z0⟩ := Hbi.out.get j hjl
                  obtain ⟨z1, z2⟩ := HBr.out z (List.mem_of_getElem? hzk)
                  have z1' : decide (z < -1) = false := by simp; omega
                  have z2' : decide ((n : Int) ≤ z) = false := by simp; omega
                  clear hzk
                  go_wp2_with fail
                  go_roundw
                  case rel => exact ⟨j + 1, by omega, by go_num, trivial⟩
                  case measure => simp [intOf]; omega
                · obtain rfl : j = bn := by omega
                  have hjl' : decide ((j : Int) < (j : Int)) = false := by simp
                  go_wp2_with (go_at_call 36; refine (Hg2.out ba bc _ Hxw5.out Hbi.out).mono ?_; rintro e w6 h6; obtain ⟨rfl, hx6⟩ := h6.some; have Hxw6 := Lib.hid (Hxw5.out.trans hx6); have Hx6 := Lib.hid hx6; clear hx6)
                  go_ret
                  exact ⟨rfl, Hxw6.out⟩
          · have hgB : (hg == want) = false := by rw [beq_eq_false_iff_ne]; exact hgw
            clear hB3c
            go_wp2_with (go_at_call 36; refine Hg1.out.mono ?_; rintro e w4 h4; obtain ⟨rfl, hx4⟩ := h4.some; have hxw4 := Hx.out.trans hx4; have Hxw4 := Lib.hid hxw4; have Hx4 := Lib.hid hx4; clear hxw4 hx4)
            go_wp2_with (go_at_call 28; refine (Hbest.out _ Hxw4.out).mono ?_; rintro e w5 ⟨ba, bn, bc, rfl, hx5, hbn, hbi⟩; obtain rfl : bn = k := hbi.1.symm.trans HBk.out; have Hbi := Lib.hid hbi; have Hx5 := Lib.hid hx5; have Hxw5 := Lib.hid (Hxw4.out.trans hx5); clear hbi hx5)
            go_loopw [139] (fun i wr => ∃ j : Nat, j ≤ bn ∧ i = .int .i64 j ∧ wr = w5) (fun i _ => bn - (intOf i).toNat)
            case atStart => refine ⟨0, Nat.zero_le _, ?_, ?_⟩ <;> first | rfl | trivial
            case round =>
              obtain ⟨j, hj, rfl, rfl⟩ := hrel
              by_cases hjl : j < bn
              · have hjl' : decide ((j : Int) < (bn : Int)) = true := by simp; omega
                obtain ⟨zb, zo, z, rfl, hzk, hzb, z0⟩ := Hbi.out.get j hjl
                obtain ⟨z1, z2⟩ := HBr.out z (List.mem_of_getElem? hzk)
                have z1' : decide (z < -1) = false := by simp; omega
                have z2' : decide ((n : Int) ≤ z) = false := by simp; omega
                clear hzk
                go_wp2_with fail
                go_roundw
                case rel => exact ⟨j + 1, by omega, by go_num, trivial⟩
                case measure => simp [intOf]; omega
              · obtain rfl : j = bn := by omega
                have hjl' : decide ((j : Int) < (j : Int)) = false := by simp
                go_wp2_with (go_at_call 36; refine (Hg2.out ba bc _ Hxw5.out Hbi.out).mono ?_; rintro e w6 h6; obtain ⟨rfl, hx6⟩ := h6.some; have Hxw6 := Lib.hid (Hxw5.out.trans hx6); have Hx6 := Lib.hid hx6; clear hx6)
                go_ret
                exact ⟨rfl, Hxw6.out⟩
end Go.Proofs.Ytkbhmajcddmhnaa
