/- The reference: known and Near. -/
import Derived.Test.YtacdndehlkaaeaaVNears
import Derived.BigQuiet
namespace Go.Proofs.Ytacdndehlkaaeaa
open Go.RowKit
set_option linter.unusedVariables false
set_option linter.unusedSimpArgs false
theorem around_in (x y far : Int) (c : Corner) : ((around x y far).all fun h => inH h c) = !(decide ((x + far) * c.d < c.x) || decide (c.x < (x - far) * c.d) || decide ((y + far) * c.d < c.y) || decide (c.y < (y - far) * c.d)) := by
  rw [Bool.eq_iff_iff]
  simp only [around, box, List.all_cons, List.all_nil, Bool.and_true, inH, Bool.and_eq_true, decide_eq_true_eq, Bool.not_eq_true', Bool.or_eq_false_iff, decide_eq_false_iff_not]
  have e1 := Int.neg_mul (x - far) c.d
  have e2 := Int.neg_mul (y - far) c.d
  omega
theorem known_no {l : List Half} {x y far : Int} (h : someB (l ++ around x y far) = false) : knownOf l x y far = 0 := by
  unfold knownOf
  rw [if_pos h]
theorem known_open {l : List Half} {x y far : Int} (h : someB (l ++ around x y far) = true) {c : Corner} (hc : c ∈ cornersOf l) (hn : ((around x y far).all fun h => inH h c) = false) : knownOf l x y far = 1 := by
  unfold knownOf
  rw [if_neg (by rw [h]; simp), if_neg]
  intro e
  rw [List.all_eq_true.1 e c hc] at hn
  cases hn
theorem known_yes {l : List Half} {x y far : Int} {n : Nat} (h : someB (l ++ around x y far) = true) (hn : (cornersOf l).length = n) (hc : ∀ q c, q < n → (cornersOf l)[q]? = some c → ((around x y far).all fun h => inH h c) = true) : knownOf l x y far = 2 := by
  unfold knownOf
  rw [if_neg (by rw [h]; simp), if_pos]
  rw [List.all_eq_true]
  intro c hc'
  obtain ⟨j, hj, rfl⟩ := List.mem_iff_getElem.1 hc'
  exact hc j _ (by omega) (List.getElem?_eq_getElem hj)
set_option maxRecDepth 100000 in
set_option maxHeartbeats 8000000 in
theorem known_any (a : Option Addr) (len cap : Nat) (l : List Half) (x y far : Int) (w : World) (hl : HalvesAt w a len l) (hlen : len ≤ 100) (hh : ∀ h ∈ l, HalfIn h) (hn : NearOk x y far) :
    Calls Try.prog 65 #[.slice a len cap, .int .i64 x, .int .i64 y, .int .i64 far] w fun e w' => e = .returned (.int .u8 (knownOf l x y far)) ∧ Ext w w' := by
  have hnr := fun W => nearRef_any x y far W hn
  have hal : (around x y far).length = 4 := rfl
  have hll := hl.1
  have hnh := hn.halves
  have hjo := fun (W : World) ma mc (hW : Ext w W) (hM : HalvesAt W ma 4 (around x y far)) => joined_any a len cap l ma 4 mc (around x y far) W (hl.ext hW) hM (by omega) (by omega)
  have hrc := fun (W : World) (b : Option Addr) n c (hM : HalvesAt W b n (l ++ around x y far)) (h : n ≤ 1000) => rcorners_any b n c (l ++ around x y far) W hM (fun h hh' => by
      rcases List.mem_append.1 hh' with h' | h'
      · exact hh h h'
      · exact hnh h h') h
  have hrc2 := fun (W : World) (hW : Ext w W) => rcorners_any a len cap l W (hl.ext hW) hh (by omega)
  have hcin : ∀ c ∈ cornersOf l, CornerIn c ∧ 0 < c.d := fun c hc => by
    obtain ⟨hin, p, hp, q, hq, _, rfl⟩ := corner_in hc
    exact ⟨meet_bd (hh p hp) (hh q hq), hin.1⟩
  have hno := known_no (l := l) (x := x) (y := y) (far := far)
  have hop := fun h c => known_open (l := l) (x := x) (y := y) (far := far) (c := c) h
  have hye := fun n h => known_yes (l := l) (x := x) (y := y) (far := far) (n := n) h
  have hin := around_in x y far
  have hclen := corners_len l
  have hclen2 : l.length * l.length ≤ 100 * 100 := Nat.mul_le_mul (by omega) (by omega)
  unfold OwnHalves at hnr hjo
  rw [hal] at hnr
  obtain ⟨N, hN⟩ : ∃ N, (l ++ around x y far).length = N := ⟨_, rfl⟩
  have hNle : N ≤ 1000 := by
    rw [← hN, List.length_append, hal]
    omega
  simp only [hN] at hjo
  unfold CornersPost at hrc hrc2
  obtain ⟨K, hK⟩ : ∃ K, (cornersOf (l ++ around x y far)).length = K := ⟨_, rfl⟩
  rw [hK] at hrc
  have hemp := empty_of_some hK
  obtain ⟨M, hM⟩ : ∃ M, (cornersOf l).length = M := ⟨_, rfl⟩
  rw [hM] at hrc2 hclen
  have hye := fun h => hye M h hM
  generalize knownOf l x y far = R at *
  generalize around x y far = A at *
  obtain ⟨x0, x1, y0, y1, r0, r1⟩ := hn
  cases hs : someB (l ++ A) with
  | false =>
    have hR := hno hs
    have hKB := hemp false hs
    rw [Bool.not_false] at hKB
    have Hnr := Lib.hid hnr
    have Hjo := Lib.hid hjo
    have Hrc := Lib.hid hrc
    have HR := Lib.hid hR
    have HN := Lib.hid hN
    have HK := Lib.hid hK
    clear hnr hjo hrc hR hN hK
    clear hl hh hnh hrc2 hcin hno hop hye hin hemp hs
    go_enter Try.func65, Try.ntmps65
    go_wp2_with (first | (go_at_call 80; refine (Hnr.out _).mono ?_; rintro e w1 ⟨na, nc, rfl, n1, n2, hx1, hA1, _⟩) | (go_at_call 50; refine (Hjo.out _ _ _ hx1 hA1).mono ?_; rintro e w2 ⟨ja, jc, rfl, j1, j2, hx2, hJ2, _⟩) | (go_at_call 55; refine (Hrc.out _ _ _ _ hJ2 hNle).mono ?_; rintro e w3 ⟨ka, kc, rfl, hx3, _⟩))
    go_ret
    exact ⟨ret_int HR.out.symm, hx1.trans (hx2.trans hx3)⟩
  | true =>
    have hKB := hemp true hs
    rw [Bool.not_true] at hKB
    replace hop := hop hs
    replace hye := hye hs
    have Hnr := Lib.hid hnr
    have Hjo := Lib.hid hjo
    have Hrc := Lib.hid hrc
    have HN := Lib.hid hN
    have HK := Lib.hid hK
    have Hrc2 := Lib.hid hrc2
    have Hcin := Lib.hid hcin
    have Hop := Lib.hid hop
    have Hye := Lib.hid hye
    have Hin := Lib.hid hin
    have HM := Lib.hid hM
    clear hnr hjo hrc hN hK hrc2 hcin hop hye hin hM
    clear hl hh hnh hno hemp hs
    go_enter Try.func65, Try.ntmps65
    go_upto_region 5 with (first | (go_at_call 80; refine (Hnr.out _).mono ?_; rintro e w1 ⟨na, nc, rfl, n1, n2, hx1, hA1, _⟩) | (go_at_call 50; refine (Hjo.out _ _ _ hx1 hA1).mono ?_; rintro e w2 ⟨ja, jc, rfl, j1, j2, hx2, hJ2, _⟩) | (go_at_call 55; refine (Hrc.out _ _ _ _ hJ2 hNle).mono ?_; rintro e w3 ⟨ka, kc, rfl, hx3, _⟩; have hx03 := hx1.trans (hx2.trans hx3); clear Hrc) | (go_at_call 55; refine (Hrc2.out _ hx03).mono ?_; rintro e w4 ⟨ca, cc, rfl, hx4, hC4⟩; have hx04 := hx03.trans hx4))
    have HC4 := Lib.hid hC4
    have Hx04 := Lib.hid hx04
    clear hC4 hx04
    clear hx1 hx2 hx3 hx4 hx03 hA1 hJ2
    go_loopw [10] (fun i wr => ∃ j : Nat, j ≤ M ∧ i = .int .i64 j ∧ Ext w4 wr ∧ ∀ q c, q < j → (cornersOf l)[q]? = some c → (A.all fun h => inH h c) = true) (fun i _ => M - (intOf i).toNat)
    case atStart => exact ⟨0, Nat.zero_le _, rfl, Ext.refl _, fun q c hq => by omega⟩
    case round =>
      obtain ⟨j, hj, rfl, hx, hall⟩ := hrel
      by_cases hlt : j < M
      · have hltB : decide ((j : Int) < (M : Int)) = true := by simp; omega
        obtain ⟨cb, co, c, rfl, hcj, hcb, c0, c1, c2⟩ := (HC4.out.ext hx).get j hlt
        have hcm := List.mem_of_getElem? hcj
        obtain ⟨⟨p0, p1, q0, q1, d0, d1⟩, dp⟩ := Hcin.out c hcm
        have hin := Hin.out c
        have hone := Hop.out c hcm
        have hnext : (A.all fun h => inH h c) = true → ∀ q d, q < j + 1 → (cornersOf l)[q]? = some d → (A.all fun h => inH h d) = true := fun h q d hq hd => by
          rcases Nat.lt_or_ge q j with h' | h'
          · exact hall q d h' hd
          · obtain rfl : q = j := by omega
            rw [hcj] at hd
            cases hd
            exact h
        obtain ⟨cx, cy, cd⟩ := c
        simp only at c0 c1 c2 p0 p1 q0 q1 d0 d1 dp hin
        have m1 := mul_le (A := 20000000) (B := 2000000) (show -20000000 ≤ x + far by omega) (show x + far ≤ 20000000 by omega) (show -2000000 ≤ cd by omega) d1
        have m2 := mul_le (A := 20000000) (B := 2000000) (show -20000000 ≤ x - far by omega) (show x - far ≤ 20000000 by omega) (show -2000000 ≤ cd by omega) d1
        have m3 := mul_le (A := 20000000) (B := 2000000) (show -20000000 ≤ y + far by omega) (show y + far ≤ 20000000 by omega) (show -2000000 ≤ cd by omega) d1
        have m4 := mul_le (A := 20000000) (B := 2000000) (show -20000000 ≤ y - far by omega) (show y - far ≤ 20000000 by omega) (show -2000000 ≤ cd by omega) d1
        simp only [Int.reduceMul, Int.reduceNeg] at m1 m2 m3 m4
        obtain ⟨T1, t1⟩ : ∃ P, (x + far) * cd = P := ⟨_, rfl⟩
        obtain ⟨T2, t2⟩ : ∃ P, (x - far) * cd = P := ⟨_, rfl⟩
        obtain ⟨T3, t3⟩ : ∃ P, (y + far) * cd = P := ⟨_, rfl⟩
        obtain ⟨T4, t4⟩ : ∃ P, (y - far) * cd = P := ⟨_, rfl⟩
        rw [t1, t2, t3, t4] at hin
        rw [t1] at m1
        rw [t2] at m2
        rw [t3] at m3
        rw [t4] at m4
        have Hin := Lib.hid hin
        have Hone := Lib.hid hone
        have Hnext := Lib.hid hnext
        have Hx := Lib.hid hx
        clear hin hone hnext hx
        clear hall hcj hcm
        cases b1 : decide (T1 < cx) with
        | true =>
          have hr := Hone.out (by rw [Hin.out]; simp [*])
          have Hr := Lib.hid hr
          clear hr
          go_upto_region 7 with fail
          refine wp_region_ext (by kernel_rfl) (by kernel_rfl) (fun f hf hs => ?_)
          simp only [List.append]
          have f0 := fun q => (hf q).cell c0
          have f1 := fun q => (hf q).cell c1
          have f2 := fun q => (hf q).cell c2
          clear hf hs
          repeat (go_big_quiet_step (fail))
          refine wpQuiet_nil ?_
          intro W8 hW8
          clear f0 f1 f2
          go_wp2_with fail
          go_ret
          exact ⟨ret_int Hr.out.symm, Hx04.out.trans (Hx.out.trans hW8)⟩
        | false =>
          cases b2 : decide (cx < T2) with
          | true =>
            have hr := Hone.out (by rw [Hin.out]; simp [*])
            have Hr := Lib.hid hr
            clear hr
            go_upto_region 7 with fail
            refine wp_region_ext (by kernel_rfl) (by kernel_rfl) (fun f hf hs => ?_)
            simp only [List.append]
            have f0 := fun q => (hf q).cell c0
            have f1 := fun q => (hf q).cell c1
            have f2 := fun q => (hf q).cell c2
            clear hf hs
            repeat (go_big_quiet_step (fail))
            refine wpQuiet_nil ?_
            intro W8 hW8
            clear f0 f1 f2
            go_wp2_with fail
            go_ret
            exact ⟨ret_int Hr.out.symm, Hx04.out.trans (Hx.out.trans hW8)⟩
          | false =>
            cases b3 : decide (T3 < cy) with
            | true =>
              have hr := Hone.out (by rw [Hin.out]; simp [*])
              have Hr := Lib.hid hr
              clear hr
              go_upto_region 7 with fail
              refine wp_region_ext (by kernel_rfl) (by kernel_rfl) (fun f hf hs => ?_)
              simp only [List.append]
              have f0 := fun q => (hf q).cell c0
              have f1 := fun q => (hf q).cell c1
              have f2 := fun q => (hf q).cell c2
              clear hf hs
              repeat (go_big_quiet_step (fail))
              refine wpQuiet_nil ?_
              intro W8 hW8
              clear f0 f1 f2
              go_wp2_with fail
              go_ret
              exact ⟨ret_int Hr.out.symm, Hx04.out.trans (Hx.out.trans hW8)⟩
            | false =>
              cases b4 : decide (cy < T4) with
              | true =>
                have hr := Hone.out (by rw [Hin.out]; simp [*])
                have Hr := Lib.hid hr
                clear hr
                go_upto_region 7 with fail
                refine wp_region_ext (by kernel_rfl) (by kernel_rfl) (fun f hf hs => ?_)
                simp only [List.append]
                have f0 := fun q => (hf q).cell c0
                have f1 := fun q => (hf q).cell c1
                have f2 := fun q => (hf q).cell c2
                clear hf hs
                repeat (go_big_quiet_step (fail))
                refine wpQuiet_nil ?_
                intro W8 hW8
                clear f0 f1 f2
                go_wp2_with fail
                go_ret
                exact ⟨ret_int Hr.out.symm, Hx04.out.trans (Hx.out.trans hW8)⟩
              | false =>
                have hr := Hnext.out (by rw [Hin.out, b1, b2, b3, b4]; rfl)
                have Hr := Lib.hid hr
                clear hr
                go_upto_region 7 with fail
                refine wp_region_ext (by kernel_rfl) (by kernel_rfl) (fun f hf hs => ?_)
                simp only [List.append]
                have f0 := fun q => (hf q).cell c0
                have f1 := fun q => (hf q).cell c1
                have f2 := fun q => (hf q).cell c2
                clear hf hs
                repeat (go_big_quiet_step (fail))
                refine wpQuiet_nil ?_
                intro W8 hW8
                clear f0 f1 f2
                go_wp2_with fail
                go_roundw
                case rel => exact ⟨j + 1, by omega, by go_num, Hx.out.trans hW8, Hr.out⟩
                case measure => simp [intOf]; omega
      · have hltB : decide ((j : Int) < (M : Int)) = false := by simp; omega
        obtain rfl : j = M := by omega
        have hr := Hye.out hall
        have Hr := Lib.hid hr
        have Hx := Lib.hid hx
        clear hr hx
        clear hall
        go_wp2_with fail
        go_ret
        exact ⟨ret_int Hr.out.symm, Hx04.out.trans Hx.out⟩
set_option maxRecDepth 100000 in
theorem rnear_any (a : Option Addr) (len cap : Nat) (l : List Half) (x y far : Int) (w : World) (hl : HalvesAt w a len l) (hlen : len ≤ 100000) : Calls Try.prog 27 #[.agg #[.slice a len cap], .int .i64 x, .int .i64 y, .int .i64 far] w (NearPost l x y far w) := by
  have has := fun W (hW : Ext w W) => rasked_any a len cap l x y far W (hl.ext hW) hlen
  obtain ⟨K, hK⟩ : ∃ K, askedOf l x y far = K := ⟨_, rfl⟩
  have herr := fun hk => near_err hK hk w
  obtain ⟨Q, hQ⟩ : ∃ Q, NearPost l x y far w = Q := ⟨_, rfl⟩
  rw [hQ]
  simp only [hQ] at herr
  have hll := hl.1
  obtain ⟨W0, hW0⟩ : ∃ W0, w.alloc (.cells #[.slice a len cap] 24) = W0 := ⟨_, rfl⟩
  have hx0 : Ext w W0 := by rw [← hW0]; exact (Ext.refl w).alloc _
  have hb0 : W0.heap[w.heap.size]? = some (.cells #[.slice a len cap] 24 (0, 0)) := by rw [← hW0]; exact heap_alloc_new w _
  obtain ⟨z0, _⟩ := (Ext.refl W0).box hb0
  by_cases hk : K = 0
  · subst hk
    obtain ⟨hA, hn, _⟩ := asked_zero hK
    have hlen := hA.len
    have hne := fun W (hW : Ext w W) => known_any a len cap l x y far W (hl.ext hW) (by omega) hA.each hn
    have his := fun k (h : knownOf l x y far = k) => near_is hK h w
    simp only [hQ] at his
    clear hQ
    rw [hK] at has
    generalize knownOf l x y far = k at *
    have Has := Lib.hid has
    have Hx0 := Lib.hid hx0
    have Hb0 := Lib.hid hb0
    have Hne := Lib.hid hne
    have His := Lib.hid his
    clear has hx0 hb0 hne his
    clear hl herr hA
    go_enter Try.func27, Try.ntmps27
    go_wp2_with (first | (go_at_call 64; refine (Has.out _ Hx0.out).mono ?_; rintro e w1 ⟨rfl, hx1⟩; obtain ⟨z1, _⟩ := hx1.box Hb0.out; clear z0 hW0) | (go_at_call 65; refine (Hne.out _ (Hx0.out.trans hx1)).mono ?_; rintro e w2 ⟨rfl, hx2⟩))
    exact His.out _ rfl _ (Hx0.out.trans (hx1.trans hx2))
  · have hkB : (K != 0) = true := by rw [bne_iff_ne]; exact hk
    rw [hK] at has
    have herr2 := herr hk
    clear hQ
    have Has := Lib.hid has
    have Hx0 := Lib.hid hx0
    have Hb0 := Lib.hid hb0
    have Herr2 := Lib.hid herr2
    clear has hx0 hb0 herr2
    clear hl herr
    go_enter Try.func27, Try.ntmps27
    go_wp2_with (go_at_call 64; refine (Has.out _ Hx0.out).mono ?_; rintro e w1 ⟨rfl, hx1⟩)
    exact Herr2.out _ (Hx0.out.trans hx1)
end Go.Proofs.Ytacdndehlkaaeaa
