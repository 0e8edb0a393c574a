/- Contract of the reference: Round. -/
import Derived.Test.YtkbhmajcddmhnaaVGr5
import Derived.Test.YtkbhmajcddmhnaaVRounds
import Derived.Test.YtkbhmajcddmhnaaVRefBest
namespace Go.Proofs.Ytkbhmajcddmhnaa
open Go.RowKit
set_option linter.unusedVariables false
set_option linter.unusedSimpArgs false

def WentPost (T : Went) (w : World) (e : Ending) (w' : World) : Prop :=
  ∃ a n c, e = .returned (.tuple #[.slice a n c, .int .i64 T.err]) ∧ Ext w w' ∧ n ≤ 1000 ∧ IntsAt .i64 w' a n T.list
theorem WentPost.bad {w w' : World} {e : Int} (h : Ext w w') : WentPost ⟨[], e⟩ w (.returned (.tuple #[.slice none 0 0, .int .i64 e])) w' :=
  ⟨none, 0, 0, rfl, h, by omega, ⟨rfl, fun h => by omega⟩⟩
theorem results_tmp2 {fn : Func} {t u : Tmp} (h : fn.results = #[.tmp t, .tmp u]) (tmps : Array Value) (P : Program) (w : World) :
    (results fn tmps).run P w = .ok (.tuple #[tmps.getD t undef, tmps.getD u undef]) w := by
  simp [results, h]
theorem pow10 {n m : Nat} (hn : n ≤ 10) (hm : m ≤ 5) : n ^ m ≤ 100000 :=
  Nat.le_trans (Nat.pow_le_pow_left hn m) (Nat.le_trans (Nat.pow_le_pow_right (by omega) hm) (by decide))

set_option maxRecDepth 100000 in
set_option maxHeartbeats 4000000 in
theorem refRound_any (a : Option Addr) (n cap : Nat) (l : List Offer) (p d : Int) (w : World)
    (hl : OffersAt w a n l) (hn : n ≤ 1000000) :
    Calls Try.prog 31 #[.slice a n cap, .int .i64 p, .int .i64 d] w (WentPost (wentOf l p d) w) := by
  have hck := refOffers_any a n cap l w hl hn
  cases ho : offersOk l with
  | false =>
    have hb : wentOf l p d = ⟨[], 60⟩ := by unfold wentOf; rw [if_pos ho]
    rw [hb]
    rw [ho] at hck
    have Hck := Lib.hid hck
    clear hck
    clear ho hb hl
    go_enter Try.func31, Try.ntmps31
    go_wp2_with (go_at_call 39; refine Hck.out.mono ?_; rintro e w1 ⟨rfl, hx1⟩)
    refine bodyPost_ret (results_tmp2 rfl _ _ _) rfl ?_
    exact WentPost.bad hx1
  | true =>
  rw [ho] at hck
  have hi1 := fun W => within_ext p 0 9999 W
  have hi2 := fun W => within_ext d 0 100000 W
  cases h1 : inB p 0 9999 with
  | false =>
    have hb : wentOf l p d = ⟨[], 2⟩ := by unfold wentOf; rw [if_neg (by simp [ho]), if_pos (by simp [h1])]
    rw [hb]
    rw [h1] at hi1
    have Hck := Lib.hid hck
    have Hi1 := Lib.hid hi1
    clear hck hi1
    clear ho hb hl h1 hi2
    go_enter Try.func31, Try.ntmps31
    go_wp2_with (go_at_call 39; refine Hck.out.mono ?_; rintro e w1 ⟨rfl, hx1⟩)
    refine (Hi1.out _).mono ?_
    rintro e w2 ⟨rfl, hx2⟩
    go_wp2_with fail
    refine bodyPost_ret (results_tmp2 rfl _ _ _) rfl ?_
    exact WentPost.bad (hx1.trans hx2)
  | true =>
  rw [h1] at hi1
  cases h2 : inB d 0 100000 with
  | false =>
    have hb : wentOf l p d = ⟨[], 2⟩ := by unfold wentOf; rw [if_neg (by simp [ho]), if_pos (by simp [h2])]
    rw [hb]
    rw [h2] at hi2
    have Hck := Lib.hid hck
    have Hi1 := Lib.hid hi1
    have Hi2 := Lib.hid hi2
    clear hck hi1 hi2
    clear ho hb hl h1 h2
    go_enter Try.func31, Try.ntmps31
    go_wp2_with (go_at_call 39; refine Hck.out.mono ?_; rintro e w1 ⟨rfl, hx1⟩)
    refine (Hi1.out _).mono ?_
    rintro e w2 ⟨rfl, hx2⟩
    go_wp2_with fail
    refine (Hi2.out _).mono ?_
    rintro e w3 ⟨rfl, hx3⟩
    go_wp2_with fail
    refine bodyPost_ret (results_tmp2 rfl _ _ _) rfl ?_
    exact WentPost.bad (hx1.trans (hx2.trans hx3))
  | true =>
  rw [h2] at hi2
  have hb : wentOf l p d = match roundFind l p d with | some ls => ⟨ls, 0⟩ | none => ⟨[], 6⟩ := by unfold wentOf; rw [if_neg (by simp [ho]), if_neg (by simp [h1, h2])]; cases roundFind l p d <;> rfl
  have hnl := hl.1
  have hol := offers_len ho
  have hn10 : n ≤ 10 := by omega
  have hno := fun h => find_none (l := l) (p := p) (d := d) h
  have hso := fun k w hk h hw h2 hx => find_some (l := l) (p := p) (d := d) (k := k) (w := w) hk h hw h2 hx
  rw [hnl] at hno hso
  have Hck := Lib.hid hck
  have Hi1 := Lib.hid hi1
  have Hi2 := Lib.hid hi2
  have Hl := Lib.hid hl
  have Ho := Lib.hid ho
  have Hnl := Lib.hid hnl
  have Hno := Lib.hid hno
  have Hso := Lib.hid hso
  have Hb := Lib.hid hb
  clear hck hi1 hi2 hl ho hnl hno hso hb
  clear h1 h2 hol
  go_enter Try.func31, Try.ntmps31
  go_wp2_with (go_at_call 39; refine Hck.out.mono ?_; rintro e w1 ⟨rfl, hx1⟩)
  refine (Hi1.out _).mono ?_
  rintro e w2 ⟨rfl, hx2⟩
  go_wp2_with fail
  refine (Hi2.out _).mono ?_
  rintro e w3 ⟨rfl, hx3⟩
  have hxw3 := hx1.trans (hx2.trans hx3)
  have Hxw3 := Lib.hid hxw3
  clear hxw3
  clear hx1 hx2 hx3
  go_wp2_with fail
  go_loopw [8, 9] (fun v i wr => ∃ k : Nat, k ≤ 5 ∧ i = .int .i64 ((k : Int) + 1) ∧ v = .int .i64 ((n ^ k : Nat) : Int) ∧ Ext w3 wr ∧ ∀ i', i' < k → ∀ c ∈ cands n (i' + 1), roundsB l p d c = false) (fun _ i _ => 6 - (intOf i).toNat)
  case atStart => exact ⟨0, Nat.zero_le _, rfl, rfl, Ext.refl _, fun i h => by omega⟩
  case round =>
    obtain ⟨k, hk, rfl, rfl, hx, hall⟩ := hrel
    have Hall := Lib.hid hall
    clear hall
    by_cases hlt : k < 5
    · have hlt' : decide ((k : Int) + 1 ≤ 5) = true := by simp; omega
      have hp := pow10 (m := k) hn10 (by omega)
      have hp1 := pow10 (m := k + 1) hn10 (by omega)
      have hps : ((n ^ k : Nat) : Int) * (n : Int) = ((n ^ (k + 1) : Nat) : Int) := by rw [Nat.pow_succ]; simp
      obtain ⟨P, hP⟩ : ∃ P : Nat, n ^ (k + 1) = P := ⟨_, rfl⟩
      obtain ⟨P0, hP0⟩ : ∃ P : Nat, n ^ k = P := ⟨_, rfl⟩
      rw [hP] at hp1 hps
      rw [hP0] at hp hps
      rw [hP0]
      have HP := Lib.hid hP
      have HP0 := Lib.hid hP0
      clear hP hP0
      go_wp2_with fail
      obtain ⟨w4, hw4⟩ : ∃ W : World, W = wr := ⟨_, rfl⟩
      subst hw4
      go_loopw [10] (fun i wi => ∃ q : Nat, q ≤ P ∧ i = .int .i64 q ∧ Ext w4 wi ∧ ∀ v, v < q → roundsB l p d (digs n (k + 1) v) = false) (fun i _ => P - (intOf i).toNat)
      case atStart => exact ⟨0, Nat.zero_le _, rfl, Ext.refl _, fun v h => by omega⟩
      case round =>
        obtain ⟨q, hq, rfl, hxq, hallq⟩ := hrel
        clear hps
        have Hallq := Lib.hid hallq
        clear hallq
        by_cases hql : q < P
        · have hql' : decide ((q : Int) < (P : Int)) = true := by simp; omega
          have hn1 : 1 ≤ n := by
            rcases Nat.eq_zero_or_pos n with h | h
            · have := HP.out; rw [h, Nat.zero_pow (by omega)] at this; omega
            · exact h
          have hmk := fun W => mk24 (k + 1) (by omega) W
          rw [show ((k + 1 : Nat) : Int) = (k : Int) + 1 by omega] at hmk
          go_wp2_with fail
          have harr : ArrAt (wr.alloc (.cells (Array.replicate (k + 1) (.int .i64 0)) 3)) wr.heap.size (fill n (k + 1) 0 q) := by rw [fill_zero]; exact arr_new _ _
          have hx5 : Ext wr (wr.alloc (.cells (Array.replicate (k + 1) (.int .i64 0)) 3)) := (Ext.refl _).alloc _
          generalize wr.alloc (.cells (Array.replicate (k + 1) (.int .i64 0)) 3) = W5 at *
          clear hmk
          obtain ⟨w6, hw6⟩ : ∃ W : World, W = wr := ⟨_, rfl⟩
          subst hw6
          go_loopw [12, 13] (fun r i wi => ∃ t : Nat, t ≤ k + 1 ∧ i = .int .i64 (((k + 1 - t : Nat) : Int) - 1) ∧ r = .int .i64 ((q / n ^ t : Nat) : Int) ∧ Ext w6 wi ∧ ArrAt wi w6.heap.size (fill n (k + 1) t q)) (fun _ i _ => (intOf i + 1).toNat)
          case atStart => refine ⟨0, Nat.zero_le _, ?_, by simp, hx5, harr⟩; simp
          case round =>
            obtain ⟨t, htk, rfl, rfl, hxi, harri⟩ := hrel
            clear hx5 harr
            obtain ⟨R, hR⟩ : ∃ R : Nat, q / n ^ t = R := ⟨_, rfl⟩
            have hRq : R ≤ q := by rw [← hR]; exact Nat.div_le_self _ _
            have hmod : ((R % n : Nat) : Int) = (R : Int) % (n : Int) := by simp
            have hdiv : ((R / n : Nat) : Int) = (R : Int) / (n : Int) := by simp
            have hy1 : 0 ≤ (R : Int) % (n : Int) := Int.emod_nonneg _ (by omega)
            have hy2 : (R : Int) % (n : Int) < (n : Int) := Int.emod_lt_of_pos _ (by omega)
            obtain ⟨hz1, hz2⟩ := div_bd (u := (R : Int)) (a := (n : Int)) (by omega) (by omega)
            obtain ⟨Y, hY⟩ : ∃ Y, (R : Int) % (n : Int) = Y := ⟨_, rfl⟩
            obtain ⟨Z, hZ⟩ : ∃ Z, (R : Int) / (n : Int) = Z := ⟨_, rfl⟩
            rw [hY] at hmod hy1 hy2
            rw [hZ] at hdiv hz1 hz2
            rw [hR]
            by_cases ht1 : t < k + 1
            · obtain ⟨j, hj⟩ : ∃ j : Nat, k + 1 - t = j + 1 := ⟨k - t, by omega⟩
              have hjk : j < k + 1 := by omega
              have hfs := fill_step (b := n) (w := q) ht1
              rw [hR, show k + 1 - (t + 1) = j by omega, hmod] at hfs
              have hRs : q / n ^ (t + 1) = R / n := by rw [Nat.pow_succ, ← Nat.div_div_eq_div_mul, hR]
              rw [hj, show ((j + 1 : Nat) : Int) - 1 = (j : Int) by omega]
              have hfl0 := fill_len (b := n) (w := q) htk
              obtain ⟨x, hxj⟩ : ∃ x, (fill n (k + 1) t q)[j]? = some x := ⟨_, List.getElem?_eq_getElem (by omega)⟩
              have c0 := harri.cell hxj
              have cf := harri.free j
              have hset := harri.set j Y
              rw [← hfs] at hset
              have hxs := hxi.setCell (p := ⟨w6.heap.size, j, none⟩) (Nat.le_refl _) (.int .i64 Y)
              have hj0 : decide ((0 : Int) ≤ (j : Int)) = true := by simp
              have Hset := Lib.hid hset
              have Hxs := Lib.hid hxs
              have HRs := Lib.hid hRs
              have Hdiv := Lib.hid hdiv
              clear hset hxs hRs hdiv
              clear hfs hmod hR hxj hfl0 hxi harri
              go_wp2_with fail
              go_roundw
              case rel => exact ⟨t + 1, by omega, by rw [show k + 1 - (t + 1) = j by omega], by rw [HRs.out, Hdiv.out], Hxs.out, Hset.out⟩
              case measure => first | (simp [intOf]; done) | (simp [intOf]; omega)
            · obtain rfl : t = k + 1 := by omega
              rw [fill_all] at harri
              have hti : (((k + 1 - (k + 1) : Nat) : Int) - 1) = -1 := by simp
              rw [hti]
              have hint := harri.ints
              rw [digs_len] at hint
              have hxw : Ext w wr := Hxw3.out.trans (hx.trans (hxq.trans hxi))
              have hrs := rounds_any a n cap l p d (some ⟨w6.heap.size, 0, none⟩) (k + 1) (k + 1) (digs n (k + 1) q) wr (Hl.out.ext hxw) hint Ho.out (by omega) (digs_bd (by omega) (k + 1) q)
              clear hmod hdiv hR hti hY hZ hy1 hy2 hz1 hz2
              obtain ⟨w7, hw7⟩ : ∃ W : World, W = wr := ⟨_, rfl⟩
              subst hw7
              have hqx := hxq.trans hxi
              cases hrb : roundsB l p d (digs n (k + 1) q) with
              | false =>
                rw [hrb] at hrs
                have Hrs := Lib.hid hrs
                have Hxw := Lib.hid hxw
                have Hqx := Lib.hid hqx
                have Hrb := Lib.hid hrb
                clear hrs hxw hqx hrb
                clear hint harri
                go_wp2_with (go_at_call 40; refine Hrs.out.mono ?_; rintro e w8 ⟨rfl, hx8⟩)
                go_roundw
                case rel => exact ⟨q + 1, by omega, by go_num, Hqx.out.trans hx8, fun v hv => by
                  rcases Nat.lt_or_ge v q with h | h
                  · exact Hallq.out v h
                  · obtain rfl : v = q := by omega
                    exact Hrb.out⟩
                case measure => simp [intOf]; omega
              | true =>
                rw [hrb] at hrs
                have hfin := Hso.out k q hlt Hall.out (by rw [HP.out]; exact hql) Hallq.out hrb
                have Hrs := Lib.hid hrs
                have Hxw := Lib.hid hxw
                have Hqx := Lib.hid hqx
                have Hrb := Lib.hid hrb
                have Hfin := Lib.hid hfin
                have Hint := Lib.hid hint
                clear hrs hxw hqx hrb hfin hint
                clear harri
                go_wp2_with (go_at_call 40; refine Hrs.out.mono ?_; rintro e w8 ⟨rfl, hx8⟩)
                refine bodyPost_ret (results_tmp2 rfl _ _ _) rfl ?_
                rw [Hb.out, Hfin.out]
                exact ⟨_, _, _, rfl, Hxw.out.trans hx8, by omega, Hint.out.ext hx8⟩
        · obtain rfl : q = P := by omega
          have hql' : decide ((q : Int) < (q : Int)) = false := by simp
          have hcn : ∀ c ∈ cands n (k + 1), roundsB l p d c = false := cands_none (fun v hv => Hallq.out v (by rw [← HP.out]; exact hv))
          have hxx := hx.trans hxq
          have Hcn := Lib.hid hcn
          have Hxx := Lib.hid hxx
          clear hcn hxx
          go_wp2_with fail
          go_roundw
          case rel => exact ⟨k + 1, by omega, by go_num, by rw [HP.out], Hxx.out, fun i' hi' => by
            rcases Nat.lt_or_ge i' k with h | h
            · exact Hall.out i' h
            · obtain rfl : i' = k := by omega
              exact Hcn.out⟩
          case measure => simp [intOf]; omega
    · obtain rfl : k = 5 := by omega
      have hlt' : decide (((5 : Nat) : Int) + 1 ≤ 5) = false := rfl
      have hfin := Hno.out Hall.out
      have Hfin := Lib.hid hfin
      clear hfin
      go_wp2_with fail
      refine bodyPost_ret (results_tmp2 rfl _ _ _) rfl ?_
      rw [Hb.out, Hfin.out]
      exact WentPost.bad (Hxw3.out.trans hx)
end Go.Proofs.Ytkbhmajcddmhnaa
