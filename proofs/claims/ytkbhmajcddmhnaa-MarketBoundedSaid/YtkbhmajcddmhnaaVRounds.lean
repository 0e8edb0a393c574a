/- Contract of the reference: Rounds. -/
import Derived.Test.YtkbhmajcddmhnaaVGr5
import Derived.Test.YtkbhmajcddmhnaaVRefRoad
namespace Go.Proofs.Ytkbhmajcddmhnaa
open Go.RowKit
set_option linter.unusedVariables false
set_option linter.unusedSimpArgs false

theorem openP_any (o : Offer) (p d : Int) (w : World) :
    Calls Try.prog 56 #[.agg #[.int .i64 o.place, .int .i64 o.give, .int .i64 o.get, .int .i64 o.units, .int .i64 o.lo, .int .i64 o.hi, .int .i64 o.from_, .int .i64 o.to], .int .i64 p, .int .i64 d] w fun e w' => e = .returned (.bool (openP o p d)) ∧ Ext w w' :=
  open_any o p d w
theorem pow50n {i : Nat} (h : i ≤ 5) : (50 : Int) ^ i ≤ 312500000 := pow50 h

set_option maxRecDepth 100000 in
set_option maxHeartbeats 4000000 in
theorem rounds_any (a : Option Addr) (n cap : Nat) (l : List Offer) (p d : Int) (ca : Option Addr) (m cc : Nat) (ls : List Int) (w : World)
    (hl : OffersAt w a n l) (hc : IntsAt .i64 w ca m ls) (ho : offersOk l = true) (hm : m ≤ 5) (hb : ∀ k ∈ ls, 0 ≤ k ∧ k < (n : Int)) :
    Calls Try.prog 40 #[.slice a n cap, .int .i64 p, .int .i64 d, .slice ca m cc] w fun e w' => e = .returned (.bool (roundsB l p d ls)) ∧ Ext w w' := by
  have hnl := hl.1
  have hml := hc.1
  have hol := offers_len ho
  have hn10 : n ≤ 10 := by omega
  rw [← hnl] at hb
  have hget := fun i (hi : i < m) => nth_get (ls := ls) hb (show i < ls.length by omega)
  have hpu : ∀ k, k ≤ m → 1 ≤ prodU l ls k ∧ prodU l ls k ≤ 50 ^ k := fun k hk => prodTo_bd fun i hi => by
    obtain ⟨j, _, _, o, hoj, e⟩ := hget i (by omega)
    obtain ⟨_, _, _, _, _, _, _, h1, h2, _⟩ := offer_bounds ho hoj
    rw [e]; omega
  have hpl : ∀ k, k ≤ m → 1 ≤ prodL l ls k ∧ prodL l ls k ≤ 50 ^ k := fun k hk => prodTo_bd fun i hi => by
    obtain ⟨j, _, _, o, hoj, e⟩ := hget i (by omega)
    obtain ⟨_, _, _, _, _, _, _, h1, h2, h3, h4, h5, _⟩ := offer_bounds ho hoj
    rw [e]; omega
  have hstop := fun (i : Nat) (hi : i < m) (h : roundAt l p d ls i = false) => rounds_stop (show i < ls.length by omega) h
  have hend := fun (h : ∀ i, i < m → roundAt l p d ls i = true) => rounds_end (l := l) (p := p) (d := d) (ls := ls) (fun i hi => h i (by omega))
  rw [hml] at hend
  have Hnl := Lib.hid hnl
  have Hml := Lib.hid hml
  have Hl := Lib.hid hl
  have Hc := Lib.hid hc
  have Ho := Lib.hid ho
  have Hget := Lib.hid hget
  have Hpu := Lib.hid hpu
  have Hpl := Lib.hid hpl
  have Hstop := Lib.hid hstop
  have Hend := Lib.hid hend
  clear hnl hml hl hc ho hget hpu hpl hstop hend
  clear hol hb
  go_enter Try.func40, Try.ntmps40
  go_wp2_with fail
  go_loopw [9, 10, 11] (fun vu vl i wr => ∃ k : Nat, k ≤ m ∧ i = .int .i64 k ∧ vu = .int .i64 (prodU l ls k) ∧ vl = .int .i64 (prodL l ls k) ∧ Ext w wr ∧ ∀ j, j < k → roundAt l p d ls j = true) (fun _ _ i _ => m - (intOf i).toNat)
  case atStart => exact ⟨0, Nat.zero_le _, rfl, rfl, rfl, Ext.refl _, fun j h => by omega⟩
  case round =>
    obtain ⟨k, hk, rfl, rfl, rfl, hx, hall⟩ := hrel
    have Hall := Lib.hid hall
    clear hall
    by_cases hlt : k < m
    · have hlt' : decide ((k : Int) < (m : Int)) = true := by simp; omega
      obtain ⟨q, hq⟩ : ∃ q, prevI m k = q := ⟨_, rfl⟩
      have hqm : q < m := by rw [← hq]; exact Nat.mod_lt _ (by omega)
      have hidx : ((k : Int) + (m : Int) - 1) % (m : Int) = (q : Int) := by
        rw [← hq]; unfold prevI
        rw [show (k : Int) + (m : Int) - 1 = ((k + m - 1 : Nat) : Int) by omega]
        simp
      obtain ⟨j, hj, hjn, o, hoj, hno⟩ := Hget.out k hlt
      obtain ⟨j2, hj2, hjn2, o2, hoj2, hno2⟩ := Hget.out q hqm
      rw [Hnl.out] at hjn hjn2
      obtain ⟨cb, co, c, rfl, hcc, hcb, e0⟩ := (Hc.out.ext hx).get k hlt
      obtain ⟨cb', co', c', e', hcc', _, e1⟩ := (Hc.out.ext hx).get q hqm
      cases e'
      rw [hj] at hcc
      cases hcc
      rw [hj2] at hcc'
      cases hcc'
      obtain ⟨ob, oo, o', rfl, hoj', hob, q0, q1, q2, q3, q4, q5, q6, q7⟩ := (Hl.out.ext hx).get j hjn
      obtain rfl : o = o' := by rw [hoj] at hoj'; cases hoj'; rfl
      obtain ⟨ob', oo', o2', e', hoj2', _, s0, s1, s2, s3, s4, s5, s6, s7⟩ := (Hl.out.ext hx).get j2 hjn2
      cases e'
      obtain rfl : o2 = o2' := by rw [hoj2] at hoj2'; cases hoj2'; rfl
      obtain ⟨_, _, hgi, hge, _, _, _, hu1, hu2, hl1, hl2, hl3, _⟩ := offer_bounds Ho.out hoj
      clear hgi hge
      have hopn := fun W => openP_any o p d W
      have hra : roundAt l p d ls k = (openP o p d && o.give == o2.get && (List.range k).all fun i => (nth l ls i).give != o.give) := by
        unfold roundAt
        rw [Hml.out, hq, hno, hno2]
      have hpus : prodU l ls (k + 1) = prodU l ls k * o.units := by unfold prodU; rw [prodTo, hno]
      have hpls : prodL l ls (k + 1) = prodL l ls k * o.lo := by unfold prodL; rw [prodTo, hno]
      obtain ⟨pu1, pu2⟩ := Hpu.out k hk
      obtain ⟨pq1, pq2⟩ := Hpl.out k hk
      have hp5 := pow50' (show k ≤ 4 by omega)
      obtain ⟨m1, m1'⟩ := mul_bd (show 0 ≤ prodU l ls k by omega) (show prodU l ls k ≤ 6250000 by omega) (show 0 ≤ o.units by omega) hu2
      obtain ⟨m2, m2'⟩ := mul_bd (show 0 ≤ prodL l ls k by omega) (show prodL l ls k ≤ 6250000 by omega) (show 0 ≤ o.lo by omega) (show o.lo ≤ 50 by omega)
      simp only [Int.reduceMul] at m1' m2'
      obtain ⟨P1, hP1⟩ : ∃ P1, prodU l ls k = P1 := ⟨_, rfl⟩
      obtain ⟨P2, hP2⟩ : ∃ P2, prodL l ls k = P2 := ⟨_, rfl⟩
      rw [hP1] at pu1 pu2 m1 m1' hpus
      rw [hP2] at pq1 pq2 m2 m2' hpls
      rw [hP1, hP2]
      obtain ⟨pl, og, oe, un, lo, hi, fr, to⟩ := o
      obtain ⟨pl2, og2, oe2, un2, lo2, hi2, fr2, to2⟩ := o2
      simp only at hra hpus hpls m1 m1' m2 m2' hopn q0 q1 q2 q3 q4 q5 q6 q7 s0 s1 s2 s3 s4 s5 s6 s7
      obtain ⟨Q1, hQ1⟩ : ∃ Q, P1 * un = Q := ⟨_, rfl⟩
      obtain ⟨Q2, hQ2⟩ : ∃ Q, P2 * lo = Q := ⟨_, rfl⟩
      rw [hQ1] at m1 m1' hpus
      rw [hQ2] at m2 m2' hpls
      clear hp5 pu2 pq2
      have Hx := Lib.hid hx
      have Hopn := Lib.hid hopn
      have Hra := Lib.hid hra
      have Hpus := Lib.hid hpus
      have Hpls := Lib.hid hpls
      have Hq := Lib.hid hq
      have Hj := Lib.hid hj
      have Hj2 := Lib.hid hj2
      have Hoj := Lib.hid hoj
      have Hoj2 := Lib.hid hoj2
      have Hno := Lib.hid hno
      have Hno2 := Lib.hid hno2
      have HP1 := Lib.hid hP1
      have HP2 := Lib.hid hP2
      have HQ1 := Lib.hid hQ1
      have HQ2 := Lib.hid hQ2
      clear hx hopn hra hpus hpls hq hj hj2 hoj hoj2 hno hno2 hP1 hP2 hQ1 hQ2
      clear hoj' hoj2' hcb
      go_wp2_with fail
      have hb1 : ((wr.alloc (.cells #[.int .i64 pl, .int .i64 og, .int .i64 oe, .int .i64 un, .int .i64 lo, .int .i64 hi, .int .i64 fr, .int .i64 to] 81)).alloc (.cells #[.int .i64 pl2, .int .i64 og2, .int .i64 oe2, .int .i64 un2, .int .i64 lo2, .int .i64 hi2, .int .i64 fr2, .int .i64 to2] 81)).heap[wr.heap.size]? = some (.cells #[.int .i64 pl, .int .i64 og, .int .i64 oe, .int .i64 un, .int .i64 lo, .int .i64 hi, .int .i64 fr, .int .i64 to] 81 (0, 0)) := ((Ext.refl _).alloc _).heap (heap_alloc_new wr (.cells #[.int .i64 pl, .int .i64 og, .int .i64 oe, .int .i64 un, .int .i64 lo, .int .i64 hi, .int .i64 fr, .int .i64 to] 81))
      have hb2 : ((wr.alloc (.cells #[.int .i64 pl, .int .i64 og, .int .i64 oe, .int .i64 un, .int .i64 lo, .int .i64 hi, .int .i64 fr, .int .i64 to] 81)).alloc (.cells #[.int .i64 pl2, .int .i64 og2, .int .i64 oe2, .int .i64 un2, .int .i64 lo2, .int .i64 hi2, .int .i64 fr2, .int .i64 to2] 81)).heap[wr.heap.size + 1]? = some (.cells #[.int .i64 pl2, .int .i64 og2, .int .i64 oe2, .int .i64 un2, .int .i64 lo2, .int .i64 hi2, .int .i64 fr2, .int .i64 to2] 81 (0, 0)) := by
        have := heap_alloc_new (wr.alloc (.cells #[.int .i64 pl, .int .i64 og, .int .i64 oe, .int .i64 un, .int .i64 lo, .int .i64 hi, .int .i64 fr, .int .i64 to] 81)) (.cells #[.int .i64 pl2, .int .i64 og2, .int .i64 oe2, .int .i64 un2, .int .i64 lo2, .int .i64 hi2, .int .i64 fr2, .int .i64 to2] 81)
        simpa using this
      have hx0 : Ext wr ((wr.alloc (.cells #[.int .i64 pl, .int .i64 og, .int .i64 oe, .int .i64 un, .int .i64 lo, .int .i64 hi, .int .i64 fr, .int .i64 to] 81)).alloc (.cells #[.int .i64 pl2, .int .i64 og2, .int .i64 oe2, .int .i64 un2, .int .i64 lo2, .int .i64 hi2, .int .i64 fr2, .int .i64 to2] 81)) := ((Ext.refl _).alloc _).alloc _
      generalize (wr.alloc (.cells #[.int .i64 pl, .int .i64 og, .int .i64 oe, .int .i64 un, .int .i64 lo, .int .i64 hi, .int .i64 fr, .int .i64 to] 81)).alloc (.cells #[.int .i64 pl2, .int .i64 og2, .int .i64 oe2, .int .i64 un2, .int .i64 lo2, .int .i64 hi2, .int .i64 fr2, .int .i64 to2] 81) = W5 at *
      clear q0 q1 q2 q3 q4 q5 q6 q7 s0 s1 s2 s3 s4 s5 s6 s7 e0 e1
      have Hb1 := Lib.hid hb1
      have Hb2 := Lib.hid hb2
      have Hx0 := Lib.hid hx0
      clear hb1 hb2 hx0
      cases hop : openP ⟨pl, og, oe, un, lo, hi, fr, to⟩ p d with
      | false =>
        have hr := Hstop.out k hlt (by rw [Hra.out, hop]; rfl)
        rw [hop] at Hopn
        have Hr := Lib.hid hr
        clear hr
        clear hop
        go_wp2_with (go_at_call 56; refine (Hopn.out _).mono ?_; rintro e w3 ⟨rfl, hx3⟩)
        go_ret
        exact ⟨ret_bool Hr.out.symm, Hx.out.trans (Hx0.out.trans hx3)⟩
      | true =>
        have hra := Hra.out
        rw [hop] at hra Hopn
        clear hop
        by_cases hge : og = oe2
        · subst hge
          have hgeB : (og != og) = false := by simp
          simp only [beq_self_eq_true, Bool.and_self, Bool.true_and] at hra
          have Hra := Lib.hid hra
          clear hra
          go_wp2_with (go_at_call 56; refine (Hopn.out _).mono ?_; rintro e w3 ⟨rfl, hx3⟩; obtain ⟨bx1, fx1⟩ := hx3.box Hb1.out; obtain ⟨bx2, fx2⟩ := hx3.box Hb2.out)
          have hx03 := Hx0.out.trans hx3
          have hb13 := hx3.heap Hb1.out
          have Hx03 := Lib.hid hx03
          have Hb13 := Lib.hid hb13
          clear hx03 hb13
          clear bx1 bx2 fx1 fx2 hx3
          obtain ⟨w4, hw4⟩ : ∃ W : World, W = w3 := ⟨_, rfl⟩
          subst hw4
          go_loopw [14] (fun i wi => ∃ t : Nat, t ≤ k ∧ i = .int .i64 t ∧ Ext w4 wi ∧ ∀ i', i' < t → ((nth l ls i').give != og) = true) (fun i _ => k - (intOf i).toNat)
          case atStart => exact ⟨0, Nat.zero_le _, rfl, Ext.refl _, fun j h => by omega⟩
          case round =>
            obtain ⟨t, ht, rfl, hxi, halli⟩ := hrel
            have hb14 := hxi.heap Hb13.out
            have hxw := Hx.out.trans (Hx03.out.trans hxi)
            have Halli := Lib.hid halli
            have Hb14 := Lib.hid hb14
            have Hxw := Lib.hid hxw
            have Hxi := Lib.hid hxi
            clear halli hb14 hxw hxi
            by_cases htk : t < k
            · have htk' : decide ((t : Int) < (k : Int)) = true := by simp; omega
              obtain ⟨j3, hj3, hjn3, o3, hoj3, hno3⟩ := Hget.out t (by omega)
              rw [Hnl.out] at hjn3
              obtain ⟨_, _, c3, e3, hcc3, _, e0⟩ := (Hc.out.ext Hxw.out).get t (by omega)
              cases e3
              rw [hj3] at hcc3
              cases hcc3
              obtain ⟨_, _, o3', e3, hoj3', _, _, q1, _⟩ := (Hl.out.ext Hxw.out).get j3 hjn3
              cases e3
              obtain rfl : o3 = o3' := by rw [hoj3] at hoj3'; cases hoj3'; rfl
              obtain ⟨G, hG⟩ : ∃ G, o3.give = G := ⟨_, rfl⟩
              rw [hG] at q1
              have Hj3 := Lib.hid hj3
              have Hoj3 := Lib.hid hoj3
              have Hno3 := Lib.hid hno3
              have HG := Lib.hid hG
              clear hj3 hoj3 hno3 hG
              clear hoj3'
              by_cases hgg : G = og
              · subst hgg
                have hggB : (G == G) = true := by simp
                have hr := Hstop.out k hlt (by
                  rw [Hra.out, List.all_eq_false]
                  exact ⟨t, by simpa using htk, by rw [Hno3.out, HG.out]; simp⟩)
                have Hr := Lib.hid hr
                clear hr
                go_wp2_with fail
                refine wp_region_ext (by kernel_rfl) (by kernel_rfl) (fun f hf hs => ?_)
                have f0 := fun q => ((hf q).box Hb14.out).1
                have f1 := fun q => (hf q).cell e0
                have f2 := fun q => (hf q).cell q1
                clear hf hs
                repeat (go_big_quiet_step (fail))
                refine wpQuiet_nil ?_
                intro W6 hW6
                clear f0 f1 f2
                go_wp2_with fail
                go_ret
                exact ⟨ret_bool Hr.out.symm, Hxw.out.trans hW6⟩
              · have hggB : (G == og) = false := by simpa using hgg
                have hnew : ((nth l ls t).give != og) = true := by rw [Hno3.out, HG.out, bne_iff_ne]; exact hgg
                have Hnew := Lib.hid hnew
                clear hnew
                go_wp2_with fail
                refine wp_region_ext (by kernel_rfl) (by kernel_rfl) (fun f hf hs => ?_)
                have f0 := fun q => ((hf q).box Hb14.out).1
                have f1 := fun q => (hf q).cell e0
                have f2 := fun q => (hf q).cell q1
                clear hf hs
                repeat (go_big_quiet_step (fail))
                refine wpQuiet_nil ?_
                intro W6 hW6
                clear f0 f1 f2
                go_wp2_with fail
                go_roundw
                case rel => exact ⟨t + 1, by omega, by go_num, Hxi.out.trans hW6, fun i' hi' => by
                  rcases Nat.lt_or_ge i' t with h | h
                  · exact Halli.out i' h
                  · obtain rfl : i' = t := by omega
                    exact Hnew.out⟩
                case measure => simp [intOf]; omega
            · obtain rfl : t = k := by omega
              have htk' : decide ((t : Int) < (t : Int)) = false := by simp
              have hrt : roundAt l p d ls t = true := by
                rw [Hra.out, List.all_eq_true]
                intro i' hi'
                exact Halli.out i' (by simpa using hi')
              have q1 := HQ1.out
              have q2 := HQ2.out
              have Hrt := Lib.hid hrt
              clear hrt
              go_wp2_with fail
              refine wp_region_ext (by kernel_rfl) (by kernel_rfl) (fun f hf hs => ?_)
              have f0 := fun q => ((hf q).box Hb14.out).1
              clear hf hs
              repeat (go_big_quiet_step (fail))
              refine wpQuiet_nil ?_
              intro W6 hW6
              clear f0
              clear q1 q2
              go_wp2_with fail
              go_roundw
              case rel => exact ⟨t + 1, by omega, by go_num, by rw [Hpus.out], by rw [Hpls.out], Hxw.out.trans hW6, fun j hj => by
                rcases Nat.lt_or_ge j t with h | h
                · exact Hall.out j h
                · obtain rfl : j = t := by omega
                  exact Hrt.out⟩
              case measure => simp [intOf]; omega
        · have hgeB : (og != oe2) = true := by rw [bne_iff_ne]; exact hge
          have hr := Hstop.out k hlt (by rw [hra]; simp; intro h; exact absurd h hge)
          have Hr := Lib.hid hr
          clear hr
          clear hra
          go_wp2_with (go_at_call 56; refine (Hopn.out _).mono ?_; rintro e w3 ⟨rfl, hx3⟩; obtain ⟨bx1, fx1⟩ := hx3.box Hb1.out; obtain ⟨bx2, fx2⟩ := hx3.box Hb2.out)
          go_ret
          exact ⟨ret_bool Hr.out.symm, Hx.out.trans (Hx0.out.trans hx3)⟩
    · obtain rfl : k = m := by omega
      have hlt' : decide ((k : Int) < (k : Int)) = false := by simp
      have hr := Hend.out Hall.out
      have Hr := Lib.hid hr
      have Hx := Lib.hid hx
      clear hr hx
      go_wp2_with fail
      go_ret
      exact ⟨ret_bool Hr.out.symm, Hx.out⟩
end Go.Proofs.Ytkbhmajcddmhnaa
