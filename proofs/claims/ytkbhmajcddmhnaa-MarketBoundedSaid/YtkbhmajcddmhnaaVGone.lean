/- Contract of the reference: Gone. -/
import Derived.Test.YtkbhmajcddmhnaaVGr5
import Derived.Test.YtkbhmajcddmhnaaVRefRoad
namespace Go.Proofs.Ytkbhmajcddmhnaa
open Go.RowKit
set_option linter.unusedVariables false
set_option linter.unusedSimpArgs false

theorem results_tmp3 {fn : Func} {t u v : Tmp} (h : fn.results = #[.tmp t, .tmp u, .tmp v]) (tmps : Array Value) (P : Program) (w : World) :
    (results fn tmps).run P w = .ok (.tuple #[tmps.getD t undef, tmps.getD u undef, tmps.getD v undef]) w := by
  simp [results, h]

def GonePost (r : Option Hand) (w : World) (e : Ending) (w' : World) : Prop :=
  (match r with
   | some h => e = .returned (.tuple #[.int .i64 h.good, .int .i64 h.units, .bool true])
   | none => e = .returned (.tuple #[.int .i64 0, .int .i64 0, .bool false])) ∧ Ext w w'

set_option maxRecDepth 100000 in
set_option maxHeartbeats 4000000 in
theorem gone_any (a : Option Addr) (n cap : Nat) (l : List Offer) (fa : Option Addr) (fn fc : Nat) (fs : List Fair) (ca : Option Addr) (cn cc : Nat) (ch : List Int) (g0 u0 : Int) (w : World)
    (hl : OffersAt w a n l) (hf : FairsAt w fa fn fs) (hc : IntsAt .i64 w ca cn ch) (ho : offersOk l = true) (ht : tripOk fs = true) (hcn : fn ≤ cn) (hcn2 : cn ≤ 1000000) (hch : ∀ k ∈ ch, -1 ≤ k ∧ k < (n : Int)) (hg : 0 ≤ g0) (hg4 : g0 ≤ 4) (hu : 0 ≤ u0) (hu6 : u0 ≤ 1000000) :
    Calls Try.prog 36 #[.slice a n cap, .slice fa fn fc, .slice ca cn cc, .int .i64 g0, .int .i64 u0] w (GonePost (goneOf l fs ch ⟨g0, u0⟩) w) := by
  have hlen := trip_len ht
  have hfl := hf.1
  have hnl := hl.1
  have hol := offers_len ho
  have hn10 : n ≤ 10 := by omega
  have hfn5 : fn ≤ 5 := by omega
  have hok0 : HandOk 0 ⟨g0, u0⟩ := ⟨⟨g0.toNat, by simp only; omega, by omega⟩, hu, by simp; omega⟩
  have hok := fun (k : Nat) (hk : k ≤ fn) (h' : Hand) (e : goneTo l fs ch ⟨g0, u0⟩ k = some h') => goneTo_ok ho ht (fun c hc' => by rw [hnl]; exact (hch c hc').2) hok0 (by rw [hfl]; exact hk) e
  obtain ⟨R, hR⟩ : ∃ R, goneOf l fs ch ⟨g0, u0⟩ = R := ⟨_, rfl⟩
  have hRs : goneTo l fs ch ⟨g0, u0⟩ fn = R := by rw [← hR, ← hfl]; rfl
  rw [hR]
  have Hl := Lib.hid hl
  have Hf := Lib.hid hf
  have Hc := Lib.hid hc
  have Ho := Lib.hid ho
  have Ht := Lib.hid ht
  have Hch := Lib.hid hch
  have Hok := Lib.hid hok
  have HRs := Lib.hid hRs
  have Hfl := Lib.hid hfl
  have Hnl := Lib.hid hnl
  clear hl hf hc ho ht hch hok hRs hfl hnl
  clear hlen hol hok0 hR
  go_enter Try.func36, Try.ntmps36
  go_wp2_with fail
  go_loopw [3, 4, 13] (fun vg vu i wr => ∃ (k : Nat) (h : Hand), k ≤ fn ∧ i = .int .i64 k ∧ vg = .int .i64 h.good ∧ vu = .int .i64 h.units ∧ goneTo l fs ch ⟨g0, u0⟩ k = some h ∧ Ext w wr) (fun _ _ i _ => fn - (intOf i).toNat)
  case atStart => exact ⟨0, ⟨g0, u0⟩, Nat.zero_le _, rfl, rfl, rfl, rfl, Ext.refl _⟩
  case round =>
    obtain ⟨k, ⟨g, u⟩, hk, rfl, rfl, rfl, hgo, hx⟩ := hrel
    by_cases hlt : k < fn
    · have hlt' : decide ((k : Int) < (fn : Int)) = true := by simp; omega
      obtain ⟨⟨gn, hgn, hgn5⟩, hu0, _⟩ := Hok.out k hk _ hgo
      have hule := (Hok.out k hk _ hgo).le4 (by omega)
      simp only at hgn hu0 hule
      subst hgn
      obtain ⟨cb, co, c, rfl, hcc, hcb, e0⟩ := (Hc.out.ext hx).get k (by omega)
      obtain ⟨fb, fo, f, ka, kn, kc, rfl, hfk, hfb, d0, d1, d2, _, _, d3⟩ := (Hf.out.ext hx).get k hlt
      have hfk5 := (fair_bounds Ht.out hfk).1
      obtain rfl : kn = 5 := by rw [← d3.1]; exact hfk5
      have hfe : fairAt fs k = f := by simp [fairAt, List.getD, hfk]
      have hke : keepsOf fs k = f.keeps := by simp [keepsOf, List.getD, hfk]
      have hcr := Hch.out c (List.mem_of_getElem? hcc)
      obtain ⟨hc1, hc2⟩ := hcr
      have hst : goneTo l fs ch ⟨g0, u0⟩ (k + 1) = stepHand l fs k c ⟨gn, u⟩ := by
        simp only [goneTo, hgo, Option.bind_some, List.getD, hcc, Option.getD_some]
      have hfb2 := (fair_bounds Ht.out hfk).2.2.2.2.2
      have Hgo := Lib.hid hgo
      have Hx := Lib.hid hx
      have Hcc := Lib.hid hcc
      have Hfk := Lib.hid hfk
      have Hfe := Lib.hid hfe
      have Hke := Lib.hid hke
      have Hst := Lib.hid hst
      have D3 := Lib.hid d3
      have Hfb2 := Lib.hid hfb2
      clear hgo hx hcc hfk hfe hke hst d3 hfb2
      clear hfk5
      by_cases hc0 : 0 ≤ c
      · have hc0B : decide (0 ≤ c) = true := by simpa using hc0
        obtain ⟨j, rfl⟩ : ∃ j : Nat, c = j := ⟨c.toNat, by omega⟩
        have hjn : j < n := by omega
        obtain ⟨ob, oo, o, rfl, hoj, hob, q0, q1, q2, q3, q4, q5, q6, q7⟩ := (Hl.out.ext Hx.out).get j hjn
        obtain ⟨gi, ge, hgi, hge, hgi5, hge5, hgne, hu1, hu2, hlo1, hlo2, hhi, _⟩ := offer_bounds Ho.out hoj
        have hoat : offerAt l (j : Int) = o := by simp [offerAt, List.getD, hoj]
        have hopn := fun W => open_any o f.place f.day W
        have hopq : (o.place == f.place && inB f.day o.from_ o.to) = openB o f := rfl
        rw [hopq] at hopn
        have Hoat := Lib.hid hoat
        have Hoj := Lib.hid hoj
        have Hopn := Lib.hid hopn
        clear hoat hoj hopn
        clear hopq
        obtain ⟨pl, og, oe, un, lo, hi, fr, to⟩ := o
        simp only at hgi hge q0 q1 q2 q3 q4 q5 q6 q7 hu1 hu2 hlo1 hlo2 hhi
        subst hgi hge
        go_wp2_with fail
        have hbx : (wr.alloc (.cells #[.int .i64 pl, .int .i64 gi, .int .i64 ge, .int .i64 un, .int .i64 lo, .int .i64 hi, .int .i64 fr, .int .i64 to] 81)).heap[wr.heap.size]? = some (.cells #[.int .i64 pl, .int .i64 gi, .int .i64 ge, .int .i64 un, .int .i64 lo, .int .i64 hi, .int .i64 fr, .int .i64 to] 81 (0, 0)) := heap_alloc_new _ _
        have hx0 : Ext wr (wr.alloc (.cells #[.int .i64 pl, .int .i64 gi, .int .i64 ge, .int .i64 un, .int .i64 lo, .int .i64 hi, .int .i64 fr, .int .i64 to] 81)) := (Ext.refl _).alloc _
        generalize wr.alloc (.cells #[.int .i64 pl, .int .i64 gi, .int .i64 ge, .int .i64 un, .int .i64 lo, .int .i64 hi, .int .i64 fr, .int .i64 to] 81) = W5 at *
        have r0 := hx0.cell d0
        have r1 := hx0.cell d1
        have r2 := hx0.cell d2
        have r3 := D3.out.ext hx0
        have hxw5 := Hx.out.trans hx0
        clear q0 q1 q2 q3 q4 q5 q6 q7 e0 d0 d1 d2
        have Hbx := Lib.hid hbx
        have R3 := Lib.hid r3
        have Hxw5 := Lib.hid hxw5
        clear hbx r3 hxw5
        clear hx0
        by_cases hgg : gi = gn
        · subst hgg
          have hggB : (((gi : Int)) != (gi : Int)) = false := by simp
          cases hop : openB ⟨pl, gi, ge, un, lo, hi, fr, to⟩ f with
          | false =>
            have hno : goneTo l fs ch ⟨g0, u0⟩ (k + 1) = none := by
              rw [Hst.out]; unfold stepHand; rw [if_pos (by omega), Hoat.out, Hfe.out, hop]; simp
            have hRn := goneTo_none hno fn (by omega)
            rw [HRs.out] at hRn
            rw [hop] at Hopn
            unfold Offer.val at Hopn
            have HRn := Lib.hid hRn
            clear hRn
            clear hno hop
            refine wp_region_tree (.take [0, 1, 2, 3, 4, 5, 6, 7, 8, 9, 10, 11, 12, 13, 14, 15] (.one 16 (.take [17, 18] .done))) (Ext W5) _ (by kernel_rfl) (by kernel_rfl) rfl ((Ext.refl _).drew) ?_
            intro ι _ f hf hs
            have f0 := fun q => ((hf q).box Hbx.out).1
            have f1 := fun q => (hf q).cell r0
            have f2 := fun q => (hf q).cell r1
            have HS := Lib.hid hs
            clear hf hs
            simp only [treeOf, oneOp, twoOp, opsOf, consOp, List.getElem?_toArray, List.getElem?_cons_succ, List.getElem?_cons_zero]
            refine wpOT_take ?_
            repeat (go_big_quiet_step (fail))
            refine wpQuiet_nil ?_
            refine wpOT_one ?_
            go_wp2_with (go_at_call 56; refine (Hopn.out _).mono ?_; rintro e w6 ⟨rfl, hxc⟩)
            refine ⟨HS.out _ ((Ext.refl _).drew.trans hxc), ?_⟩
            refine wpOT_take ?_
            repeat (go_big_quiet_step (fail))
            refine wpQuiet_nil ?_
            refine wpOT_done ?_
            clear f0 f1 f2 HS
            go_wp2_with fail
            refine bodyPost_ret (results_tmp3 rfl _ _ _) rfl ?_
            rw [HRn.out]
            exact ⟨rfl, Hxw5.out.trans ((Ext.refl _).drew.trans hxc)⟩
          | true =>
            have hyes : goneTo l fs ch ⟨g0, u0⟩ (k + 1) = some (roadHand fs k (takeHand ⟨pl, gi, ge, un, lo, hi, fr, to⟩ ⟨gi, u⟩)) := by
              rw [Hst.out]; unfold stepHand; rw [if_pos (by omega), Hoat.out, Hfe.out, hop, if_pos ⟨rfl, rfl⟩]
            rw [hop] at Hopn
            unfold Offer.val at Hopn
            have Hyes := Lib.hid hyes
            clear hyes
            clear hop
            refine wp_region_tree (.take [0, 1, 2, 3, 4, 5, 6, 7, 8, 9, 10, 11, 12, 13, 14, 15] (.one 16 (.take [17, 18] .done))) (Ext W5) _ (by kernel_rfl) (by kernel_rfl) rfl ((Ext.refl _).drew) ?_
            intro ι _ f hf hs
            have f0 := fun q => ((hf q).box Hbx.out).1
            have f1 := fun q => (hf q).cell r0
            have f2 := fun q => (hf q).cell r1
            have HS := Lib.hid hs
            clear hf hs
            simp only [treeOf, oneOp, twoOp, opsOf, consOp, List.getElem?_toArray, List.getElem?_cons_succ, List.getElem?_cons_zero]
            refine wpOT_take ?_
            repeat (go_big_quiet_step (fail))
            refine wpQuiet_nil ?_
            refine wpOT_one ?_
            go_wp2_with (go_at_call 56; refine (Hopn.out _).mono ?_; rintro e w6 ⟨rfl, hxc⟩)
            refine ⟨HS.out _ ((Ext.refl _).drew.trans hxc), ?_⟩
            refine wpOT_take ?_
            repeat (go_big_quiet_step (fail))
            refine wpQuiet_nil ?_
            refine wpOT_done ?_
            clear f0 f1 f2 HS
            have hx6 := (Ext.refl W5).drew.trans hxc
            obtain ⟨dv1, dv2⟩ := div_bd hu0 hu1
            obtain ⟨D, hD⟩ : ∃ D, u / un = D := ⟨_, rfl⟩
            rw [hD] at dv1 dv2
            obtain ⟨m1, m2⟩ := mul_bd dv1 (show D ≤ 6250000000000 by omega) (show 0 ≤ lo by omega) (show lo ≤ 50 by omega)
            simp only [Int.reduceMul] at m2
            obtain ⟨P, hP⟩ : ∃ P, D * lo = P := ⟨_, rfl⟩
            rw [hP] at m1 m2
            have hb6 := hx6.heap Hbx.out
            have hxw6 := Hxw5.out.trans hx6
            have s0 := hx6.cell r0
            have s1 := hx6.cell r1
            have s2 := hx6.cell r2
            have hs3 := R3.out.ext hx6
            clear r0 r1 r2 hxc hx6
            have Hs3 := Lib.hid hs3
            have Hxw6 := Lib.hid hxw6
            clear hs3 hxw6
            go_wp2_with fail
            refine wp_region_ext (by kernel_rfl) (by kernel_rfl) (fun f hf hs => ?_)
            have f0 := fun q => ((hf q).box hb6).1
            clear hf hs
            repeat (go_big_quiet_step (fail))
            refine wpQuiet_nil ?_
            intro W7 hW7
            clear f0
            have t0 := hW7.cell s0
            have t1 := hW7.cell s1
            have t2 := hW7.cell s2
            have ht3 := Hs3.out.ext hW7
            have hxw7 := Hxw6.out.trans hW7
            clear s0 s1 s2 hb6 hW7
            have hpre : takeHand ⟨pl, gi, ge, un, lo, hi, fr, to⟩ ⟨gi, u⟩ = ⟨ge, P⟩ := by simp only [takeHand, hD, hP]
            rw [hpre] at Hyes
            clear hpre hD hP
            have Ht3 := Lib.hid ht3
            have Hxw7 := Lib.hid hxw7
            clear ht3 hxw7
            by_cases hlast : k + 1 < fn
            · have hlastB : decide ((k : Int) < (fn : Int) - 1) = true := by simp; omega
              obtain ⟨kb, ko, s, rfl, hs, hkb, z0c, z1c⟩ := Ht3.out.get ge hge5
              obtain ⟨s0, s1, s2⟩ := Hfb2.out ge s hs
              obtain ⟨n1, n2⟩ := mul_bd m1 m2 s0 (show s.lo ≤ 1000 by omega)
              simp only [Int.reduceMul] at n2
              obtain ⟨Q, hQ⟩ : ∃ Q, P * s.lo = Q := ⟨_, rfl⟩
              rw [hQ] at n1 n2
              have hroad : roadHand fs k ⟨ge, P⟩ = ⟨ge, Q / 1000⟩ := by
                simp only [roadHand, Hke.out, Int.toNat_natCast, List.getD, hs, Option.getD_some]
                rw [if_pos (by rw [Hfl.out]; omega)]
                simp only [lf, hQ]
              rw [hroad] at Hyes
              clear hroad hs
              go_wp2_with fail
              go_roundw
              case rel => exact ⟨k + 1, ⟨ge, Q / 1000⟩, by omega, by go_num, rfl, rfl, Hyes.out, Hxw7.out⟩
              case measure => simp [intOf]; omega
            · have hlastB : decide ((k : Int) < (fn : Int) - 1) = false := by simp; omega
              have hroad : roadHand fs k ⟨ge, P⟩ = ⟨ge, P⟩ := by
                simp only [roadHand]
                rw [if_neg (by rw [Hfl.out]; omega)]
              rw [hroad] at Hyes
              clear hroad
              go_wp2_with fail
              go_roundw
              case rel => exact ⟨k + 1, ⟨ge, P⟩, by omega, by go_num, rfl, rfl, Hyes.out, Hxw7.out⟩
              case measure => simp [intOf]; omega
        · have hggB : (((gi : Int)) != (gn : Int)) = true := by rw [bne_iff_ne]; omega
          have hno : goneTo l fs ch ⟨g0, u0⟩ (k + 1) = none := by
            rw [Hst.out]; unfold stepHand; rw [if_pos (by omega), Hoat.out, if_neg (by simp only; omega)]
          have hRn := goneTo_none hno fn (by omega)
          rw [HRs.out] at hRn
          have HRn := Lib.hid hRn
          clear hRn
          clear hno
          refine wp_region_tree (.take [0, 1, 2, 3, 4, 5, 6, 7, 8, 9, 10, 11, 12, 13, 14, 15] (.one 16 (.take [17, 18] .done))) (Ext W5) _ (by kernel_rfl) (by kernel_rfl) rfl ((Ext.refl _).drew) ?_
          intro ι _ f hf hs
          have f0 := fun q => ((hf q).box Hbx.out).1
          have f1 := fun q => (hf q).cell r0
          have f2 := fun q => (hf q).cell r1
          have HS := Lib.hid hs
          clear hf hs
          simp only [treeOf, oneOp, twoOp, opsOf, consOp, List.getElem?_toArray, List.getElem?_cons_succ, List.getElem?_cons_zero]
          refine wpOT_take ?_
          repeat (go_big_quiet_step (fail))
          refine wpQuiet_nil ?_
          refine wpOT_one ?_
          go_wp2_with fail
          refine ⟨HS.out _ ((Ext.refl _).drew), ?_⟩
          refine wpOT_take ?_
          repeat (go_big_quiet_step (fail))
          refine wpQuiet_nil ?_
          refine wpOT_done ?_
          clear f0 f1 f2 HS
          go_wp2_with fail
          refine bodyPost_ret (results_tmp3 rfl _ _ _) rfl ?_
          rw [HRn.out]
          exact ⟨rfl, Hxw5.out.trans (Ext.refl _).drew⟩
      · have hc0B : decide (0 ≤ c) = false := by simpa using hc0
        have hyes : goneTo l fs ch ⟨g0, u0⟩ (k + 1) = some (roadHand fs k ⟨gn, u⟩) := by
          rw [Hst.out]; unfold stepHand; rw [if_neg hc0]
        have t0 := d0
        have t1 := d1
        have t2 := d2
        have m2 : u ≤ 312500000000000 := by omega
        have Hyes := Lib.hid hyes
        clear hyes
        clear d0 d1 d2
        by_cases hlast : k + 1 < fn
        · have hlastB : decide ((k : Int) < (fn : Int) - 1) = true := by simp; omega
          obtain ⟨kb, ko, s, rfl, hs, hkb, z0c, z1c⟩ := D3.out.get gn hgn5
          obtain ⟨s0, s1, s2⟩ := Hfb2.out gn s hs
          obtain ⟨n1, n2⟩ := mul_bd hu0 m2 s0 (show s.lo ≤ 1000 by omega)
          simp only [Int.reduceMul] at n2
          obtain ⟨Q, hQ⟩ : ∃ Q, u * s.lo = Q := ⟨_, rfl⟩
          rw [hQ] at n1 n2
          have hroad : roadHand fs k ⟨gn, u⟩ = ⟨gn, Q / 1000⟩ := by
            simp only [roadHand, Hke.out, Int.toNat_natCast, List.getD, hs, Option.getD_some]
            rw [if_pos (by rw [Hfl.out]; omega)]
            simp only [lf, hQ]
          rw [hroad] at Hyes
          clear hroad hs
          go_wp2_with fail
          go_roundw
          case rel => exact ⟨k + 1, ⟨gn, Q / 1000⟩, by omega, by go_num, rfl, rfl, Hyes.out, Hx.out⟩
          case measure => simp [intOf]; omega
        · have hlastB : decide ((k : Int) < (fn : Int) - 1) = false := by simp; omega
          have hroad : roadHand fs k ⟨gn, u⟩ = ⟨gn, u⟩ := by
            simp only [roadHand]
            rw [if_neg (by rw [Hfl.out]; omega)]
          rw [hroad] at Hyes
          clear hroad
          go_wp2_with fail
          go_roundw
          case rel => exact ⟨k + 1, ⟨gn, u⟩, by omega, by go_num, rfl, rfl, Hyes.out, Hx.out⟩
          case measure => simp [intOf]; omega
    · obtain rfl : k = fn := by omega
      have hlt' : decide ((k : Int) < (k : Int)) = false := by simp
      rw [HRs.out] at hgo
      have Hgo := Lib.hid hgo
      have Hx := Lib.hid hx
      clear hgo hx
      go_wp2_with fail
      refine bodyPost_ret (results_tmp3 rfl _ _ _) rfl ?_
      rw [Hgo.out]
      exact ⟨rfl, Hx.out⟩
end Go.Proofs.Ytkbhmajcddmhnaa
