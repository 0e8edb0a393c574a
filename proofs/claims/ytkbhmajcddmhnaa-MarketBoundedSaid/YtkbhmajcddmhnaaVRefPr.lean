/- Contract of the reference: Prices. -/
import Derived.Test.YtkbhmajcddmhnaaVGr4
namespace Go.Proofs.Ytkbhmajcddmhnaa
open Go.RowKit
set_option linter.unusedVariables false

theorem mul_bd {a b M N : Int} (h0 : 0 ≤ a) (h1 : a ≤ M) (h2 : 0 ≤ b) (h3 : b ≤ N) : 0 ≤ a * b ∧ a * b ≤ M * N :=
  ⟨Int.mul_nonneg h0 h2, Int.mul_le_mul h1 h3 h2 (by omega)⟩

set_option maxRecDepth 100000 in
set_option maxHeartbeats 4000000 in
theorem refPrices_any (a : Option Addr) (n cap : Nat) (l : List Offer) (fa : Option Addr) (fn fc : Nat) (fs : List Fair) (pa : Option Addr) (pn pc : Nat) (ps : List (List Int)) (want : Int) (w : World)
    (hl : OffersAt w a n l) (hf : FairsAt w fa fn fs) (hp : RowsAt w pa pn ps) (hpn : pn ≤ 1000000) (ho : offersOk l = true) (ht : tripOk fs = true) (hw0 : 0 ≤ want) (hw4 : want ≤ 4) :
    Calls Try.prog 37 #[.slice a n cap, .slice fa fn fc, .int .i64 want, .slice pa pn pc] w fun e w' => e = .returned (.bool (PB (Priced l fs ps ∧ 0 < pr ps (fs.length - 1) want))) ∧ Ext w w' := by
  have hlen := trip_len ht
  have hfl := hf.1
  have hpl := hp.1
  have hol := offers_len ho
  have hnl := hl.1
  have Hl := Lib.hid hl
  have Hf := Lib.hid hf
  have Hp := Lib.hid hp
  have Ho := Lib.hid ho
  have Ht := Lib.hid ht
  have Hfl := Lib.hid hfl
  have Hpl := Lib.hid hpl
  have Hnl := Lib.hid hnl
  clear hl hf hp ho ht hfl hpl hnl
  have hfn5 : fn ≤ 5 := by have := Hfl.out; omega
  have hfn1 : 1 ≤ fn := by have := Hfl.out; omega
  have hn10 : n ≤ 10 := by have := Hnl.out; omega
  clear hlen hol
  by_cases hnf : pn = fn
  case neg =>
    have hne : ((pn : Int) != (fn : Int)) = true := by rw [bne_iff_ne]; omega
    go_enter Try.func37, Try.ntmps37
    go_wp2_with fail
    go_ret
    exact ⟨ret_bool (PB_false (fun h => hnf (by have := h.1.1; rw [Hpl.out, Hfl.out] at this; exact this))).symm, Ext.refl _⟩
  subst hnf
  go_enter Try.func37, Try.ntmps37
  go_wp2_with fail
  go_loop [9, 10] (fun i _ => ∃ k : Nat, k ≤ pn ∧ i = .int .i64 k ∧ ∀ (j : Nat) (r : List Int), j < k → ps[j]? = some r → rowOk r = true) (fun i _ => pn - (intOf i).toNat)
  case atStart => exact ⟨0, Nat.zero_le _, rfl, fun j y h => by omega⟩
  case round =>
    obtain ⟨k, hk, rfl, hall⟩ := hrel
    have Hall := Lib.hid hall
    clear hall
    by_cases hlt : k < pn
    · obtain ⟨b, off, x, ka, kn, kc, rfl, hxk, hb, c0, h1, h2, h3⟩ := Hp.out.get k hlt
      have hkl := h3.1
      have Hx := Lib.hid (And.intro hxk hkl)
      have H3 := Lib.hid h3
      unfold maxLen at h2
      clear hxk h3 hkl
      have hlt' : decide ((k : Int) < (pn : Int)) = true := by simp; omega
      by_cases h5 : kn = 5
      · subst h5
        go_wp2_with fail
        go_loop [10] (fun i => ∃ g : Nat, g ≤ 5 ∧ i = .int .i64 g ∧ ∀ (j : Nat) (y : Int), j < g → x[j]? = some y → inB y 0 1000000 = true) (fun i => 5 - (intOf i).toNat)
        case atStart => exact ⟨0, Nat.zero_le _, rfl, fun j y h => by omega⟩
        case round =>
          obtain ⟨g, hg, rfl, halli⟩ := hrel
          have Hi := Lib.hid halli
          clear halli
          by_cases hgl : g < 5
          · obtain ⟨rb, ro, y, rfl, hyk, hrb, d0⟩ := H3.out.get g hgl
            have Hy := Lib.hid hyk
            have hc := within_any y 0 1000000
            clear hyk
            cases hin : inB y 0 1000000
            all_goals
              rw [hin] at hc
              have Hc := Lib.hid hc
              have Hin := Lib.hid hin
              clear hc hin
              go_wp2_with (go_at_call 50; refine (Hc.out _).mono ?_; rintro e w' ⟨rfl, rfl⟩)
            · go_ret
              refine ⟨ret_bool (PB_false fun h => ?_).symm, Ext.refl _⟩
              have := h.1.2.1 k x Hx.out.1
              simp only [rowOk, Bool.and_eq_true] at this
              have := List.all_eq_true.1 this.2 y (List.mem_of_getElem? Hy.out)
              rw [Hin.out] at this
              cases this
            · go_round
              case rel => exact ⟨g + 1, by omega, by go_num, fun j z hj hz => by
                  rcases Nat.lt_or_ge j g with h | h
                  · exact Hi.out j z h hz
                  · have e : j = g := by omega
                    subst e
                    have := Hy.out
                    rw [hz] at this
                    cases this
                    exact Hin.out⟩
              case measure => simp [intOf]; omega
          · go_wp2_with fail
            go_round
            case rel => exact ⟨k + 1, by omega, by go_num, fun j r hj hr => by
                rcases Nat.lt_or_ge j k with h | h
                · exact Hall.out j r h hr
                · have e : j = k := by omega
                  subst e
                  have h1 := Hx.out.1
                  rw [hr] at h1
                  cases h1
                  have h2 := Hx.out.2
                  simp only [rowOk, Bool.and_eq_true, decide_eq_true_eq]
                  refine ⟨h2, ?_⟩
                  rw [List.all_eq_true]
                  intro y hy
                  obtain ⟨i, hi⟩ := List.mem_iff_getElem?.1 hy
                  exact Hi.out i y (by have := getElem?_lt hi; omega) hi⟩
            case measure => simp [intOf]; omega
      · have h5' : ((kn : Int) != 5) = true := by rw [bne_iff_ne]; omega
        go_wp2_with fail
        go_ret
        refine ⟨ret_bool (PB_false fun h => ?_).symm, Ext.refl _⟩
        have := h.1.2.1 k x Hx.out.1
        simp only [rowOk, Bool.and_eq_true, decide_eq_true_eq] at this
        have := Hx.out.2
        omega
    · have e : pn = k := by omega
      subst e
      have hrows : ∀ (i : Nat) (r : List Int), ps[i]? = some r → rowOk r = true := fun i r hr => Hall.out i r (by have := getElem?_lt hr; have := Hpl.out; omega) hr
      have Hrows := Lib.hid hrows
      clear hrows Hall
      go_wp2_with fail
      go_loopw [11, 12, 13, 14] (fun i _ _ _ wr => ∃ k : Nat, k ≤ pn ∧ i = .int .i64 k ∧ Ext w wr ∧ ∀ (j : Nat) (f : Fair), j < k → fs[j]? = some f → FairOk l fs.length ps j f) (fun i _ _ _ _ => pn - (intOf i).toNat)
      case atStart => exact ⟨0, Nat.zero_le _, rfl, Ext.refl _, fun j y h => by omega⟩
      case round =>
        obtain ⟨k, hk, rfl, hx, hall⟩ := hrel
        have Hall := Lib.hid hall
        clear hall
        by_cases hlt : k < pn
        · obtain ⟨b, off, f, ka, kn, kc, rfl, hfk, hb, c0, c1, c2, _, _, h3⟩ := (Hf.out.ext hx).get k hlt
          obtain rfl : kn = 5 := by rw [← h3.1]; exact (fair_bounds Ht.out hfk).1
          obtain ⟨pb, po, rb, ro, rc, rfl, hpb, p0, hrb, hrow⟩ := (Hp.out.ext hx).price Hrows.out k hlt
          have Hrow := Lib.hid hrow
          have H3 := Lib.hid h3
          have Hfk := Lib.hid hfk
          have hlt' : decide ((k : Int) < (pn : Int)) = true := by simp; omega
          clear h3 hfk hrow
          go_wp2_with fail
          obtain ⟨W0, hW0⟩ : ∃ W0 : World, W0 = wr := ⟨_, rfl⟩
          subst hW0
          have Hx := Lib.hid hx
          clear hx
          go_loopw [12, 13] (fun i _ wi => ∃ g : Nat, g ≤ n ∧ i = .int .i64 g ∧ Ext W0 wi ∧ ∀ (j : Nat) (o : Offer), j < g → l[j]? = some o → OffOk f ps k o) (fun i _ _ => n - (intOf i).toNat)
          case atStart => exact ⟨0, Nat.zero_le _, rfl, Ext.refl _, fun j y h => by omega⟩
          case round =>
            obtain ⟨g, hg, rfl, hxi, halli⟩ := hrel
            have Hi := Lib.hid halli
            clear halli
            by_cases hgl : g < n
            · obtain ⟨ob, oo, x, rfl, hxk, hob, d0, d1, d2, d3, d4, d5, d6, d7⟩ := (Hl.out.ext (Hx.out.trans hxi)).get g hgl
              obtain ⟨gi, ge, hgi, hge, hgi5, hge5, _, hu1, hu2, hlo1, hlo2, hhi, _⟩ := offer_bounds Ho.out hxk
              have hop := fun W => open_any x f.place f.day W
              obtain ⟨q1, q1a, q1b⟩ := Hrow.out gi hgi5
              obtain ⟨q2, q2a, q2b⟩ := Hrow.out ge hge5
              have hgl' : decide ((g : Int) < (n : Int)) = true := by simp; omega
              have c0' := hxi.cell c0
              have c1' := hxi.cell c1
              have p0' := hxi.cell p0
              have q1' := hxi.cell q1
              have q2' := hxi.cell q2
              have hobs : openB x f = (x.place == f.place && inB f.day x.from_ x.to) := rfl
              rw [← hobs] at hop
              have Hoff : Hid (OffOk f ps k x ↔ (openB x f = true → x.hi * pr ps k ge ≤ x.units * pr ps k gi)) := by unfold OffOk; rw [hgi, hge]; exact Iff.rfl
              have Hxk := Lib.hid hxk
              obtain ⟨pl, xgi, xge, un, lo, hi, fr, to⟩ := x
              simp only at hgi hge d0 d1 d2 d3 d4 d5 d6 d7 hu1 hu2 hlo1 hlo2 hhi
              subst hgi hge
              clear hxk hobs q1 q2
              obtain ⟨A, hA⟩ : ∃ A, pr ps k gi = A := ⟨_, rfl⟩
              obtain ⟨B, hB⟩ : ∃ B, pr ps k ge = B := ⟨_, rfl⟩
              rw [hA] at q1a q1b q1'
              rw [hB] at q2a q2b q2'
              rw [hA, hB] at Hoff
              obtain ⟨m1, m2⟩ := mul_bd (M := 50) (N := 1000000) (show 0 ≤ hi by omega) hhi q2a q2b
              obtain ⟨m3, m4⟩ := mul_bd (M := 50) (N := 1000000) (show 0 ≤ un by omega) hu2 q1a q1b
              simp only [Int.reduceMul] at m2 m4
              clear hA hB
              cases hopen : openB ⟨pl, gi, ge, un, lo, hi, fr, to⟩ f with
              | false =>
                rw [hopen] at hop Hoff
                have Hop := Lib.hid hop
                clear hop hopen
                unfold Offer.val at Hop
                go_wp2_with fail
                have hbx : (wr.alloc (.cells #[.int .i64 pl, .int .i64 gi, .int .i64 ge, .int .i64 un, .int .i64 lo, .int .i64 hi, .int .i64 fr, .int .i64 to] 81)).heap[wr.heap.size]? = some (.cells #[.int .i64 pl, .int .i64 gi, .int .i64 ge, .int .i64 un, .int .i64 lo, .int .i64 hi, .int .i64 fr, .int .i64 to] 81 (0, 0)) := heap_alloc_new _ _
                have hx1 : Ext wr (wr.alloc (.cells #[.int .i64 pl, .int .i64 gi, .int .i64 ge, .int .i64 un, .int .i64 lo, .int .i64 hi, .int .i64 fr, .int .i64 to] 81)) := (Ext.refl _).alloc _
                generalize wr.alloc (.cells #[.int .i64 pl, .int .i64 gi, .int .i64 ge, .int .i64 un, .int .i64 lo, .int .i64 hi, .int .i64 fr, .int .i64 to] 81) = W1 at *
                refine wp_region_ext (by kernel_rfl) (by kernel_rfl) (fun f' hf hs => ?_)
                have g0 := fun q => (hx1.trans (hf q)).cell c0'
                have g1 := fun q => (hx1.trans (hf q)).cell c1'
                have g2 := fun q => (hx1.trans (hf q)).cell p0'
                have g3 := fun q => (hx1.trans (hf q)).cell q1'
                have g4 := fun q => (hx1.trans (hf q)).cell q2'
                have g5 := fun q => ((hf q).box hbx).1
                have Hf' := Lib.hid hf
                have Hs' := Lib.hid hs
                clear hf hs hbx
                repeat (go_big_quiet_step ((go_at_call 56; exact Calls.ext_of (Hf'.out _) Hs'.out (Hop.out _))))
                refine wpQuiet_nil ?_
                intro W2 hW2
                clear g0 g1 g2 g3 g4 g5
                have hxW : Ext W0 W2 := hxi.trans (hx1.trans hW2)
                go_wp2_with fail
                go_roundw
                case rel => exact ⟨g + 1, by omega, by go_num, hxW, fun j y hj hy => by
                    rcases Nat.lt_or_ge j g with h | h
                    · exact Hi.out j y h hy
                    · have e : j = g := by omega
                      subst e
                      have := Hxk.out
                      rw [hy] at this
                      cases this
                      exact Hoff.out.2 (fun h => by cases h)⟩
                case measure => simp [intOf]; omega
              | true =>
                rw [hopen] at hop Hoff
                have Hop := Lib.hid hop
                clear hop hopen
                unfold Offer.val at Hop
                by_cases hcmp : un * A < hi * B
                · have hcmpB : decide (un * A < hi * B) = true := by simpa using hcmp
                  clear hcmp
                  go_wp2_with fail
                  have hbx : (wr.alloc (.cells #[.int .i64 pl, .int .i64 gi, .int .i64 ge, .int .i64 un, .int .i64 lo, .int .i64 hi, .int .i64 fr, .int .i64 to] 81)).heap[wr.heap.size]? = some (.cells #[.int .i64 pl, .int .i64 gi, .int .i64 ge, .int .i64 un, .int .i64 lo, .int .i64 hi, .int .i64 fr, .int .i64 to] 81 (0, 0)) := heap_alloc_new _ _
                  have hx1 : Ext wr (wr.alloc (.cells #[.int .i64 pl, .int .i64 gi, .int .i64 ge, .int .i64 un, .int .i64 lo, .int .i64 hi, .int .i64 fr, .int .i64 to] 81)) := (Ext.refl _).alloc _
                  generalize wr.alloc (.cells #[.int .i64 pl, .int .i64 gi, .int .i64 ge, .int .i64 un, .int .i64 lo, .int .i64 hi, .int .i64 fr, .int .i64 to] 81) = W1 at *
                  refine wp_region_ext (by kernel_rfl) (by kernel_rfl) (fun f' hf hs => ?_)
                  have g0 := fun q => (hx1.trans (hf q)).cell c0'
                  have g1 := fun q => (hx1.trans (hf q)).cell c1'
                  have g2 := fun q => (hx1.trans (hf q)).cell p0'
                  have g3 := fun q => (hx1.trans (hf q)).cell q1'
                  have g4 := fun q => (hx1.trans (hf q)).cell q2'
                  have g5 := fun q => ((hf q).box hbx).1
                  have Hf' := Lib.hid hf
                  have Hs' := Lib.hid hs
                  clear hf hs hbx
                  repeat (go_big_quiet_step ((go_at_call 56; exact Calls.ext_of (Hf'.out _) Hs'.out (Hop.out _))))
                  refine wpQuiet_nil ?_
                  intro W2 hW2
                  clear g0 g1 g2 g3 g4 g5
                  have hxW : Ext W0 W2 := hxi.trans (hx1.trans hW2)
                  go_wp2_with fail
                  go_ret
                  refine ⟨ret_bool (PB_false fun h => ?_).symm, Hx.out.trans hxW⟩
                  have h1 := (h.1.2.2 k f Hfk.out).1 g _ Hxk.out
                  have h2 := Hoff.out.1 h1 trivial
                  have h3 := of_decide_eq_true hcmpB
                  omega
                · have hcmpB : decide (un * A < hi * B) = false := by simpa using hcmp
                  clear hcmp
                  go_wp2_with fail
                  have hbx : (wr.alloc (.cells #[.int .i64 pl, .int .i64 gi, .int .i64 ge, .int .i64 un, .int .i64 lo, .int .i64 hi, .int .i64 fr, .int .i64 to] 81)).heap[wr.heap.size]? = some (.cells #[.int .i64 pl, .int .i64 gi, .int .i64 ge, .int .i64 un, .int .i64 lo, .int .i64 hi, .int .i64 fr, .int .i64 to] 81 (0, 0)) := heap_alloc_new _ _
                  have hx1 : Ext wr (wr.alloc (.cells #[.int .i64 pl, .int .i64 gi, .int .i64 ge, .int .i64 un, .int .i64 lo, .int .i64 hi, .int .i64 fr, .int .i64 to] 81)) := (Ext.refl _).alloc _
                  generalize wr.alloc (.cells #[.int .i64 pl, .int .i64 gi, .int .i64 ge, .int .i64 un, .int .i64 lo, .int .i64 hi, .int .i64 fr, .int .i64 to] 81) = W1 at *
                  refine wp_region_ext (by kernel_rfl) (by kernel_rfl) (fun f' hf hs => ?_)
                  have g0 := fun q => (hx1.trans (hf q)).cell c0'
                  have g1 := fun q => (hx1.trans (hf q)).cell c1'
                  have g2 := fun q => (hx1.trans (hf q)).cell p0'
                  have g3 := fun q => (hx1.trans (hf q)).cell q1'
                  have g4 := fun q => (hx1.trans (hf q)).cell q2'
                  have g5 := fun q => ((hf q).box hbx).1
                  have Hf' := Lib.hid hf
                  have Hs' := Lib.hid hs
                  clear hf hs hbx
                  repeat (go_big_quiet_step ((go_at_call 56; exact Calls.ext_of (Hf'.out _) Hs'.out (Hop.out _))))
                  refine wpQuiet_nil ?_
                  intro W2 hW2
                  clear g0 g1 g2 g3 g4 g5
                  have hxW : Ext W0 W2 := hxi.trans (hx1.trans hW2)
                  go_wp2_with fail
                  go_roundw
                  case rel => exact ⟨g + 1, by omega, by go_num, hxW, fun j y hj hy => by
                      rcases Nat.lt_or_ge j g with h | h
                      · exact Hi.out j y h hy
                      · have e : j = g := by omega
                        subst e
                        have := Hxk.out
                        rw [hy] at this
                        cases this
                        exact Hoff.out.2 (fun _ => by have := of_decide_eq_false hcmpB; omega)⟩
                  case measure => simp [intOf]; omega
            · have hoffs : ∀ (j : Nat) (o : Offer), l[j]? = some o → OffOk f ps k o := fun j o hj => Hi.out j o (by have := getElem?_lt hj; have := Hnl.out; omega) hj
              have Hoffs := Lib.hid hoffs
              clear hoffs Hi
              have hgn : decide ((g : Int) < (n : Int)) = false := by simp; omega
              go_wp2_with fail
              obtain ⟨Wa, hWa⟩ : ∃ Wa : World, Wa = wr := ⟨_, rfl⟩
              subst hWa
              have c2' := hxi.cell c2
              have p0' := hxi.cell p0
              have Hxi := Lib.hid hxi
              clear hxi c0 c1 c2 p0
              by_cases hlast : k + 1 < pn
              · obtain ⟨pb2, po2, rb2, ro2, rc2, e2, hpb2, p2, hrb2, hrow2⟩ := (((Hp.out.ext Hx.out).ext Hxi.out)).price Hrows.out (k + 1) hlast
                cases e2
                have Hrow2 := Lib.hid hrow2
                have hlast' : decide ((k : Int) < (pn : Int) - 1) = true := by simp; omega
                clear hrow2
                go_loopw [14] (fun i wi => ∃ q : Nat, q ≤ 5 ∧ i = .int .i64 q ∧ Ext Wa wi ∧ ∀ (j : Nat), j < q → RoadOk f ps k j) (fun i _ => 5 - (intOf i).toNat)
                case atStart => exact ⟨0, Nat.zero_le _, rfl, Ext.refl _, fun j h => by omega⟩
                case round =>
                  obtain ⟨q, hq, rfl, hxq, hallq⟩ := hrel
                  have Hq := Lib.hid (And.intro hallq hxq)
                  have c2q := hxq.cell c2'
                  have p0q := hxq.cell p0'
                  have p2q := hxq.cell p2
                  clear hallq
                  by_cases hq5 : q < 5
                  · obtain ⟨sb, so, sp, rfl, hsk, hsb, s0, s1⟩ := (((H3.out.ext Hxi.out)).ext hxq).get q hq5
                    have hsp := (fair_bounds Ht.out Hfk.out).2.2.2.2.2 q sp hsk
                    obtain ⟨q1, q1a, q1b⟩ := Hrow.out q hq5
                    obtain ⟨q2, q2a, q2b⟩ := Hrow2.out q hq5
                    have q1' := hxq.cell (Hxi.out.cell q1)
                    have q2' := hxq.cell q2
                    have hq5' : decide ((q : Int) < 5) = true := by simp; omega
                    have Hroad : Hid (RoadOk f ps k q ↔ pr ps (k + 1) q * sp.hi ≤ 1000 * pr ps k q) := Lib.hid (by unfold RoadOk; simp [List.getD, hsk])
                    obtain ⟨slo, shi⟩ := sp
                    simp only at s0 s1 hsp Hroad
                    obtain ⟨A, hA⟩ : ∃ A, pr ps k q = A := ⟨_, rfl⟩
                    obtain ⟨B, hB⟩ : ∃ B, pr ps (k + 1) q = B := ⟨_, rfl⟩
                    rw [hA] at q1a q1b q1'
                    rw [hB] at q2a q2b q2'
                    rw [hA, hB] at Hroad
                    obtain ⟨m1, m2⟩ := mul_bd (M := 1000000) (N := 1000) q2a q2b (show 0 ≤ shi by omega) hsp.2.2
                    simp only [Int.reduceMul] at m2
                    obtain ⟨hs1, hs2, hs3⟩ := hsp
                    clear hA hB hsk q1 q2 hxq
                    by_cases hcmp : 1000 * A < B * shi
                    all_goals
                      have hB1 : decide (1000 * A < B * shi) = (decide (1000 * A < B * shi)) := rfl
                      first
                        | (have hcmpB : decide (1000 * A < B * shi) = true := by simpa using hcmp)
                        | (have hcmpB : decide (1000 * A < B * shi) = false := by simpa using hcmp)
                      clear hcmp hB1
                      have hk1 : IntKind.i64.wrap ((k : Int) + 1) = (k : Int) + 1 := IntWalk.i64_in _ (by omega)
                      have hk2 : 0 ≤ (k : Int) + 1 := by omega
                      have hk3 : ((k : Int) + 1).toNat = k + 1 := by omega
                      go_wp2_with fail
                      go_quiet (fail)
                      go_wp2_with fail
                    · go_ret
                      refine ⟨ret_bool (PB_false fun h => ?_).symm, (Hx.out.trans (Hxi.out.trans Hq.out.2)).drewN _⟩
                      have h1 := Hroad.out.1 ((h.1.2.2 k f Hfk.out).2 (by have := Hfl.out; omega) q hq5)
                      have h3 := of_decide_eq_true hcmpB
                      omega
                    · go_roundw
                      case rel => exact ⟨q + 1, by omega, by go_num, Hq.out.2.drewN _, fun j hj => by
                          rcases Nat.lt_or_ge j q with h | h
                          · exact Hq.out.1 j h
                          · have e : j = q := by omega
                            subst e
                            exact Hroad.out.2 (by have := of_decide_eq_false hcmpB; omega)⟩
                      case measure => simp [intOf]; omega
                  · have hq5' : decide ((q : Int) < 5) = false := by simp; omega
                    go_wp2_with fail
                    go_roundw
                    case rel => exact ⟨k + 1, by omega, by go_num, Hx.out.trans (Hxi.out.trans Hq.out.2), fun j f' hj hf' => by
                        rcases Nat.lt_or_ge j k with h | h
                        · exact Hall.out j f' h hf'
                        · have e : j = k := by omega
                          subst e
                          have := Hfk.out
                          rw [hf'] at this
                          cases this
                          exact ⟨Hoffs.out, fun _ g' hg' => Hq.out.1 g' (by omega)⟩⟩
                    case measure => simp [intOf]; omega
              · have hlast' : decide ((k : Int) < (pn : Int) - 1) = false := by simp; omega
                refine wp_loop_once ?_
                go_wp2_with fail
                go_roundw
                case rel => exact ⟨k + 1, by omega, by go_num, Hx.out.trans Hxi.out, fun j f' hj hf' => by
                    rcases Nat.lt_or_ge j k with h | h
                    · exact Hall.out j f' h hf'
                    · have e : j = k := by omega
                      subst e
                      have := Hfk.out
                      rw [hf'] at this
                      cases this
                      exact ⟨Hoffs.out, fun h' => absurd h' (by have := Hfl.out; omega)⟩⟩
                case measure => simp [intOf]; omega
        · have e : pn = k := by omega
          subst e
          obtain ⟨wv, rfl⟩ : ∃ wv : Nat, want = wv := ⟨want.toNat, by omega⟩
          obtain ⟨pb, po, rb, ro, rc, rfl, hpb, p0, hrb, hrow⟩ := (Hp.out.ext hx).price Hrows.out (pn - 1) (by omega)
          obtain ⟨q1, q1a, q1b⟩ := hrow wv (by omega)
          have hpm : ((pn : Int) - 1).toNat = pn - 1 := by omega
          clear hrow
          go_wp2_with fail
          go_ret
          refine ⟨ret_bool ?_, hx⟩
          have hP : Priced l fs ps := ⟨by rw [Hpl.out, Hfl.out], Hrows.out, fun i f hf => Hall.out i f (by have := getElem?_lt hf; have := Hfl.out; omega) hf⟩
          rw [Hfl.out]
          by_cases h0 : 0 < pr ps (pn - 1) wv
          · rw [PB_true ⟨hP, h0⟩]; exact decide_eq_true h0
          · rw [PB_false (fun h => h0 h.2)]; exact decide_eq_false h0
end Go.Proofs.Ytkbhmajcddmhnaa
