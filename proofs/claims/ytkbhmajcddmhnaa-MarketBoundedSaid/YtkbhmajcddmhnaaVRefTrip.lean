/- Contracts of the reference: Trip, Check. -/
import Derived.Test.YtkbhmajcddmhnaaVGr3
namespace Go.Proofs.Ytkbhmajcddmhnaa
open Go.RowKit
set_option linter.unusedVariables false

/-- what the fair k is asked, but for its keeps -/
def headOk (fs : List Fair) (k : Nat) (f : Fair) : Bool :=
  inB f.place 0 9999 && inB f.day 0 100000 && (match k with | 0 => true | j + 1 => match fs[j]? with | some g => decide (g.day ≤ f.day) | none => true) && decide (f.keeps.length = 5)

theorem trip_false_head {fs : List Fair} {k : Nat} {f : Fair} (h : fs[k]? = some f) (hb : headOk fs k f = false) : tripOk fs = false := by
  rw [Bool.eq_false_iff]
  intro ht
  simp only [tripOk, Bool.and_eq_true] at ht
  obtain ⟨⟨_, hv⟩, hs⟩ := ht
  have hvf := List.all_eq_true.1 hv f (List.mem_of_getElem? h)
  have : headOk fs k f = true := by
    simp only [Fair.valid, Bool.and_eq_true, decide_eq_true_eq] at hvf
    simp only [headOk, Bool.and_eq_true, decide_eq_true_eq]
    refine ⟨⟨⟨hvf.1.1.1, hvf.1.1.2⟩, ?_⟩, hvf.1.2⟩
    cases k with
    | zero => rfl
    | succ j =>
      show (match fs[j]? with | some g => decide (g.day ≤ f.day) | none => true) = true
      cases hj : fs[j]? with
      | none => rfl
      | some g => exact decide_eq_true ((sortedDays_iff fs).1 hs j g f hj h)
  rw [this] at hb
  cases hb
theorem trip_false_part {fs : List Fair} {k : Nat} {f : Fair} {g : Nat} {s : Span} (h : fs[k]? = some f) (hg : f.keeps[g]? = some s) (hb : s.part = false) : tripOk fs = false := by
  rw [Bool.eq_false_iff]
  intro ht
  simp only [tripOk, Bool.and_eq_true] at ht
  have hvf := List.all_eq_true.1 ht.1.2 f (List.mem_of_getElem? h)
  simp only [Fair.valid, Bool.and_eq_true] at hvf
  have := List.all_eq_true.1 hvf.2 s (List.mem_of_getElem? hg)
  rw [hb] at this
  cases this
theorem trip_true {fs : List Fair} (hn : inB fs.length 1 5 = true) (h : ∀ (k : Nat) (f : Fair), fs[k]? = some f → headOk fs k f = true ∧ f.keeps.all Span.part = true) : tripOk fs = true := by
  simp only [tripOk, Bool.and_eq_true]
  refine ⟨⟨hn, ?_⟩, ?_⟩
  · rw [List.all_eq_true]
    intro f hf
    obtain ⟨k, hk⟩ := List.mem_iff_getElem?.1 hf
    obtain ⟨h1, h2⟩ := h k f hk
    simp only [headOk, Bool.and_eq_true] at h1
    simp [Fair.valid, h1, h2]
  · rw [sortedDays_iff]
    intro k a b ha hb
    have := (h (k + 1) b hb).1
    simp only [headOk, ha, Bool.and_eq_true, decide_eq_true_eq] at this
    exact this.1.2

theorem getElem?_lt {α : Type} {l : List α} {k : Nat} {x : α} (h : l[k]? = some x) : k < l.length := by
  rcases Nat.lt_or_ge k l.length with h' | h'
  · exact h'
  · simp [List.getElem?_eq_none h'] at h

set_option maxHeartbeats 4000000 in
theorem refTrip_any (a : Option Addr) (n cap : Nat) (fs : List Fair) (w : World) (hl : FairsAt w a n fs) (hn : n ≤ 1000000) :
    Calls Try.prog 58 #[.slice a n cap] w fun e w' => e = .returned (.bool (tripOk fs)) ∧ Ext w w' := by
  have hln := hl.1
  have Hl := Lib.hid hl
  have Hln := Lib.hid hln
  have hc0 := within_any n 1 5
  clear hl hln
  cases hin : inB n 1 5
  · rw [hin] at hc0
    have Hc0 := Lib.hid hc0
    have Hin := Lib.hid hin
    clear hc0 hin
    go_enter Try.func58, Try.ntmps58
    go_wp2_with (go_at_call 50; refine (Hc0.out _).mono ?_; rintro e w' ⟨rfl, rfl⟩)
    go_ret
    exact ⟨ret_bool (by simp [tripOk, Hln.out, Hin.out]), Ext.refl _⟩
  rw [hin] at hc0
  have Hc0 := Lib.hid hc0
  have Hin := Lib.hid hin
  have hn5 : n ≤ 5 := by simp [inB] at hin; omega
  clear hc0 hin
  go_enter Try.func58, Try.ntmps58
  go_wp2_with (go_at_call 50; refine (Hc0.out _).mono ?_; rintro e w' ⟨rfl, rfl⟩)
  go_loopw [3, 4] (fun i _ wr => ∃ k : Nat, k ≤ n ∧ i = .int .i64 k ∧ Ext w wr ∧ ∀ (j : Nat) (y : Fair), j < k → fs[j]? = some y → headOk fs j y = true ∧ y.keeps.all Span.part = true) (fun i _ _ => n - (intOf i).toNat)
  case atStart => exact ⟨0, Nat.zero_le _, rfl, Ext.refl _, fun j y h => by omega⟩
  case round =>
    obtain ⟨k, hk, rfl, hx, hall⟩ := hrel
    have Hall := Lib.hid hall
    clear hall
    by_cases hlt : k < n
    · obtain ⟨b, off, x, ka, kn, kc, rfl, hxk, hb, c0, c1, c2, h1, h2, h3⟩ := (Hl.out.ext hx).get k hlt
      have H3 := Lib.hid h3
      have Hx := Lib.hid (And.intro hxk hx)
      have hkn := h3.1
      have Hkn := Lib.hid hkn
      clear h3 hxk hx hkn
      have hq1 := fun W => within_ext x.place 0 9999 W
      have hq2 := fun W => within_ext x.day 0 100000 W
      have hq1 := fun W => within_ext x.place 0 9999 W
      have hq2 := fun W => within_ext x.day 0 100000 W
      have hq1 := fun W => within_ext x.place 0 9999 W
      have hq2 := fun W => within_ext x.day 0 100000 W
      have hq1 := fun W => within_ext x.place 0 9999 W
      have hq2 := fun W => within_ext x.day 0 100000 W
      cases h0 : headOk fs k x with
      | false =>
        have H0 := Lib.hid h0
        cases p1 : inB x.place 0 9999 with
        | false =>
          rw [p1] at hq1
          have Q1 := Lib.hid hq1
          clear hq1 hq2 h0 p1
          cases k with
          | zero =>
            have hn0 : (0 : Int) < (n : Int) := by omega
            rw [show ((0 : Nat) : Int) = 0 from rfl]
            simp only [Nat.zero_mul, Nat.add_zero] at c0 c1 c2
            go_wp2_with fail
            refine wp_region_ext (by kernel_rfl) (by kernel_rfl) (fun f hf hs => ?_)
            have g0 := fun q => (hf q).cell c0
            have g1 := fun q => (hf q).cell c1
            have g2 := fun q => (hf q).cell c2
            have Hf := Lib.hid hf
            have Hs := Lib.hid hs
            clear hf hs
            repeat (go_big_quiet_step ((first | (go_at_call 50; with_reducible exact Calls.ext_of (Hf.out _) Hs.out (Q1.out _)))))
            refine wpQuiet_nil ?_
            intro W1 hW1
            clear g0 g1 g2
            go_wp2_with fail
            go_ret
            exact ⟨ret_bool (trip_false_head Hx.out.1 H0.out).symm, Hx.out.2.trans hW1⟩
          | succ j =>
            go_wp2_with fail
            refine wp_region_ext (by kernel_rfl) (by kernel_rfl) (fun f hf hs => ?_)
            have g0 := fun q => (hf q).cell c0
            have g1 := fun q => (hf q).cell c1
            have g2 := fun q => (hf q).cell c2
            have Hf := Lib.hid hf
            have Hs := Lib.hid hs
            clear hf hs
            repeat (go_big_quiet_step ((first | (go_at_call 50; with_reducible exact Calls.ext_of (Hf.out _) Hs.out (Q1.out _)))))
            refine wpQuiet_nil ?_
            intro W1 hW1
            clear g0 g1 g2
            go_wp2_with fail
            go_ret
            exact ⟨ret_bool (trip_false_head Hx.out.1 H0.out).symm, Hx.out.2.trans hW1⟩
        | true =>
          rw [p1] at hq1
          cases p2 : inB x.day 0 100000 with
          | false =>
            rw [p2] at hq2
            have Q1 := Lib.hid hq1
            have Q2 := Lib.hid hq2
            clear hq1 hq2 h0 p1 p2
            cases k with
            | zero =>
              have hn0 : (0 : Int) < (n : Int) := by omega
              rw [show ((0 : Nat) : Int) = 0 from rfl]
              simp only [Nat.zero_mul, Nat.add_zero] at c0 c1 c2
              go_wp2_with fail
              refine wp_region_ext (by kernel_rfl) (by kernel_rfl) (fun f hf hs => ?_)
              have g0 := fun q => (hf q).cell c0
              have g1 := fun q => (hf q).cell c1
              have g2 := fun q => (hf q).cell c2
              have Hf := Lib.hid hf
              have Hs := Lib.hid hs
              clear hf hs
              repeat (go_big_quiet_step ((first | (go_at_call 50; with_reducible exact Calls.ext_of (Hf.out _) Hs.out (Q1.out _)) | (go_at_call 50; with_reducible exact Calls.ext_of (Hf.out _) Hs.out (Q2.out _)))))
              refine wpQuiet_nil ?_
              intro W1 hW1
              clear g0 g1 g2
              go_wp2_with fail
              go_ret
              exact ⟨ret_bool (trip_false_head Hx.out.1 H0.out).symm, Hx.out.2.trans hW1⟩
            | succ j =>
              go_wp2_with fail
              refine wp_region_ext (by kernel_rfl) (by kernel_rfl) (fun f hf hs => ?_)
              have g0 := fun q => (hf q).cell c0
              have g1 := fun q => (hf q).cell c1
              have g2 := fun q => (hf q).cell c2
              have Hf := Lib.hid hf
              have Hs := Lib.hid hs
              clear hf hs
              repeat (go_big_quiet_step ((first | (go_at_call 50; with_reducible exact Calls.ext_of (Hf.out _) Hs.out (Q1.out _)) | (go_at_call 50; with_reducible exact Calls.ext_of (Hf.out _) Hs.out (Q2.out _)))))
              refine wpQuiet_nil ?_
              intro W1 hW1
              clear g0 g1 g2
              go_wp2_with fail
              go_ret
              exact ⟨ret_bool (trip_false_head Hx.out.1 H0.out).symm, Hx.out.2.trans hW1⟩
          | true =>
            rw [p2] at hq2
            have Q1 := Lib.hid hq1
            have Q2 := Lib.hid hq2
            clear hq1 hq2
            cases k with
            | zero =>
              have hk5 : kn ≠ 5 := by
                intro e
                rw [← Hkn.out] at e
                simp [headOk, p1, p2, e] at h0
              have hk5' : ((kn : Int) != 5) = true := by rw [bne_iff_ne]; omega
              clear h0 p1 p2
              have hn0 : (0 : Int) < (n : Int) := by omega
              rw [show ((0 : Nat) : Int) = 0 from rfl]
              simp only [Nat.zero_mul, Nat.add_zero] at c0 c1 c2
              go_wp2_with fail
              refine wp_region_ext (by kernel_rfl) (by kernel_rfl) (fun f hf hs => ?_)
              have g0 := fun q => (hf q).cell c0
              have g1 := fun q => (hf q).cell c1
              have g2 := fun q => (hf q).cell c2
              have Hf := Lib.hid hf
              have Hs := Lib.hid hs
              clear hf hs
              repeat (go_big_quiet_step ((first | (go_at_call 50; with_reducible exact Calls.ext_of (Hf.out _) Hs.out (Q1.out _)) | (go_at_call 50; with_reducible exact Calls.ext_of (Hf.out _) Hs.out (Q2.out _)))))
              refine wpQuiet_nil ?_
              intro W1 hW1
              clear g0 g1 g2
              go_wp2_with fail
              go_ret
              exact ⟨ret_bool (trip_false_head Hx.out.1 H0.out).symm, Hx.out.2.trans hW1⟩
            | succ j =>
              obtain ⟨b', off', y, ka', kn', kc', e', hyk, hb', d0, d1, d2, _, _, _⟩ := (Hl.out.ext Hx.out.2).get j (by omega)
              cases e'
              by_cases hd : x.day < y.day
              · clear h0 p1 p2 hyk
                go_wp2_with fail
                refine wp_region_ext (by kernel_rfl) (by kernel_rfl) (fun f hf hs => ?_)
                have g0 := fun q => (hf q).cell c0
                have g1 := fun q => (hf q).cell c1
                have g2 := fun q => (hf q).cell c2
                have g3 := fun q => (hf q).cell d0
                have g4 := fun q => (hf q).cell d1
                have g5 := fun q => (hf q).cell d2
                have Hf := Lib.hid hf
                have Hs := Lib.hid hs
                clear hf hs
                repeat (go_big_quiet_step ((first | (go_at_call 50; with_reducible exact Calls.ext_of (Hf.out _) Hs.out (Q1.out _)) | (go_at_call 50; with_reducible exact Calls.ext_of (Hf.out _) Hs.out (Q2.out _)))))
                refine wpQuiet_nil ?_
                intro W1 hW1
                clear g0 g1 g2 g3 g4 g5
                go_wp2_with fail
                go_ret
                exact ⟨ret_bool (trip_false_head Hx.out.1 H0.out).symm, Hx.out.2.trans hW1⟩
              · have hk5 : kn ≠ 5 := by
                  intro e
                  rw [← Hkn.out] at e
                  have : y.day ≤ x.day := by omega
                  simp [headOk, p1, p2, e, hyk, this] at h0
                have hk5' : ((kn : Int) != 5) = true := by rw [bne_iff_ne]; omega
                have hdB : decide (x.day < y.day) = false := by simpa using hd
                clear h0 p1 p2 hyk hd
                go_wp2_with fail
                refine wp_region_ext (by kernel_rfl) (by kernel_rfl) (fun f hf hs => ?_)
                have g0 := fun q => (hf q).cell c0
                have g1 := fun q => (hf q).cell c1
                have g2 := fun q => (hf q).cell c2
                have g3 := fun q => (hf q).cell d0
                have g4 := fun q => (hf q).cell d1
                have g5 := fun q => (hf q).cell d2
                have Hf := Lib.hid hf
                have Hs := Lib.hid hs
                clear hf hs
                repeat (go_big_quiet_step ((first | (go_at_call 50; with_reducible exact Calls.ext_of (Hf.out _) Hs.out (Q1.out _)) | (go_at_call 50; with_reducible exact Calls.ext_of (Hf.out _) Hs.out (Q2.out _)))))
                refine wpQuiet_nil ?_
                intro W1 hW1
                clear g0 g1 g2 g3 g4 g5
                go_wp2_with fail
                go_ret
                exact ⟨ret_bool (trip_false_head Hx.out.1 H0.out).symm, Hx.out.2.trans hW1⟩
      | true =>
        have H0 := Lib.hid h0
        simp only [headOk, Bool.and_eq_true, decide_eq_true_eq, Hkn.out] at h0
        obtain ⟨⟨⟨p1, p2⟩, p3⟩, p4⟩ := h0
        subst p4
        rw [p1] at hq1
        rw [p2] at hq2
        have Q1 := Lib.hid hq1
        have Q2 := Lib.hid hq2
        clear hq1 hq2 p1 p2
        cases k with
        | zero =>
          clear p3
          have hn0 : (0 : Int) < (n : Int) := by omega
          rw [show ((0 : Nat) : Int) = 0 from rfl]
          simp only [Nat.zero_mul, Nat.add_zero] at c0 c1 c2
          go_wp2_with fail
          refine wp_region_ext (by kernel_rfl) (by kernel_rfl) (fun f hf hs => ?_)
          have g0 := fun q => (hf q).cell c0
          have g1 := fun q => (hf q).cell c1
          have g2 := fun q => (hf q).cell c2
          have Hf := Lib.hid hf
          have Hs := Lib.hid hs
          clear hf hs
          repeat (go_big_quiet_step ((first | (go_at_call 50; with_reducible exact Calls.ext_of (Hf.out _) Hs.out (Q1.out _)) | (go_at_call 50; with_reducible exact Calls.ext_of (Hf.out _) Hs.out (Q2.out _)))))
          refine wpQuiet_nil ?_
          intro W1 hW1
          clear g0 g1 g2
          have W1x := Lib.hid (And.intro (Hx.out.2.trans hW1) (hW1.cell c2))
          go_wp2_with fail
          obtain ⟨W0, hW0⟩ : ∃ W0 : World, W0 = W1 := ⟨_, rfl⟩
          subst hW0
          have hW1s := hW1.size
          go_loopw [4] (fun i wi => ∃ g : Nat, g ≤ 5 ∧ i = .int .i64 g ∧ Ext W0 wi ∧ ∀ (j : Nat) (s : Span), j < g → x.keeps[j]? = some s → s.part = true) (fun i _ => 5 - (intOf i).toNat)
          case atStart => exact ⟨0, Nat.zero_le _, rfl, Ext.refl _, fun j y h => by omega⟩
          case round =>
            obtain ⟨g, hg, rfl, hxi, halli⟩ := hrel
            have Hi := Lib.hid (And.intro hxi halli)
            have e2 := hxi.cell W1x.out.2
            by_cases hgl : g < 5
            · obtain ⟨bs, os, sp, rfl, hsk, hbs, s0, s1⟩ := ((H3.out.ext hW1).ext hxi).get g hgl
              have Hsk := Lib.hid hsk
              have hcs := fun W => ordered_any sp.lo sp.hi 0 1000 W
              have hpe : properB sp.lo sp.hi 0 1000 = sp.part := rfl
              rw [hpe] at hcs
              clear hpe hsk hxi halli
              cases hsp : sp.part with
              | false =>
                rw [hsp] at hcs
                have Hcs := Lib.hid hcs
                have Hsp := Lib.hid hsp
                clear hcs hsp
                go_wp2_with (go_at_call 70; refine (Hcs.out _).mono ?_; rintro e w' ⟨rfl, hb⟩)
                go_ret
                exact ⟨ret_bool (trip_false_part Hx.out.1 Hsk.out Hsp.out).symm, W1x.out.1.trans (Hi.out.1.trans (by assumption))⟩
              | true =>
                rw [hsp] at hcs
                have Hcs := Lib.hid hcs
                have Hsp := Lib.hid hsp
                clear hcs hsp
                go_wp2_with (go_at_call 70; refine (Hcs.out _).mono ?_; rintro e w' ⟨rfl, hb⟩)
                go_roundw
                case rel => exact ⟨g + 1, by omega, by go_num, Hi.out.1.trans (by assumption), fun j y hj hy => by
                    rcases Nat.lt_or_ge j g with h | h
                    · exact Hi.out.2 j y h hy
                    · have e : j = g := by omega
                      subst e
                      have := Hsk.out
                      rw [hy] at this
                      cases this
                      exact Hsp.out⟩
                case measure => simp [intOf]; omega
            · have e : g = 5 := by omega
              subst e
              clear hxi halli
              go_wp2_with fail
              go_roundw
              case rel => exact ⟨0 + 1, by omega, by go_num, W1x.out.1.trans Hi.out.1, fun j y hj hy => by
                  rcases Nat.lt_or_ge j (0) with h | h
                  · exact Hall.out j y h hy
                  · have e : j = 0 := by omega
                    subst e
                    have := Hx.out.1
                    rw [hy] at this
                    cases this
                    refine ⟨H0.out, ?_⟩
                    rw [List.all_eq_true]
                    intro s hs
                    obtain ⟨i, hi⟩ := List.mem_iff_getElem?.1 hs
                    refine Hi.out.2 i s ?_ hi
                    have := getElem?_lt hi
                    have := Hkn.out
                    omega⟩
              case measure => simp [intOf]; omega
        | succ j0 =>
          obtain ⟨b', off', y, ka', kn', kc', e', hyk, hb', d0, d1, d2, _, _, _⟩ := (Hl.out.ext Hx.out.2).get j0 (by omega)
          cases e'
          have p3' : y.day ≤ x.day := by
            have p3' : (match fs[j0]? with | some g => decide (g.day ≤ x.day) | none => true) = true := p3
            rw [hyk] at p3'
            simpa using p3'
          have hdB : decide (x.day < y.day) = false := by simp; omega
          clear p3 hyk p3'
          rw [show ((j0 + 1 : Nat) : Int) = (j0 : Int) + 1 from by omega]
          have hj1 : decide ((j0 : Int) + 1 < (n : Int)) = true := by simp; omega
          go_wp2_with fail
          refine wp_region_ext (by kernel_rfl) (by kernel_rfl) (fun f hf hs => ?_)
          have g0 := fun q => (hf q).cell c0
          have g1 := fun q => (hf q).cell c1
          have g2 := fun q => (hf q).cell c2
          have g3 := fun q => (hf q).cell d0
          have g4 := fun q => (hf q).cell d1
          have g5 := fun q => (hf q).cell d2
          have Hf := Lib.hid hf
          have Hs := Lib.hid hs
          clear hf hs
          repeat (go_big_quiet_step ((first | (go_at_call 50; with_reducible exact Calls.ext_of (Hf.out _) Hs.out (Q1.out _)) | (go_at_call 50; with_reducible exact Calls.ext_of (Hf.out _) Hs.out (Q2.out _)))))
          refine wpQuiet_nil ?_
          intro W1 hW1
          clear g0 g1 g2 g3 g4 g5
          have W1x := Lib.hid (And.intro (Hx.out.2.trans hW1) (hW1.cell c2))
          go_wp2_with fail
          obtain ⟨W0, hW0⟩ : ∃ W0 : World, W0 = W1 := ⟨_, rfl⟩
          subst hW0
          have hW1s := hW1.size
          go_loopw [4] (fun i wi => ∃ g : Nat, g ≤ 5 ∧ i = .int .i64 g ∧ Ext W0 wi ∧ ∀ (j : Nat) (s : Span), j < g → x.keeps[j]? = some s → s.part = true) (fun i _ => 5 - (intOf i).toNat)
          case atStart => exact ⟨0, Nat.zero_le _, rfl, Ext.refl _, fun j y h => by omega⟩
          case round =>
            obtain ⟨g, hg, rfl, hxi, halli⟩ := hrel
            have Hi := Lib.hid (And.intro hxi halli)
            have e2 := hxi.cell W1x.out.2
            by_cases hgl : g < 5
            · obtain ⟨bs, os, sp, rfl, hsk, hbs, s0, s1⟩ := ((H3.out.ext hW1).ext hxi).get g hgl
              have Hsk := Lib.hid hsk
              have hcs := fun W => ordered_any sp.lo sp.hi 0 1000 W
              have hpe : properB sp.lo sp.hi 0 1000 = sp.part := rfl
              rw [hpe] at hcs
              clear hpe hsk hxi halli
              cases hsp : sp.part with
              | false =>
                rw [hsp] at hcs
                have Hcs := Lib.hid hcs
                have Hsp := Lib.hid hsp
                clear hcs hsp
                go_wp2_with (go_at_call 70; refine (Hcs.out _).mono ?_; rintro e w' ⟨rfl, hb⟩)
                go_ret
                exact ⟨ret_bool (trip_false_part Hx.out.1 Hsk.out Hsp.out).symm, W1x.out.1.trans (Hi.out.1.trans (by assumption))⟩
              | true =>
                rw [hsp] at hcs
                have Hcs := Lib.hid hcs
                have Hsp := Lib.hid hsp
                clear hcs hsp
                go_wp2_with (go_at_call 70; refine (Hcs.out _).mono ?_; rintro e w' ⟨rfl, hb⟩)
                go_roundw
                case rel => exact ⟨g + 1, by omega, by go_num, Hi.out.1.trans (by assumption), fun j y hj hy => by
                    rcases Nat.lt_or_ge j g with h | h
                    · exact Hi.out.2 j y h hy
                    · have e : j = g := by omega
                      subst e
                      have := Hsk.out
                      rw [hy] at this
                      cases this
                      exact Hsp.out⟩
                case measure => simp [intOf]; omega
            · have e : g = 5 := by omega
              subst e
              clear hxi halli
              go_wp2_with fail
              go_roundw
              case rel => exact ⟨(j0 + 1) + 1, by omega, by go_num, W1x.out.1.trans Hi.out.1, fun j y hj hy => by
                  rcases Nat.lt_or_ge j ((j0 + 1)) with h | h
                  · exact Hall.out j y h hy
                  · have e : j = (j0 + 1) := by omega
                    subst e
                    have := Hx.out.1
                    rw [hy] at this
                    cases this
                    refine ⟨H0.out, ?_⟩
                    rw [List.all_eq_true]
                    intro s hs
                    obtain ⟨i, hi⟩ := List.mem_iff_getElem?.1 hs
                    refine Hi.out.2 i s ?_ hi
                    have := getElem?_lt hi
                    have := Hkn.out
                    omega⟩
              case measure => simp [intOf]; omega
    · go_wp2_with fail
      go_ret
      refine ⟨ret_bool ?_, hx⟩
      symm
      refine trip_true (by rw [Hln.out]; exact Hin.out) fun j y hy => Hall.out j y ?_ hy
      have := getElem?_lt hy
      have := Hln.out
      omega
end Go.Proofs.Ytkbhmajcddmhnaa
