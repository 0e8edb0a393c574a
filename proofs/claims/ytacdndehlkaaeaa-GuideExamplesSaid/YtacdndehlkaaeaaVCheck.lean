/- Whether an area is valid. -/
import Derived.Test.YtacdndehlkaaeaaVGr2
import Derived.Test.YtacdndehlkaaeaaVGr1
namespace Go.Proofs.Ytacdndehlkaaeaa
open Go.RowKit
set_option linter.unusedVariables false
set_option linter.unusedSimpArgs false

def bx0 : List Half := box zs zs
def abAt (l : List Half) (j : Nat) : Bool := isAB l j (bx0.getD j zh).a (bx0.getD j zh).b
theorem head4_all {l : List Half} (h : ∀ j, j < 4 → abAt l j = true) : head4 l = true := by
  have h0 := h 0 (by omega)
  have h1 := h 1 (by omega)
  have h2 := h 2 (by omega)
  have h3 := h 3 (by omega)
  unfold head4
  simp only [abAt, bx0, box, List.getD_cons_zero, List.getD_cons_succ] at h0 h1 h2 h3
  rw [h0, h1, h2, h3]
  rfl
theorem head4_not {l : List Half} {j : Nat} (hj : j < 4) (h : abAt l j = false) : head4 l = false := by
  unfold head4
  match j, hj with
  | 0, _ => simp only [abAt, bx0, box, List.getD_cons_zero, List.getD_cons_succ] at h; rw [h]; simp
  | 1, _ => simp only [abAt, bx0, box, List.getD_cons_zero, List.getD_cons_succ] at h; rw [h]; simp
  | 2, _ => simp only [abAt, bx0, box, List.getD_cons_zero, List.getD_cons_succ] at h; rw [h]; simp
  | 3, _ => simp only [abAt, bx0, box, List.getD_cons_zero, List.getD_cons_succ] at h; rw [h]; simp
theorem heap_lt' {w : World} {b : Nat} {o : Obj} (h : w.heap[b]? = some o) : b < w.heap.size := (Array.getElem?_eq_some_iff.1 h).1
set_option maxRecDepth 100000 in
set_option maxHeartbeats 4000000 in
theorem check_any (a : Option Addr) (len cap : Nat) (l : List Half) (w : World) (hl : HalvesAt w a len l) (hlen : len ≤ 9223372036854775807) :
    Calls Try.prog 28 #[.agg #[.slice a len cap]] w fun e w' => e = .returned (.int .i64 (checkOf l)) ∧ Ext w w' := by
  have hll := hl.1
  have hf1 := fun W k hb => from1 4 40 len W k hb
  have hx1 : Ext w (w.alloc (.cells #[.slice a len cap] 24)) := (Ext.refl _).alloc _
  have hb1 := heap_alloc_new w (.cells #[.slice a len cap] 24)
  by_cases hr : 4 ≤ len ∧ len ≤ 40
  case neg =>
    have hin : inB (len : Int) 4 40 = false := by simp [inB]; omega
    have hc : checkOf l = 40 := by
      unfold checkOf areaOk
      rw [if_neg]
      simp only [Bool.and_eq_true, decide_eq_true_eq, not_and]
      omega
    rw [hin] at hf1
    rw [hc]
    have Hf1 := Lib.hid hf1
    have Hx1 := Lib.hid hx1
    clear hf1 hx1
    clear hl hll hin hc hb1
    go_enter Try.func28, Try.ntmps28
    go_wp2_with (go_at_call 66; refine (Hf1.out _ _ (alloc_at _ _ _ (by simp))).mono ?_; rintro e w1 ⟨rfl, hx2⟩)
    go_ret
    exact ⟨rfl, (Hx1.out.alloc _).trans hx2⟩
  case pos =>
    have hin : inB (len : Int) 4 40 = true := by simp [inB]; omega
    rw [hin] at hf1
    have hbox := fun W => box_any zs zs W ⟨by decide, by decide⟩ ⟨by decide, by decide⟩ ⟨by decide, by decide⟩ ⟨by decide, by decide⟩
    have hev := fun W (hW : Ext w W) => every_half0 67 (enters_of Try.func67 (by kernel_rfl) rfl) a len cap l halfOk W (hl.ext hW) (by omega) (fun o _ W' _ => half_any o W')
    have hc : checkOf l = if head4 l && l.all halfOk then 0 else 40 := by
      unfold checkOf areaOk
      rw [show decide (4 ≤ l.length) = true from decide_eq_true (by omega), show decide (l.length ≤ 40) = true from decide_eq_true (by omega)]
      rfl
    obtain ⟨R, hR⟩ : ∃ R, (if head4 l && l.all halfOk then (0 : Int) else 40) = R := ⟨_, rfl⟩
    rw [hc, hR]
    obtain ⟨lb, lo, _, rfl, _, _, _⟩ := hl.get 0 (by omega)
    have e0 : Span.val zs = .agg #[.int .i64 0, .int .i64 0] := rfl
    rw [e0] at hbox
    have hbl : (box zs zs).length = 4 := rfl
    have Hf1 := Lib.hid hf1
    have Hx1 := Lib.hid hx1
    have Hbox := Lib.hid hbox
    have Hev := Lib.hid hev
    have Hl := Lib.hid hl
    have Hll := Lib.hid hll
    have Hb1 := Lib.hid hb1
    have HR := Lib.hid hR
    clear hf1 hx1 hbox hev hl hll hb1 hR
    clear hin hc e0
    go_enter Try.func28, Try.ntmps28
    go_upto_region 4 with (first | (go_at_call 66; refine (Hf1.out _ _ (alloc_at _ _ _ (by simp))).mono ?_; rintro e w1 ⟨rfl, hx2⟩; have hx3 := (Hx1.out.alloc (.cells #[.int .i64 len] 3)).trans hx2; have hb3 := (((Ext.refl _).alloc _).trans hx2).heap Hb1.out; clear Hf1) | (go_at_call 58; refine (Hbox.out _).mono ?_; rintro e w2 ⟨bb, rfl, hbb, hx4, hh4⟩))
    have hx5 := hx3.trans hx4
    have hb5 := hx4.heap hb3
    have hbh := halves_block _ hh4
    rw [hbl] at hbh
    have Hx5 := Lib.hid hx5
    have Hb5 := Lib.hid hb5
    have Hbh := Lib.hid hbh
    clear hx5 hb5 hbh
    clear hx2 hx3 hb3 hx4 hh4 hbb
    go_loopw [16] (fun i wr => ∃ k : Nat, k ≤ 4 ∧ i = .int .i64 k ∧ Ext w2 wr ∧ ∀ j, j < k → abAt l j = true) (fun i _ => 4 - (intOf i).toNat)
    case atStart => exact ⟨0, Nat.zero_le _, rfl, Ext.refl _, fun j hj => by omega⟩
    case round =>
      obtain ⟨k, hk, rfl, hx, hall⟩ := hrel
      by_cases hlt : k < 4
      · have hltB : decide ((k : Int) < 4) = true := by simp; omega
        obtain ⟨_, _, h, e, hhk, _, c0, c1, c2⟩ := (Hbh.out.ext hx).get k hlt
        cases e
        simp only [Nat.zero_add] at c0 c1 c2
        obtain ⟨_, _, g, e, hgk, _, d0, d1, d2⟩ := (Hl.out.ext (Hx5.out.trans hx)).get k (by omega)
        cases e
        have hab : abAt l k = (g.a == h.a && g.b == h.b) := by
          have e1 : bx0.getD k zh = h := by unfold bx0; simp [List.getD, hhk]
          have e2 : l.getD k zh = g := by simp [List.getD, hgk]
          unfold abAt isAB
          rw [e1, e2]
        have hb6 := hx.heap Hb5.out
        have hx6 : Ext wr (wr.alloc (.cells #[.int .i64 h.a, .int .i64 h.b, .int .i64 h.c] 47)) := (Ext.refl _).alloc _
        have hn6 := heap_alloc_new wr (.cells #[.int .i64 h.a, .int .i64 h.b, .int .i64 h.c] 47)
        have hb7 := hx6.heap hb6
        have d0 := hx6.cell d0
        have d1 := hx6.cell d1
        have Hx := Lib.hid hx
        have Hall := Lib.hid hall
        have Hx6 := Lib.hid hx6
        clear hx hall hx6
        clear hhk hgk
        go_upto_region 6 with fail
        clear c0 c1 c2
        generalize wr.alloc (.cells #[.int .i64 h.a, .int .i64 h.b, .int .i64 h.c] 47) = W1 at *
        by_cases hA : h.a = g.a
        · have hAB : (h.a != g.a) = false := by rw [bne_eq_false_iff_eq]; exact hA
          by_cases hB : h.b = g.b
          · have hBB : (h.b != g.b) = false := by rw [bne_eq_false_iff_eq]; exact hB
            have hab' : abAt l k = true := by rw [hab, hA, hB]; simp
            have Hab' := Lib.hid hab'
            clear hab'
            clear hab hA hB
            refine wp_region_ext (by kernel_rfl) (by kernel_rfl) (fun f hf hs => ?_)
            have f0 := fun q => ((hf q).box hn6).1
            have f1 := fun q => ((hf q).box hb7).1
            have f2 := fun q => (hf q).cell d0
            have f3 := fun q => (hf q).cell d1
            clear hf hs
            repeat (go_big_quiet_step (fail))
            refine wpQuiet_nil ?_
            intro W8 hW8
            clear f0 f1 f2 f3
            go_wp2_with fail
            go_roundw
            case rel => exact ⟨k + 1, by omega, by go_num, (Hx.out.trans Hx6.out).trans hW8, fun j hj => by
              rcases Nat.lt_or_ge j k with h' | h'
              · exact Hall.out j h'
              · obtain rfl : j = k := by omega
                exact Hab'.out⟩
            case measure => simp [intOf]; omega
          · have hBB : (h.b != g.b) = true := by rw [bne_iff_ne]; exact hB
            have hab' : head4 l = false := head4_not hlt (by rw [hab]; simp; exact fun _ e => hB e.symm)
            have Hab' := Lib.hid hab'
            clear hab'
            clear hab hA hB
            refine wp_region_ext (by kernel_rfl) (by kernel_rfl) (fun f hf hs => ?_)
            have f0 := fun q => ((hf q).box hn6).1
            have f1 := fun q => ((hf q).box hb7).1
            have f2 := fun q => (hf q).cell d0
            have f3 := fun q => (hf q).cell d1
            clear hf hs
            repeat (go_big_quiet_step (fail))
            refine wpQuiet_nil ?_
            intro W8 hW8
            clear f0 f1 f2 f3
            go_wp2_with fail
            go_ret
            exact ⟨ret_int (by rw [← HR.out, Hab'.out]; rfl), ((Hx5.out.trans Hx.out).trans Hx6.out).trans hW8⟩
        · have hAB : (h.a != g.a) = true := by rw [bne_iff_ne]; exact hA
          have hab' : head4 l = false := head4_not hlt (by rw [hab]; simp; exact fun e _ => hA e.symm)
          have Hab' := Lib.hid hab'
          clear hab'
          clear hab hA
          refine wp_region_ext (by kernel_rfl) (by kernel_rfl) (fun f hf hs => ?_)
          have f0 := fun q => ((hf q).box hn6).1
          have f1 := fun q => ((hf q).box hb7).1
          have f2 := fun q => (hf q).cell d0
          have f3 := fun q => (hf q).cell d1
          clear hf hs
          repeat (go_big_quiet_step (fail))
          refine wpQuiet_nil ?_
          intro W8 hW8
          clear f0 f1 f2 f3
          go_wp2_with fail
          go_ret
          exact ⟨ret_int (by rw [← HR.out, Hab'.out]; rfl), ((Hx5.out.trans Hx.out).trans Hx6.out).trans hW8⟩
      · have hltB : decide ((k : Int) < 4) = false := by simp; omega
        obtain rfl : k = 4 := by omega
        have hh4 := head4_all hall
        have hb6 := hx.heap Hb5.out
        obtain ⟨f0, _⟩ := (Ext.refl wr).box hb6
        have hx7 := Hx5.out.trans hx
        have hev' := Hev.out wr hx7
        rw [show ((4 : Nat) : Int) = 4 from rfl]
        have Hx7 := Lib.hid hx7
        have Hh4 := Lib.hid hh4
        clear hx7 hh4
        clear hall Hev hx
        cases hal : l.all halfOk with
        | true =>
          rw [hal] at hev'
          have Hev' := Lib.hid hev'
          have Hal := Lib.hid hal
          clear hev' hal
          go_wp2_with (go_at_call 68; refine Hev'.out.mono ?_; rintro e w9 ⟨rfl, hx9⟩)
          go_ret
          exact ⟨ret_int (by rw [← HR.out, Hh4.out, Hal.out]; rfl), Hx7.out.trans hx9⟩
        | false =>
          rw [hal] at hev'
          have Hev' := Lib.hid hev'
          have Hal := Lib.hid hal
          clear hev' hal
          go_wp2_with (go_at_call 68; refine Hev'.out.mono ?_; rintro e w9 ⟨rfl, hx9⟩)
          go_ret
          exact ⟨ret_int (by rw [← HR.out, Hh4.out, Hal.out]; rfl), Hx7.out.trans hx9⟩
end Go.Proofs.Ytacdndehlkaaeaa
