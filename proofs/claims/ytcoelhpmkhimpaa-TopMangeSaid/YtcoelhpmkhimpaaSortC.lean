/- Meetings are sorted by their days (insertion sort: fewer than 20 of them). -/
import Derived.Test.YtcoelhpmkhimpaaBlk
import Derived.Test.YtcoelhpmkhimpaaHerdD
import Derived.Test.YtcoelhpmkhimpaaTreeC
import Derived.Deep.CutRange
import Derived.Deep.CutBlock
import Derived.Carry
namespace Go.Proofs.Ytcoelhpmkhimpaa
open Go.RowKit
set_option linter.unusedVariables false
set_option linter.unusedSimpArgs false
def meetRows (l : List Meet) : List (List Value) := l.map Meet.cells
theorem meetRows_len (l : List Meet) : (meetRows l).length = l.length := by simp [meetRows]
theorem meetRows_get {l : List Meet} {k : Nat} {m : Meet} (h : l[k]? = some m) : (meetRows l)[k]? = some m.cells := by simp [meetRows, h]
theorem meetRows_set (l : List Meet) (k : Nat) (m : Meet) : (meetRows l).set k m.cells = meetRows (l.set k m) := by simp [meetRows, List.map_set]
theorem RowBlock.set4 {w : World} {b : Nat} {t : TypeId} {l : List Meet} (h : RowBlock w b t 4 (meetRows l)) {k : Nat} (hk : k < l.length) (m : Meet) :
    RowBlock ((((w.setCell ⟨b, k * 4, none⟩ (.int .i64 m.a)).setCell ⟨b, k * 4 + 1, none⟩ (.int .i64 m.b)).setCell ⟨b, k * 4 + 2, none⟩ (.int .i64 m.day)).setCell ⟨b, k * 4 + 3, none⟩ (.bool m.close)) b t 4 (meetRows (l.set k m)) := by
  have hk' : k < (meetRows l).length := by rw [meetRows_len]; exact hk
  have e0 := meetRows_get (List.getElem?_eq_getElem hk)
  have h1 := h.set (k := k) (j := 0) e0 (by omega) (.int .i64 m.a)
  have h2 := h1.set (k := k) (j := 1) (List.getElem?_set_self hk') (by omega) (.int .i64 m.b)
  have h3 := h2.set (k := k) (j := 2) (List.getElem?_set_self (by simpa using hk')) (by omega) (.int .i64 m.day)
  have h4 := h3.set (k := k) (j := 3) (List.getElem?_set_self (by simpa using hk')) (by omega) (.bool m.close)
  simp only [List.set_set, Nat.add_zero] at h4
  rw [show (List.set (List.set (List.set (List.set l[k].cells 0 (.int .i64 m.a)) 1 (.int .i64 m.b)) 2 (.int .i64 m.day)) 3 (.bool m.close)) = m.cells from rfl, meetRows_set] at h4
  exact h4
def cmp3 (a b : Int) : Int := if a < b then -1 else if b < a then 1 else 0
theorem isNaN_any (x : Int) (w : World) : Calls Try.prog 116 #[.int .i64 x] w fun e w' => e = .returned (.bool false) ∧ w' = w := by
  have h : (x != x) = false := by simp
  go_enter Try.func116, Try.ntmps116
  go_wp2_with fail
  go_ret
  exact ⟨rfl, rfl⟩
theorem compare_any (a b : Int) (w : World) : Calls Try.prog 71 #[.int .i64 a, .int .i64 b] w fun e w' => e = .returned (.int .i64 (cmp3 a b)) ∧ w' = w := by
  have hn := isNaN_any
  unfold cmp3
  by_cases h1 : a < b
  · have b1 : decide (a < b) = true := decide_eq_true h1
    rw [if_pos h1]
    clear h1
    go_enter Try.func71, Try.ntmps71
    go_wp2_with (go_at_call 116; refine (hn _ _).mono ?_; rintro e v ⟨rfl, rfl⟩)
    go_ret
    exact ⟨rfl, rfl⟩
  · have b1 : decide (a < b) = false := decide_eq_false h1
    rw [if_neg h1]
    by_cases h2 : b < a
    · have b2 : decide (b < a) = true := decide_eq_true h2
      rw [if_pos h2]
      clear h1 h2
      go_enter Try.func71, Try.ntmps71
      go_wp2_with (go_at_call 116; refine (hn _ _).mono ?_; rintro e v ⟨rfl, rfl⟩)
      go_ret
      exact ⟨rfl, rfl⟩
    · have b2 : decide (b < a) = false := decide_eq_false h2
      rw [if_neg h2]
      clear h1 h2
      go_enter Try.func71, Try.ntmps71
      go_wp2_with (go_at_call 116; refine (hn _ _).mono ?_; rintro e v ⟨rfl, rfl⟩)
      go_ret
      exact ⟨rfl, rfl⟩
theorem cmpDay_any (m n : Meet) (w : World) : Calls Try.prog 70 #[m.val, n.val] w fun e w' => e = .returned (.int .i64 (cmp3 m.day n.day)) ∧ Ext w w' := by
  obtain ⟨a, b, d, c⟩ := m
  obtain ⟨a', b', d', c'⟩ := n
  have hc := compare_any
  unfold Meet.val
  simp only
  have Hc := Lib.hid hc
  clear hc
  go_enter Try.func70, Try.ntmps70
  go_wp2_with (go_at_call 71; refine (Hc.out _ _ _).mono ?_; rintro e v ⟨rfl, rfl⟩)
  go_ret
  exact ⟨rfl, ((Ext.refl _).alloc _).alloc _⟩
/-- the numbers, where m is put into the sorted ones -/
structure InsSt (L : List Meet) (k : Nat) (m : Meet) (Rr S : List Meet) : Prop where
  all : insRev (sortRev (L.take k)) m = S.reverse ++ insRev Rr m
  len : (sortRev (L.take k)).length = S.length + Rr.length
def insData (L : List Meet) (k : Nat) (m : Meet) (Rr S : List Meet) : List Meet := Rr.reverse ++ m :: (S ++ L.drop (k + 1))
def outData (L : List Meet) (k : Nat) : List Meet := sortM (L.take k) ++ L.drop k
theorem sortRev_len (l : List Meet) : (sortRev l).length = l.length := by
  have := sortM_len l
  unfold sortM at this
  simpa using this
theorem sortRev_snoc {L : List Meet} {k : Nat} {m : Meet} (h : L[k]? = some m) : sortRev (L.take (k + 1)) = insRev (sortRev (L.take k)) m := by
  unfold sortRev
  rw [List.take_add_one, h, Option.toList_some, List.foldl_append]
  rfl
theorem ins_start {L : List Meet} {k : Nat} {m : Meet} (h : L[k]? = some m) : InsSt L k m (sortRev (L.take k)) [] ∧ insData L k m (sortRev (L.take k)) [] = outData L k := by
  have hk := (List.getElem?_eq_some_iff.1 h).1
  refine ⟨⟨rfl, by simp⟩, ?_⟩
  unfold insData outData sortM
  rw [List.nil_append, List.drop_eq_getElem_cons hk]
  have := List.getElem?_eq_getElem hk
  rw [h] at this
  rw [Option.some.inj this]
theorem ins_stop {L : List Meet} {k : Nat} {m : Meet} {Rr S : List Meet} (h : L[k]? = some m) (st : InsSt L k m Rr S) (he : ∀ x r, Rr = x :: r → ¬m.day < x.day) : insData L k m Rr S = outData L (k + 1) := by
  have hi : insRev Rr m = m :: Rr := by
    cases Rr with
    | nil => rfl
    | cons x r =>
      unfold insRev
      rw [if_neg (he x r rfl)]
  unfold insData outData sortM
  rw [sortRev_snoc h, st.all, hi]
  simp
theorem ins_swap {L : List Meet} {k : Nat} {m x : Meet} {Rr S : List Meet} (st : InsSt L k m (x :: Rr) S) (he : m.day < x.day) :
    InsSt L k m Rr (x :: S) ∧ ((insData L k m (x :: Rr) S).set (Rr.length + 1) x).set Rr.length m = insData L k m Rr (x :: S) := by
  refine ⟨⟨?_, ?_⟩, ?_⟩
  · rw [st.all]
    simp only [insRev, if_pos he, List.reverse_cons, List.append_assoc, List.singleton_append]
  · have := st.len
    simp at this ⊢
    omega
  · unfold insData
    simp only [List.reverse_cons, List.append_assoc, List.singleton_append]
    rw [List.set_append_right (s := Rr.reverse) _ _ (by simp), List.set_append_right (s := Rr.reverse) _ _ (by simp)]
    simp
theorem ins_get {L : List Meet} {k : Nat} {m : Meet} {Rr S : List Meet} : (insData L k m Rr S)[Rr.length]? = some m := by
  unfold insData
  rw [List.getElem?_append_right (by simp)]
  simp
theorem ins_get' {L : List Meet} {k : Nat} {m x : Meet} {Rr S : List Meet} : (insData L k m (x :: Rr) S)[Rr.length]? = some x := by
  unfold insData
  simp only [List.reverse_cons, List.append_assoc, List.singleton_append]
  rw [List.getElem?_append_right (by simp)]
  simp
theorem ins_len {L : List Meet} {k : Nat} {m : Meet} {Rr S : List Meet} (h : L[k]? = some m) (st : InsSt L k m Rr S) : (insData L k m Rr S).length = L.length := by
  have hk := (List.getElem?_eq_some_iff.1 h).1
  have h1 := st.len
  rw [sortRev_len, List.length_take] at h1
  unfold insData
  simp
  omega
set_option maxRecDepth 100000 in
set_option maxHeartbeats 4000000 in
theorem insSort_any (g n cap : Nat) (L : List Meet) (w : World) (hB : RowBlock w g 74 4 (meetRows L)) (hn : L.length = n) (hn1 : 1 ≤ n) (hn2 : n ≤ 1000) (hc : n ≤ cap) :
    Calls Try.prog 144 #[.slice (some ⟨g, 0, none⟩) n cap, .int .i64 0, .int .i64 n, .func (.func 70) #[] #[]] w fun e w' => (∃ v, e = .returned v) ∧ RowBlock w' g 74 4 (meetRows (sortM L)) ∧ But (fun b => b = g) w w' := by
  have hcm := cmpDay_any
  have hst := fun k m (h : L[k]? = some m) => ins_start h
  have HB := Lib.hid hB
  have Hcm := Lib.hid hcm
  have Hst := Lib.hid hst
  clear hB hcm hst
  go_enter Try.func144, Try.ntmps144
  go_upto_region 1 with fail
  go_loopw [8] (fun i wr => ∃ k : Nat, i = .int .i64 k ∧ 1 ≤ k ∧ k ≤ n ∧ RowBlock wr g 74 4 (meetRows (outData L k)) ∧ But (fun b => b = g) w wr) (fun i _ => n - (intOf i).toNat)
  case atStart =>
    refine ⟨1, rfl, Nat.le_refl _, hn1, ?_, But.refl _ _⟩
    have : outData L 1 = L := by
      unfold outData
      cases L with
      | nil => simp at hn; omega
      | cons x r => rfl
    rw [this]
    exact HB.out
  case round =>
    obtain ⟨k, rfl, hk1, hkn, hB1, hbu⟩ := hrel
    by_cases hlt : k < n
    · have hltB : decide ((k : Int) < (n : Int)) = true := by simp; omega
      obtain ⟨m, hm⟩ : ∃ m, L[k]? = some m := ⟨_, List.getElem?_eq_getElem (by omega)⟩
      obtain ⟨st0, hd0⟩ := Hst.out k m hm
      rw [← hd0] at hB1
      have hl0 : (sortRev (L.take k)).length = k := by rw [sortRev_len, List.length_take]; omega
      have HB1 := Lib.hid hB1
      have Hbu := Lib.hid hbu
      have St0 := Lib.hid st0
      have Hm := Lib.hid hm
      clear hB1 hbu st0 hm
      go_upto_region 4 with fail
      go_loopw [9] (fun i W => ∃ (Rr S : List Meet), i = .int .i64 (Rr.length : Nat) ∧ InsSt L k m Rr S ∧ RowBlock W g 74 4 (meetRows (insData L k m Rr S)) ∧ But (fun b => b = g) w W) (fun i _ => (intOf i).toNat)
      case atStart => exact ⟨_, [], by rw [hl0], St0.out, HB1.out, Hbu.out⟩
      case round =>
        obtain ⟨Rr, S, rfl, st, hBr, hbr⟩ := hrel
        have hli := ins_len Hm.out st
        rw [hn] at hli
        cases Rr with
        | nil =>
          have hD := ins_stop Hm.out st (fun x r h => by cases h)
          rw [hD] at hBr
          clear st hli
          have HBr := Lib.hid hBr
          have Hbr := Lib.hid hbr
          clear hBr hbr
          rw [show (([] : List Meet).length : Int) = 0 from rfl]
          go_upto_region 4 with fail
          refine wp_region_tree (.take [0, 1, 2, 3, 4, 5, 6, 7, 8, 9, 10, 11, 12, 13] (.one 14 (.take [15, 16] .done))) (Ext wr) _ (by kernel_rfl) (by kernel_rfl) rfl ((Ext.refl _).drew) ?_
          intro ι _ f hf hs
          have HS := Lib.hid hs
          clear hf hs
          simp only [treeOf, oneOp, twoOp, opsOf, consOp, List.getElem?_toArray, List.getElem?_cons_succ, List.getElem?_cons_zero]
          refine wpOT_take ?_
          repeat (go_big_quiet_step (fail))
          refine wpQuiet_nil ?_
          refine wpOT_one ?_
          go_wp2_with fail
          refine ⟨HS.out _ (Ext.refl _).drew, ?_⟩
          refine wpOT_take ?_
          repeat (go_big_quiet_step (fail))
          refine wpQuiet_nil ?_
          refine wpOT_done ?_
          clear HS
          have hx1 : Ext wr wr.drew := (Ext.refl _).drew
          have hB2 := HBr.out.ext hx1
          have hb2 := Hbr.out.trans (hx1.but _)
          have HB2 := Lib.hid hB2
          have Hb2 := Lib.hid hb2
          clear hB2 hb2
          clear hx1
          go_wp2_with fail
          go_roundw
          case rel => exact ⟨k + 1, by go_num, by omega, by omega, HB2.out, Hb2.out⟩
          case measure => simp [intOf]; omega
        | cons x r =>
          have hlen : (x :: r).length = r.length + 1 := rfl
          have hk1 := st.len
          rw [sortRev_len, List.length_take] at hk1
          have hg1 := @ins_get L k m (x :: r) S
          have hg2 := @ins_get' L k m x r S
          rw [hlen] at hg1
          have hjn : r.length + 1 < n := by
            have := (List.getElem?_eq_some_iff.1 hg1).1
            omega
          obtain ⟨j, hj⟩ : ∃ j, r.length = j := ⟨_, rfl⟩
          rw [hj] at hg1 hg2 hjn
          have c0 := hBr.cell (k := j + 1) (j := 0) (meetRows_get hg1) rfl
          have c1 := hBr.cell (k := j + 1) (j := 1) (meetRows_get hg1) rfl
          have c2 := hBr.cell (k := j + 1) (j := 2) (meetRows_get hg1) rfl
          have c3 := hBr.cell (k := j + 1) (j := 3) (meetRows_get hg1) rfl
          have d0 := hBr.cell (k := j) (j := 0) (meetRows_get hg2) rfl
          have d1 := hBr.cell (k := j) (j := 1) (meetRows_get hg2) rfl
          have d2 := hBr.cell (k := j) (j := 2) (meetRows_get hg2) rfl
          have d3 := hBr.cell (k := j) (j := 3) (meetRows_get hg2) rfl
          simp only [Nat.add_zero] at c0 d0
          have fz := fun W (hW : Ext wr W) q => (hBr.ext hW).free q
          have hcm1 := fun W => Hcm.out m x W
          have hswap := fun h => @ins_swap L k m x r S st h
          have hstop := fun (h : ¬m.day < x.day) => ins_stop Hm.out st (fun x' r' e => by cases e; exact h)
          have hj0 : decide (0 < (j : Int) + 1) = true := decide_eq_true (by omega)
          have hj1 : decide ((j : Int) + 1 < (n : Int)) = true := by simp; omega
          have hj2 : decide ((j : Int) < (n : Int)) = true := by simp; omega
          have hj3 : (j : Int) + 1 - 1 = (j : Int) := by omega
          have hj4 : ((j : Int) + 1).toNat = j + 1 := by omega
          rw [show (((x :: r).length : Nat) : Int) = (j : Int) + 1 by rw [hlen, hj]; omega]
          have HDl := Lib.hid hli
          have HgX := Lib.hid hg2
          clear hlen hg1 hg2 hk1 hli
          obtain ⟨ma, mb, md, mc⟩ := m
          obtain ⟨xa, xb, xd, xc⟩ := x
          unfold Meet.val at hcm1
          simp only at c0 c1 c2 c3 d0 d1 d2 d3 hcm1 hswap hstop
          have HBr := Lib.hid hBr
          have Hbr := Lib.hid hbr
          have Hcm1 := Lib.hid hcm1
          have Hswap := Lib.hid hswap
          have Hstop := Lib.hid hstop
          have St := Lib.hid st
          have Fz := Lib.hid fz
          clear hBr hbr hcm1 hswap hstop st fz
          by_cases hlt2 : md < xd
          · have hcB : decide (cmp3 md xd < 0) = true := by unfold cmp3; rw [if_pos hlt2]; rfl
            obtain ⟨st2, hset⟩ := Hswap.out hlt2
            rw [hj] at hset
            clear hlt2
            go_upto_region 4 with fail
            refine wp_region_tree (.take [0, 1, 2, 3, 4, 5, 6, 7, 8, 9, 10, 11, 12, 13] (.one 14 (.take [15, 16] .done))) (Ext wr) _ (by kernel_rfl) (by kernel_rfl) rfl ((Ext.refl _).drew) ?_
            intro ι _ f hf hs
            have f0 := fun q => (hf q).cell c0
            have f1 := fun q => (hf q).cell c1
            have f2 := fun q => (hf q).cell c2
            have f3 := fun q => (hf q).cell c3
            have g0 := fun q => (hf q).cell d0
            have g1 := fun q => (hf q).cell d1
            have g2 := fun q => (hf q).cell d2
            have g3 := fun q => (hf q).cell d3
            have HS := Lib.hid hs
            clear hf hs
            simp only [treeOf, oneOp, twoOp, opsOf, consOp, List.getElem?_toArray, List.getElem?_cons_succ, List.getElem?_cons_zero]
            refine wpOT_take ?_
            repeat (go_big_quiet_step (fail))
            refine wpQuiet_nil ?_
            clear f0 f1 f2 f3 g0 g1 g2 g3
            refine wpOT_one ?_
            go_wp2_with fail
            refine (Hcm1.out _).mono ?_
            rintro e w1 ⟨rfl, hx1⟩
            go_wp2_with fail
            have hx2 := (Ext.refl wr).drew.trans hx1
            refine ⟨HS.out _ hx2, ?_⟩
            refine wpOT_take ?_
            repeat (go_big_quiet_step (fail))
            refine wpQuiet_nil ?_
            refine wpOT_done ?_
            clear HS hx1
            have c0 := hx2.cell c0
            have c1 := hx2.cell c1
            have c2 := hx2.cell c2
            have c3 := hx2.cell c3
            have d0 := hx2.cell d0
            have d1 := hx2.cell d1
            have d2 := hx2.cell d2
            have d3 := hx2.cell d3
            have hBr2 := HBr.out.ext hx2
            have hbr2 := Hbr.out.trans (hx2.but _)
            have St2 := Lib.hid st2
            have Hset := Lib.hid hset
            have HBr2 := Lib.hid hBr2
            have Hbr2 := Lib.hid hbr2
            have C0 := Lib.hid c0
            have C1 := Lib.hid c1
            have C2 := Lib.hid c2
            have C3 := Lib.hid c3
            have D0 := Lib.hid d0
            have D1 := Lib.hid d1
            have D2 := Lib.hid d2
            have D3 := Lib.hid d3
            clear st2 hset hBr2 hbr2 c0 c1 c2 c3 d0 d1 d2 d3
            clear hx2 hcB
            go_upto_region 6 with fail
            refine wp_region_plan (.take [0, 1, 5, 6, 7, 8, 9, 10, 11, 12, 13, 14] (.free [2, 3, 4] (.fin (.one 15 (.take [16] (.one 17 .done)))))) [15, 16, 17] (Ext w1) _ (by kernel_rfl) (by kernel_rfl) rfl (EC.ext w1) ((Ext.refl _).drew) ?_
            simp only [planOf, treeOf, oneOp, twoOp, opsOf, consOp, callOC, oneOC, twoOC, List.getElem?_toArray, List.getElem?_cons_succ, List.getElem?_cons_zero]
            intro ι _ f hf
            have f0 := fun q => (hf q).cell C0.out
            have f1 := fun q => (hf q).cell C1.out
            have f2 := fun q => (hf q).cell C2.out
            have f3 := fun q => (hf q).cell C3.out
            have g0 := fun q => (hf q).cell D0.out
            have g1 := fun q => (hf q).cell D1.out
            have g2 := fun q => (hf q).cell D2.out
            have g3 := fun q => (hf q).cell D3.out
            clear hf
            repeat (go_big_quiet_step (fail))
            refine wpQuiet_nil ?_
            clear f0 f1 f2 f3 g0 g1 g2 g3
            refine wpOC_free ?_
            repeat (go_big_quiet_step (fail))
            refine wpQuiet_nil ?_
            intro W3 hW3
            have hBr3 := HBr2.out.ext hW3
            have hbr3 := Hbr2.out.trans (hW3.but _)
            have z0 := hBr3.free
            have zg := hBr3.lt
            have c0 := hW3.cell C0.out
            have c1 := hW3.cell C1.out
            have c2 := hW3.cell C2.out
            have c3 := hW3.cell C3.out
            have hBr4 := hBr3.set4 (k := j + 1) (by rw [HDl.out]; exact hjn) ⟨xa, xb, xd, xc⟩
            have hg4 : ((insData L k ⟨ma, mb, md, mc⟩ (⟨xa, xb, xd, xc⟩ :: r) S).set (j + 1) ⟨xa, xb, xd, xc⟩)[j]? = some ⟨xa, xb, xd, xc⟩ := by
              rw [List.getElem?_set_ne (by omega)]
              exact HgX.out
            have e0 := hBr4.cell (k := j) (j := 0) (meetRows_get hg4) rfl
            have e1 := hBr4.cell (k := j) (j := 1) (meetRows_get hg4) rfl
            have e2 := hBr4.cell (k := j) (j := 2) (meetRows_get hg4) rfl
            have e3 := hBr4.cell (k := j) (j := 3) (meetRows_get hg4) rfl
            have z4 := hBr4.free
            simp only [Nat.add_zero] at e0
            have hBr5 := hBr4.set4 (k := j) (by rw [List.length_set, HDl.out]; omega) ⟨ma, mb, md, mc⟩
            rw [Hset.out] at hBr5
            have hbr4 := (((hbr3.trans (But.setCell (i := (j + 1) * 4) _ (.int .i64 xa) rfl)).trans (But.setCell (i := (j + 1) * 4 + 1) _ (.int .i64 xb) rfl)).trans (But.setCell (i := (j + 1) * 4 + 2) _ (.int .i64 xd) rfl)).trans (But.setCell (i := (j + 1) * 4 + 3) _ (.bool xc) rfl)
            simp only at hBr4 hBr5 e0 e1 e2 e3
            clear hW3 hBr3 hg4 hbr3
            have HBr4 := Lib.hid hBr4
            have Hbr4 := Lib.hid hbr4
            have E0 := Lib.hid e0
            have E1 := Lib.hid e1
            have E2 := Lib.hid e2
            have E3 := Lib.hid e3
            have Z4 := Lib.hid z4
            have HBr5 := Lib.hid hBr5
            clear hBr4 hbr4 e0 e1 e2 e3 z4 hBr5
            refine wpOT_one ?_
            go_wp2_with fail
            generalize (((W3.setCell ⟨g, (j + 1) * 4, none⟩ (.int .i64 xa)).setCell ⟨g, (j + 1) * 4 + 1, none⟩ (.int .i64 xb)).setCell ⟨g, (j + 1) * 4 + 2, none⟩ (.int .i64 xd)).setCell ⟨g, (j + 1) * 4 + 3, none⟩ (.bool xc) = W4 at *
            refine wpOT_take ?_
            repeat (go_big_quiet_step (fail))
            refine wpQuiet_nil ?_
            have e0 := E0.out
            have e1 := E1.out
            have e2 := E2.out
            have e3 := E3.out
            have z4 := Z4.out
            have zg4 := HBr4.out.lt
            have hbr5 := (((Hbr4.out.trans (But.setCell (i := j * 4) _ (.int .i64 ma) rfl)).trans (But.setCell (i := j * 4 + 1) _ (.int .i64 mb) rfl)).trans (But.setCell (i := j * 4 + 2) _ (.int .i64 md) rfl)).trans (But.setCell (i := j * 4 + 3) _ (.bool mc) rfl)
            have Hbr5 := Lib.hid hbr5
            clear hbr5
            refine wpOT_one ?_
            go_wp2_with fail
            refine wpOT_done ?_
            generalize (((W4.setCell ⟨g, j * 4, none⟩ (.int .i64 ma)).setCell ⟨g, j * 4 + 1, none⟩ (.int .i64 mb)).setCell ⟨g, j * 4 + 2, none⟩ (.int .i64 md)).setCell ⟨g, j * 4 + 3, none⟩ (.bool mc) = W5 at *
            clear e0 e1 e2 e3 z4
            go_wp2_with fail
            go_roundw
            case rel => exact ⟨r, _, by rw [hj], St2.out, HBr5.out, Hbr5.out⟩
            case measure => first | (simp [intOf]; done) | (simp [intOf]; omega)
          · have hcB : decide (cmp3 md xd < 0) = false := by
              unfold cmp3
              rw [if_neg hlt2]
              split <;> rfl
            have hD := Hstop.out hlt2
            clear hlt2
            go_upto_region 4 with fail
            refine wp_region_tree (.take [0, 1, 2, 3, 4, 5, 6, 7, 8, 9, 10, 11, 12, 13] (.one 14 (.take [15, 16] .done))) (Ext wr) _ (by kernel_rfl) (by kernel_rfl) rfl ((Ext.refl _).drew) ?_
            intro ι _ f hf hs
            have f0 := fun q => (hf q).cell c0
            have f1 := fun q => (hf q).cell c1
            have f2 := fun q => (hf q).cell c2
            have f3 := fun q => (hf q).cell c3
            have g0 := fun q => (hf q).cell d0
            have g1 := fun q => (hf q).cell d1
            have g2 := fun q => (hf q).cell d2
            have g3 := fun q => (hf q).cell d3
            have HS := Lib.hid hs
            clear hf hs
            simp only [treeOf, oneOp, twoOp, opsOf, consOp, List.getElem?_toArray, List.getElem?_cons_succ, List.getElem?_cons_zero]
            refine wpOT_take ?_
            repeat (go_big_quiet_step (fail))
            refine wpQuiet_nil ?_
            clear f0 f1 f2 f3 g0 g1 g2 g3
            refine wpOT_one ?_
            go_wp2_with fail
            refine (Hcm1.out _).mono ?_
            rintro e w1 ⟨rfl, hx1⟩
            go_wp2_with fail
            have hx2 := (Ext.refl wr).drew.trans hx1
            refine ⟨HS.out _ hx2, ?_⟩
            refine wpOT_take ?_
            repeat (go_big_quiet_step (fail))
            refine wpQuiet_nil ?_
            refine wpOT_done ?_
            clear HS hx1
            have hB2 := HBr.out.ext hx2
            rw [hD] at hB2
            have hb2 := Hbr.out.trans (hx2.but _)
            have HB2 := Lib.hid hB2
            have Hb2 := Lib.hid hb2
            clear hB2 hb2
            clear hx2 hD
            go_wp2_with fail
            go_roundw
            case rel => exact ⟨k + 1, by go_num, by omega, by omega, HB2.out, Hb2.out⟩
            case measure => simp [intOf]; omega
    · have hltB : decide ((k : Int) < (n : Int)) = false := by simp; omega
      have hfin : outData L k = sortM L := by
        unfold outData
        rw [List.take_of_length_le (by omega), List.drop_of_length_le (by omega), List.append_nil]
      rw [hfin] at hB1
      have HB1 := Lib.hid hB1
      have Hbu := Lib.hid hbu
      clear hB1 hbu
      go_wp2_with fail
      go_end0
      exact ⟨⟨_, rfl⟩, HB1.out, Hbu.out⟩
end Go.Proofs.Ytcoelhpmkhimpaa
