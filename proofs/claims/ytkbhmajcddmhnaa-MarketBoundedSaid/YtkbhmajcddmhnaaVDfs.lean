/- Contract: Round's closure. -/
import Derived.Test.YtkbhmajcddmhnaaVRd
import Derived.Test.YtkbhmajcddmhnaaVProduct
import Derived.Test.YtkbhmajcddmhnaaVGr5
import Derived.Test.YtkbhmajcddmhnaaVGr7
namespace Go.Proofs.Ytkbhmajcddmhnaa
open Go.RowKit
set_option linter.unusedVariables false
set_option linter.unusedSimpArgs false

def gF (l : List Offer) (ls : List Int) (p : Int) : Value := .bool (decide (p ∈ gives l ls))
/-- what is handed back: true, and the list lies in l; or false, and all is as before -/
def MorePost (l : List Offer) (w0 : World) (bm bs : Nat) (W : World) (a1 a2 a3 : Value) (ls : List Int) (r : Option (List Int)) (e : Ending) (w' : World) : Prop :=
  match r with
  | some x => e = .returned (.bool true) ∧ ∃ l2 l3 vl vu vf F, Rd w0 bm bs w' x l2 l3 vl vu vf F
  | none => e = .returned (.bool false) ∧ ∃ vl vu vf, Rd w0 bm bs w' ls (ls.map (unitsOf l)) (ls.map (loOf l)) vl vu vf (gF l ls) ∧ Fr w0 W a1 a2 a3 w' vl vu vf
theorem offerAt_get {l : List Offer} {k : Int} (h0 : 0 ≤ k) (h1 : k < (l.length : Int)) : ∃ j : Nat, k = j ∧ j < l.length ∧ l[j]? = some (offerAt l k) := by
  obtain ⟨o, ho⟩ : ∃ o, l[k.toNat]? = some o := ⟨_, List.getElem?_eq_getElem (by omega)⟩
  exact ⟨k.toNat, by omega, by omega, by rw [ho]; simp [offerAt, List.getD, ho]⟩
theorem units_bd {l : List Offer} (ho : offersOk l = true) {ls : List Int} (hb : ∀ k ∈ ls, 0 ≤ k ∧ k < (l.length : Int)) : (∀ x ∈ ls.map (unitsOf l), 1 ≤ x ∧ x ≤ 50) ∧ ∀ x ∈ ls.map (loOf l), 1 ≤ x ∧ x ≤ 50 := by
  constructor
  all_goals
    intro x hx
    obtain ⟨k, hk, rfl⟩ := List.mem_map.1 hx
    obtain ⟨h0, h1⟩ := hb k hk
    obtain ⟨j, rfl, hj, hoj⟩ := offerAt_get h0 h1
    obtain ⟨_, _, _, _, _, _, _, a1, a2, a3, a4, a5, _⟩ := offer_bounds ho hoj
    simp only [unitsOf, loOf]
    omega

set_option maxRecDepth 100000 in
set_option maxHeartbeats 16000000 in
theorem more_any (a : Option Addr) (n cap : Nat) (l : List Offer) (w0 : World) (bm bs mp : Nat) (sa : Option Addr) (sn sc : Nat) (stall : List Int)
    (hl : OffersAt w0 a n l) (ho : offersOk l = true) (hst : IntsAt .i64 w0 sa sn stall) (hsb : ∀ k ∈ stall, 0 ≤ k ∧ k < (n : Int)) (hsn : sn ≤ 10)
    (hbm : w0.heap[bm]? = some (.cells #[.pointer (some ⟨mp, 0, none⟩)] 101 (0, 0))) (hmp : w0.cell? ⟨mp, 0, none⟩ = some (.slice a n cap)) (hbs : w0.heap[bs]? = some (.cells #[.slice sa sn sc] 24 (0, 0))) :
    ∀ (st : Nat) (ls : List Int) (W : World) (vl vu vf : Value), ls.length + st ≤ 5 → (st = 0 → 0 < ls.length) → (∀ k ∈ ls, 0 ≤ k ∧ k < (n : Int)) → Rd w0 bm bs W ls (ls.map (unitsOf l)) (ls.map (loOf l)) vl vu vf (gF l ls) →
    Calls Try.prog 63 #[.int .i64 st, .pointer (some ⟨bm, 0, none⟩), .pointer (some ⟨w0.heap.size + 2, 0, none⟩), .pointer (some ⟨w0.heap.size + 4, 0, none⟩), .pointer (some ⟨w0.heap.size + 3, 0, none⟩), .pointer (some ⟨bs, 0, none⟩), .pointer (some ⟨w0.heap.size + 1, 0, none⟩), .pointer (some ⟨w0.heap.size + 5, 0, none⟩)] W (MorePost l w0 bm bs W vl vu vf ls (dfs l stall st ls)) := by
  have hnl := hl.1
  have hol := offers_len ho
  have hn10 : n ≤ 10 := by omega
  have hbml := heap_lt hbm
  have hbsl := heap_lt hbs
  have hmpl := block_lt_of_cell hmp
  intro st
  induction st with
  | zero =>
    intro ls W vl vu vf hlen hne hlb hr
    have hne := hne rfl
    obtain ⟨m, hm⟩ : ∃ m, ls.length = m + 1 := ⟨ls.length - 1, by omega⟩
    have hu := units_bd ho (ls := ls) (by rw [hnl]; exact hlb)
    obtain ⟨k1, hk1⟩ : ∃ k, ls[0]? = some k := ⟨_, List.getElem?_eq_getElem (by omega)⟩
    obtain ⟨k2, hk2⟩ : ∃ k, ls[m]? = some k := ⟨_, List.getElem?_eq_getElem (by omega)⟩
    obtain ⟨p0, p1⟩ := hlb k1 (List.mem_of_getElem? hk1)
    obtain ⟨r0, r1⟩ := hlb k2 (List.mem_of_getElem? hk2)
    rw [← hnl] at p1 r1
    obtain ⟨j1, rfl, hj1, ho1⟩ := offerAt_get p0 p1
    obtain ⟨j2, rfl, hj2, ho2⟩ := offerAt_get r0 r1
    rw [hnl] at hj1 hj2
    obtain ⟨la, lc, rfl, _, hlc, hlm, hli⟩ := ints_of_owns hr.o1
    obtain ⟨ua, uc, rfl, _, huc, hum, hui⟩ := ints_of_owns hr.o2
    obtain ⟨fa, fc, rfl, _, hfc, hfm, hfi⟩ := ints_of_owns hr.o3
    obtain ⟨lb, lo, x1, rfl, hx1, hlb1, q1⟩ := hli.get 0 (by omega)
    rw [Nat.add_zero] at q1
    obtain ⟨lb', lo', x2, e', hx2, _, q2⟩ := hli.get m (by omega)
    cases e'
    rw [hk1] at hx1
    cases hx1
    rw [hk2] at hx2
    cases hx2
    obtain ⟨ob, oo, o1, rfl, ho1', hob, e0, e1, e2, e3, e4, e5, e6, e7⟩ := (hl.ext hr.ext).get j1 hj1
    obtain ⟨ob', oo', o2, e', ho2', _, d0, d1, d2, d3, d4, d5, d6, d7⟩ := (hl.ext hr.ext).get j2 hj2
    cases e'
    have h1e : o1 = offerAt l j1 := by rw [ho1] at ho1'; cases ho1'; rfl
    have h2e : o2 = offerAt l j2 := by rw [ho2] at ho2'; cases ho2'; rfl
    have hG1 : giveOf l (ls.getD 0 0) = o1.give := by simp [giveOf, List.getD, hk1, h1e]
    have hG2 : getOf l (ls.getD (ls.length - 1) 0) = o2.get := by rw [hm]; simp [getOf, List.getD, hk2, h2e]
    have hcb : closeB l ls = (o1.give == o2.get && decide (listProd (ls.map (unitsOf l)) < listProd (ls.map (loOf l)))) := by unfold closeB; rw [hG1, hG2]
    have hp1 := fun W' (hW : Ext W W') => product_any ua (ls.map (unitsOf l)).length uc (ls.map (unitsOf l)) W' (hui.ext hW) (by simp; omega) hu.1
    have hp2 := fun W' (hW : Ext W W') => product_any fa (ls.map (loOf l)).length fc (ls.map (loOf l)) W' (hfi.ext hW) (by simp; omega) hu.2
    have hdf : dfs l stall 0 ls = if closeB l ls = true then some ls else none := rfl
    obtain ⟨G1, hg1⟩ : ∃ G, o1.give = G := ⟨_, rfl⟩
    obtain ⟨G2, hg2⟩ : ∃ G, o2.get = G := ⟨_, rfl⟩
    rw [hg1] at hcb e1
    rw [hg2] at hcb d2
    obtain ⟨PU, hPU⟩ : ∃ P, listProd (ls.map (unitsOf l)) = P := ⟨_, rfl⟩
    obtain ⟨PL, hPL⟩ : ∃ P, listProd (ls.map (loOf l)) = P := ⟨_, rfl⟩
    rw [hPU, hPL] at hcb
    rw [hPU] at hp1
    rw [hPL] at hp2
    have mp0 := hr.ext.cell hmp
    have hbmw := hr.ext.heap hbm
    have lm : (ls.map (unitsOf l)).length = m + 1 := by simp [hm]
    have lf : (ls.map (loOf l)).length = m + 1 := by simp [hm]
    have Hr := Lib.hid hr
    have rbl := hr.bl
    have rbu := hr.bu
    have rbf := hr.bf
    rw [hm] at rbl
    rw [lm] at rbu hp1
    rw [lf] at rbf hp2
    unfold maxLen at hlm
    rw [hm] at hlc
    have Hcb := Lib.hid hcb
    have Hp1 := Lib.hid hp1
    have Hp2 := Lib.hid hp2
    have Hdf := Lib.hid hdf
    have Hm := Lib.hid hm
    clear hcb hp1 hp2 hdf hm
    clear hk1 hk2 hG1 hG2 h1e h2e hg1 hg2 hPU hPL ho1 ho2 ho1' ho2' hu hlb hli hui hfi hr lm lf hl hst hsb hbm hmp hbs ho hnl huc hum hfc hfm hne
    clear e0 e2 e3 e4 e5 e6 e7 d0 d1 d3 d4 d5 d6 d7
    by_cases hgg : G1 = G2
    · subst hgg
      have hggB : (G1 == G1) = true := by simp
      go_enter Try.func63, Try.ntmps63
      go_wp2_with fail
      refine wp_region_tree (.take [0, 1, 2, 3, 4, 5, 6, 7, 8, 9, 10, 11, 12, 13, 14, 15, 16, 17, 18, 19, 20, 21, 22, 23, 24, 25, 27] (.one 26 (.one 28 (.take [29, 30, 31] .done)))) (Ext W) _ (by kernel_rfl) (by kernel_rfl) rfl ((Ext.refl _).drew) ?_
      intro ι _ f hf hs
      have f0 := fun q => ((hf q).box hbmw).1
      have f1 := fun q => (hf q).cell mp0
      have f2 := fun q => ((hf q).box rbl).1
      have f3 := fun q => ((hf q).box rbu).1
      have f4 := fun q => ((hf q).box rbf).1
      have g1 := fun q => (hf q).cell q1
      have g2 := fun q => (hf q).cell q2
      have h1 := fun q => (hf q).cell e1
      have h2 := fun q => (hf q).cell d2
      have HS := Lib.hid hs
      clear hf hs
      simp only [treeOf, oneOp, twoOp, opsOf, consOp, List.getElem?_toArray, List.getElem?_cons_succ, List.getElem?_cons_zero]
      refine wpOT_take ?_
      repeat (go_big_quiet_step (fail))
      refine wpQuiet_nil ?_
      refine wpOT_one ?_
      go_wp2_with (go_at_call 64; refine (Hp2.out _ (Ext.refl _).drew).mono ?_; rintro e w3 ⟨rfl, hx3⟩)
      refine ⟨HS.out _ ((Ext.refl _).drew.trans hx3), ?_⟩
      refine wpOT_one ?_
      go_wp2_with (go_at_call 64; refine (Hp1.out _ ((Ext.refl _).drew.trans hx3)).mono ?_; rintro e w4 ⟨rfl, hx4⟩)
      refine ⟨HS.out _ (((Ext.refl _).drew.trans hx3).trans hx4), ?_⟩
      refine wpOT_take ?_
      repeat (go_big_quiet_step (fail))
      refine wpQuiet_nil ?_
      refine wpOT_done ?_
      clear f0 f1 f2 f3 f4 g1 g2 h1 h2 HS
      have hx := ((Ext.refl W).drew.trans hx3).trans hx4
      clear hx3 hx4 rbl rbu rbf q1 q2 e1 d2 hbmw mp0
      go_wp2_with fail
      go_ret
      rw [Hdf.out, Hcb.out]
      by_cases hpp : PU < PL
      · simp only [hpp, beq_self_eq_true, decide_true, Bool.and_self, if_true]
        exact ⟨rfl, _, _, _, _, _, _, Hr.out.later hx⟩
      · simp only [hpp, decide_false, Bool.and_false, Bool.false_eq_true, if_false]
        exact ⟨rfl, _, _, _, Hr.out.later hx, Fr.ext hx⟩
    · have hggB : (G1 == G2) = false := by simpa using hgg
      go_enter Try.func63, Try.ntmps63
      go_wp2_with fail
      refine wp_region_tree (.take [0, 1, 2, 3, 4, 5, 6, 7, 8, 9, 10, 11, 12, 13, 14, 15, 16, 17, 18, 19, 20, 21, 22, 23, 24, 25, 27] (.one 26 (.one 28 (.take [29, 30, 31] .done)))) (Ext W) _ (by kernel_rfl) (by kernel_rfl) rfl ((Ext.refl _).drew) ?_
      intro ι _ f hf hs
      have f0 := fun q => ((hf q).box hbmw).1
      have f1 := fun q => (hf q).cell mp0
      have f2 := fun q => ((hf q).box rbl).1
      have f3 := fun q => ((hf q).box rbu).1
      have f4 := fun q => ((hf q).box rbf).1
      have g1 := fun q => (hf q).cell q1
      have g2 := fun q => (hf q).cell q2
      have h1 := fun q => (hf q).cell e1
      have h2 := fun q => (hf q).cell d2
      have HS := Lib.hid hs
      clear hf hs
      simp only [treeOf, oneOp, twoOp, opsOf, consOp, List.getElem?_toArray, List.getElem?_cons_succ, List.getElem?_cons_zero]
      refine wpOT_take ?_
      repeat (go_big_quiet_step (fail))
      refine wpQuiet_nil ?_
      refine wpOT_one ?_
      go_wp2_with fail
      refine ⟨HS.out _ ((Ext.refl _).drew), ?_⟩
      refine wpOT_one ?_
      go_wp2_with fail
      refine ⟨HS.out _ ((Ext.refl _).drew), ?_⟩
      refine wpOT_take ?_
      repeat (go_big_quiet_step (fail))
      refine wpQuiet_nil ?_
      refine wpOT_done ?_
      clear f0 f1 f2 f3 f4 g1 g2 h1 h2 HS
      clear rbl rbu rbf q1 q2 e1 d2 hbmw mp0
      go_wp2_with fail
      go_ret
      rw [Hdf.out, Hcb.out, hggB, Bool.false_and, if_neg (by simp)]
      exact ⟨rfl, _, _, _, Hr.out.later (Ext.refl _).drew, Fr.ext (Ext.refl _).drew⟩
  | succ st ih =>
    intro ls W vl0 vu0 vf0 hlen _ hlb hr
    obtain ⟨ff, hff⟩ : ∃ f : Int → Option (List Int), (fun k => if skipB l ls k = true then none else dfs l stall st (ls ++ [k])) = f := ⟨_, rfl⟩
    have hdf : dfs l stall (st + 1) ls = stall.findSome? ff := by rw [← hff]; rfl
    have hfk : ∀ k, ff k = if skipB l ls k = true then none else dfs l stall st (ls ++ [k]) := fun k => by rw [← hff]
    rw [hdf]
    clear hdf hff
    have hz : (((st : Int) + 1) == 0) = false := by simp; omega
    rw [show ((st + 1 : Nat) : Int) = (st : Int) + 1 by omega]
    have hcb := (hr.ext.box hbs).1
    obtain ⟨m, hm⟩ : ∃ m, ls.length = m := ⟨_, rfl⟩
    have hsl := hst.1
    have Hr := Lib.hid hr
    have Ih := Lib.hid ih
    have Hl := Lib.hid hl
    have Hst := Lib.hid hst
    have Ho := Lib.hid ho
    have Hsb := Lib.hid hsb
    have Hbm := Lib.hid hbm
    have Hmp := Lib.hid hmp
    have Hbs := Lib.hid hbs
    have Hlb := Lib.hid hlb
    have Hfk := Lib.hid hfk
    have Hm := Lib.hid hm
    have Hnl := Lib.hid hnl
    have Hsl := Lib.hid hsl
    clear hr ih hl hst ho hsb hbm hmp hbs hlb hfk hm hnl hsl
    clear hol
    go_enter Try.func63, Try.ntmps63
    go_wp2_with fail
    clear hcb
    go_loopw [49] (fun i wr => ∃ (t : Nat) (vl vu vf : Value), t ≤ sn ∧ i = .int .i64 t ∧ Rd w0 bm bs wr ls (ls.map (unitsOf l)) (ls.map (loOf l)) vl vu vf (gF l ls) ∧ (stall.take t).findSome? ff = none ∧ Fr w0 W vl0 vu0 vf0 wr vl vu vf) (fun i _ => sn - (intOf i).toNat)
    case atStart => exact ⟨0, vl0, vu0, vf0, Nat.zero_le _, rfl, Hr.out, by simp, Fr.refl _ _ _ _ _⟩
    case round =>
      obtain ⟨t, vl, vu, vf, ht, rfl, hr, hnone, hfr⟩ := hrel
      have Hfr := Lib.hid hfr
      clear hfr
      by_cases htl : t < sn
      · have htl' : decide ((t : Int) < (sn : Int)) = true := by simp; omega
        obtain ⟨sb, so, k, rfl, hk, hsbl, e0⟩ := (Hst.out.ext hr.ext).get t htl
        obtain ⟨k0, k1⟩ := Hsb.out k (List.mem_of_getElem? hk)
        rw [← Hnl.out] at k1
        obtain ⟨j, rfl, hj, hoj⟩ := offerAt_get k0 k1
        rw [Hnl.out] at hj
        obtain ⟨ob, oo, o, rfl, ho', hob, q0, q1, q2, q3, q4, q5, q6, q7⟩ := (Hl.out.ext hr.ext).get j hj
        have hoe : offerAt l j = o := by rw [hoj] at ho'; cases ho'; rfl
        have hgv : giveOf l j = o.give := by simp [giveOf, hoe]
        have hun : unitsOf l j = o.units := by simp [unitsOf, hoe]
        have hlo : loOf l j = o.lo := by simp [loOf, hoe]
        have hbmw := (hr.ext.box Hbm.out).1
        have hmp0 := hr.ext.cell Hmp.out
        obtain ⟨pl, og, oe, un, lo, hi, fr, to⟩ := o
        simp only at q0 q1 q2 q3 q4 q5 q6 q7 hgv hun hlo
        have hsz := hr.size
        obtain ⟨la, lc, rfl, _, hlc, hlm, hli⟩ := ints_of_owns hr.o1
        rw [Hm.out] at hlc hli
        unfold maxLen at hlm
        have Hr := Lib.hid hr
        have Hnone := Lib.hid hnone
        have Hk := Lib.hid hk
        have Hgv := Lib.hid hgv
        have Hun := Lib.hid hun
        have Hlo := Lib.hid hlo
        have Hli := Lib.hid hli
        clear hr hnone hk hgv hun hlo hli
        clear hoe ho' hoj k0 k1 hsbl
        go_wp2_with fail
        have hx0 : Ext wr (wr.alloc (.cells #[.int .i64 pl, .int .i64 og, .int .i64 oe, .int .i64 un, .int .i64 lo, .int .i64 hi, .int .i64 fr, .int .i64 to] 81)) := (Ext.refl _).alloc _
        have hb0 := heap_alloc_new wr (.cells #[.int .i64 pl, .int .i64 og, .int .i64 oe, .int .i64 un, .int .i64 lo, .int .i64 hi, .int .i64 fr, .int .i64 to] 81)
        generalize wr.alloc (.cells #[.int .i64 pl, .int .i64 og, .int .i64 oe, .int .i64 un, .int .i64 lo, .int .i64 hi, .int .i64 fr, .int .i64 to] 81) = W1 at *
        obtain ⟨xb, hxb⟩ : ∃ xb, wr.heap.size = xb := ⟨_, rfl⟩
        rw [hxb] at hb0 hsz
        rw [hxb]
        have hr1 := Hr.out.later hx0
        have rbg := hr1.bg
        have rbl := hr1.bl
        have rmap := hr1.map
        have hli1 := Hli.out.ext hx0
        rw [Hm.out] at rbl
        have Hr1 := Lib.hid hr1
        have Hb0 := Lib.hid hb0
        have Hx0 := Lib.hid hx0
        have Hxb := Lib.hid hxb
        have Hli1 := Lib.hid hli1
        clear hr1 hb0 hx0 hxb hli1
        clear hbmw hmp0 q0 q1 q2 q3 q4 q5 q6 q7 e0
        by_cases hgi : og ∈ gives l ls
        · have hgf : gF l ls og = .bool true := by simp [gF, hgi]
          have hsk : skipB l ls j = true := by simp [skipB, Hgv.out, hgi]
          have hfn : ff j = none := by rw [Hfk.out, if_pos hsk]
          have hnext := take_none Hnone.out Hk.out hfn
          have Hnext := Lib.hid hnext
          clear hnext
          clear hsk hfn
          go_wp2_with fail
          refine wp_region_ext (by kernel_rfl) (by kernel_rfl) (fun f hf hs => ?_)
          have f0 := fun q => ((hf q).box rbg).1
          have f1 := fun q => ((hf q).box Hb0.out).1
          have f3 := fun q => (show (Instr.lookup 128 (.map (some w0.heap.size)) (.int .i64 og) false).run Try.prog (f q) = .ok (.bool true) (f q) from (run_lookup_int (rmap.ext (hf q)) Try.underlying128 Try.underlying3 (by kernel_rfl) og).trans (by rw [hgf]))
          clear hf hs
          repeat (go_big_quiet_step (fail))
          refine wpQuiet_nil ?_
          intro W2 hW2
          clear f0 f1 f3
          have hr2 := Hr1.out.later hW2
          have hfr2 := Hfr.out.trans (Fr.ext (Hx0.out.trans hW2))
          have Hr2 := Lib.hid hr2
          have Hfr2 := Lib.hid hfr2
          clear hr2 hfr2
          clear rbg rbl rmap hW2 hgf
          go_wp2_with fail
          go_roundw
          case rel => exact ⟨t + 1, _, vu, vf, by omega, by go_num, Hr2.out, Hnext.out, Hfr2.out⟩
          case measure => simp [intOf]; omega
        have hgf : gF l ls og = .bool false := by simp [gF, hgi]
        by_cases hm0 : m = 0
        · subst hm0
          have hsk : skipB l ls j = false := by simp [skipB, Hgv.out, hgi, Hm.out]
          go_wp2_with fail
          refine wp_region_ext (by kernel_rfl) (by kernel_rfl) (fun f hf hs => ?_)
          have f0 := fun q => ((hf q).box rbg).1
          have f1 := fun q => ((hf q).box Hb0.out).1
          have f3 := fun q => (show (Instr.lookup 128 (.map (some w0.heap.size)) (.int .i64 og) false).run Try.prog (f q) = .ok (.bool false) (f q) from (run_lookup_int (rmap.ext (hf q)) Try.underlying128 Try.underlying3 (by kernel_rfl) og).trans (by rw [hgf]))
          have f2 := fun q => ((hf q).box rbl).1
          clear hf hs
          repeat (go_big_quiet_step (fail))
          refine wpQuiet_nil ?_
          intro W2 hW2
          clear f0 f1 f3 f2
          have hr2 := Hr1.out.later hW2
          have hfr2 := Hfr.out.trans (Fr.ext (Hx0.out.trans hW2))
          have hbx2 := hW2.heap Hb0.out
          clear rbg rbl rmap hW2 hgf
          obtain ⟨W3, hrun, hmap, hgrow⟩ := run_mapUpdate_int (P := Try.prog) hr2.map Try.underlying128 Try.underlying3 og (.bool true)
          have cbg := ((Ext.refl W2).box hr2.bg).1
          have cbx := ((Ext.refl W2).box hbx2).1
          have hr3 := hr2.mapped hgrow hmap
          have hfr3 := hfr2.trans (Fr.low (c1 := .slice la ls.length lc) (c2 := vu) (c3 := vf) hgrow.size (fun b o hb hlow => (hgrow.block b (heap_lt hb) (by simp; omega)).trans hb) rfl rfl rfl)
          have hbx3 := (hgrow.block _ (heap_lt hbx2) (by simp; omega)).trans hbx2
          have hxa : (Value.slice la 0 lc).ownBlock ≠ some xb ∧ vu.ownBlock ≠ some xb ∧ vf.ownBlock ≠ some xb := by
            have h1 := Hr.out.o1
            rw [Hm.out] at h1
            refine ⟨fun e => ?_, fun e => ?_, fun e => ?_⟩
            · have := h1.ltAll _ e; have := Hxb.out; omega
            · have := Hr.out.o2.ltAll _ e; have := Hxb.out; omega
            · have := Hr.out.o3.ltAll _ e; have := Hxb.out; omega
          rw [Hm.out] at hr3 hfr3
          have Hr3 := Lib.hid hr3
          have Hbx3 := Lib.hid hbx3
          have Hxa := Lib.hid hxa
          have Hfr3 := Lib.hid hfr3
          clear hr3 hbx3 hxa hfr3
          clear hr2 hbx2 hmap hgrow hfr2
          go_wp2_with fail
          clear hrun cbg cbx
          refine wp_region_takes [0, 1, 4, 5, 6, 9, 10, 11, 12] [15, 16, 17] (S9 w0 (.slice la 0 lc) vu vf xb (.cells #[.int .i64 pl, .int .i64 og, .int .i64 oe, .int .i64 un, .int .i64 lo, .int .i64 hi, .int .i64 fr, .int .i64 to] 81 (0, 0))) _ 9 (by kernel_rfl) (by kernel_rfl) rfl ⟨Hr3.out.bl, Hr3.out.bu, Hr3.out.bf, Hbx3.out⟩ ?_
          intro ι _ f hf
          have f0 := fun q => ((Ext.refl (f q)).box (hf q).1).1
          have f1 := fun q => ((Ext.refl (f q)).box (hf q).2.1).1
          have f2 := fun q => ((Ext.refl (f q)).box (hf q).2.2.1).1
          have f3 := fun q => ((Ext.refl (f q)).box (hf q).2.2.2).1
          clear hf
          simp only [opsOf, consOp, List.getElem?_toArray, List.getElem?_cons_succ, List.getElem?_cons_zero]
          repeat (go_big_quiet_step (fail))
          refine wpQuiet_nil ?_
          clear f0 f1 f2 f3
          have hr3d := Hr3.out.later (Ext.refl W3).drew
          have hbx3d : W3.drew.heap[xb]? = _ := Hbx3.out
          have hcx : C9 w0 W3.drew (.slice la 0 lc) vu vf xb (.cells #[.int .i64 pl, .int .i64 og, .int .i64 oe, .int .i64 un, .int .i64 lo, .int .i64 hi, .int .i64 fr, .int .i64 to] 81 (0, 0)) := ⟨hbx3d, hsz, Hxa.out⟩
          have Hcx := Lib.hid hcx
          clear hcx
          refine wp_inv_fsm lst9 sts9 cond9 nxt9 fin9 (by kernel_rfl) [92, 93, 97, 98, 103, 104] (I9 w0 bm bs W3.drew ls (ls.map (unitsOf l)) (ls.map (loOf l)) j un lo (.slice la 0 lc) vu vf (fun q => if q = og then .bool true else gF l ls q)) ?_ (0, false, false, false) [u92, u93, u97, u98, u103, u104] (by kernel_rfl) (by kernel_rfl) (by kernel_rfl) ⟨_, _, _, _, _, _, rfl, Nat.le_refl _, fun b o hb => hr3d.begin hb.1 hb.2.1 hb.2.2⟩ ?_ ?_
          · rintro ⟨A, b1, b2, b3⟩ xs W4 ⟨_, _, _, _, _, _, _, _, hall⟩
            exact mem_sts9 (hall _ _ Hcx.out).hA
          · rintro ⟨A, b1, b2, b3⟩ i xs W4 ⟨y1, z1, y2, z2, y3, z3, rfl, hsw, hall⟩ hc
            simp only at hall
            clear hr3d hbx3d Hxa Hr3 Hbx3
            rcases cond9_cases hc with ⟨rfl, rfl⟩ | ⟨rfl, hA⟩ | ⟨rfl, hA⟩ | ⟨rfl, rfl, rfl⟩ | ⟨rfl, rfl, rfl⟩ | ⟨rfl, rfl, rfl⟩ | ⟨rfl, rfl⟩ | ⟨rfl, rfl⟩ | ⟨rfl, rfl⟩
            · skip
              have h9' := fun b o hb => (hall b o hb).lay1
              have H9' := Lib.hid h9'
              clear h9' hall
              refine fsm_step (by simp only [List.getElem?_toArray, List.getElem?_cons_succ, List.getElem?_cons_zero]; rfl) ?_
              simp only [puts, Act.put, List.setIfInBounds_toArray, List.set_cons_succ, List.set_cons_zero]
              go_wp2_with fail
              exact StepPost.mk (fun _ => (H9'.out _ _ Hcx.out).keeps (by omega)) [(.slice (some ⟨W4.heap.size, 0, none⟩) 1 1), z1, y2, z2, y3, z3] (by kernel_rfl) ⟨_, _, _, _, _, _, rfl, Nat.le_trans hsw (by simp [World.setCell]), H9'.out⟩
            · skip
              have h9' := fun b o hb => (hall b o hb).lay2
              have H9' := Lib.hid h9'
              clear h9' hall
              refine fsm_step (by simp only [List.getElem?_toArray, List.getElem?_cons_succ, List.getElem?_cons_zero]; rfl) ?_
              simp only [puts, Act.put, List.setIfInBounds_toArray, List.set_cons_succ, List.set_cons_zero]
              go_wp2_with fail
              exact StepPost.mk (fun _ => (H9'.out _ _ Hcx.out).keeps (by omega)) [y1, z1, (.slice (some ⟨W4.heap.size, 0, none⟩) 1 1), z2, y3, z3] (by kernel_rfl) ⟨_, _, _, _, _, _, rfl, Nat.le_trans hsw (by simp [World.setCell]), H9'.out⟩
            · skip
              have h9' := fun b o hb => (hall b o hb).lay3
              have H9' := Lib.hid h9'
              clear h9' hall
              refine fsm_step (by simp only [List.getElem?_toArray, List.getElem?_cons_succ, List.getElem?_cons_zero]; rfl) ?_
              simp only [puts, Act.put, List.setIfInBounds_toArray, List.set_cons_succ, List.set_cons_zero]
              go_wp2_with fail
              exact StepPost.mk (fun _ => (H9'.out _ _ Hcx.out).keeps (by omega)) [y1, z1, y2, z2, (.slice (some ⟨W4.heap.size, 0, none⟩) 1 1), z3] (by kernel_rfl) ⟨_, _, _, _, _, _, rfl, Nat.le_trans hsw (by simp [World.setCell]), H9'.out⟩
            · skip
              have h9 := hall _ _ Hcx.out
              obtain ⟨g, rfl, hg⟩ := h9.s1 (by omega) rfl
              have ho := h9.own1
              have hc := fun j => cell_of_row W4 g j _ 3 (0, 0) (hg)
              have hgl := h9.size
              have Hall := Lib.hid hall
              have hsrc : SlAt W4 1 (some ⟨g, 0, none⟩) 1 (fun q => (intRows .i64 [(j : Int)]).getD q []) := slAt_one (cells_one (by have := hc 0; simpa using this))
              have Ho := Lib.hid ho
              have Hsrc := Lib.hid hsrc
              clear ho hsrc
              clear hc
              clear h9 hall
              refine fsm_step (by simp only [List.getElem?_toArray, List.getElem?_cons_succ, List.getElem?_cons_zero]; rfl) ?_
              simp only [puts, Act.put, List.setIfInBounds_toArray, List.set_cons_succ, List.set_cons_zero]
              go_wp2_with (at_builtin; refine wpList_app elem24 _ rfl (.tmp 90) (.tmp 92) rfl (w0.heap.size + 6) _ _ rfl Ho.out (some ⟨g, 0, none⟩) 1 1 (intRows .i64 [(j : Int)]) rfl rfl Hsrc.out (intRows_row _ _) ?_ ?_ ?_)
              · rw [ints_len]; simp; omega
              · omega
              · intro v' w5 ho5 hg5 hor5
                have h9' := fun b o hb => (Hall.out b o hb).app1 ho5 hg5 hor5
                have hsw5 := hg5.size
                have H9' := Lib.hid h9'
                clear h9' ho5 hg5 hor5
                go_wp2_with fail
                exact StepPost.mk (fun _ => (H9'.out _ _ Hcx.out).keeps (by omega)) [(.slice (some ⟨g, 0, none⟩) 1 1), v', y2, z2, y3, z3] (by kernel_rfl) ⟨_, _, _, _, _, _, rfl, Nat.le_trans hsw hsw5, H9'.out⟩
            · skip
              have h9 := hall _ _ Hcx.out
              obtain ⟨g, rfl, hg, hne1⟩ := h9.s2 (by omega) rfl
              have ho := h9.own2
              have hc := fun j => cell_of_row W4 g j _ 3 (0, 0) (hg)
              have hgl := h9.size
              have Hall := Lib.hid hall
              have hsrc : SlAt W4 1 (some ⟨g, 0, none⟩) 1 (fun q => (intRows .i64 [un]).getD q []) := slAt_one (cells_one (by have := hc 0; simpa using this))
              have Ho := Lib.hid ho
              have Hsrc := Lib.hid hsrc
              clear ho hsrc
              clear hc
              clear h9 hall
              refine fsm_step (by simp only [List.getElem?_toArray, List.getElem?_cons_succ, List.getElem?_cons_zero]; rfl) ?_
              simp only [puts, Act.put, List.setIfInBounds_toArray, List.set_cons_succ, List.set_cons_zero]
              go_wp2_with (at_builtin; refine wpList_app elem24 _ rfl (.tmp 94) (.tmp 97) rfl (w0.heap.size + 6) _ _ rfl Ho.out (some ⟨g, 0, none⟩) 1 1 (intRows .i64 [un]) rfl rfl Hsrc.out (intRows_row _ _) ?_ ?_ ?_)
              · rw [ints_len]; simp; omega
              · omega
              · intro v' w5 ho5 hg5 hor5
                have h9' := fun b o hb => (Hall.out b o hb).app2 ho5 hg5 hor5
                have hsw5 := hg5.size
                have H9' := Lib.hid h9'
                clear h9' ho5 hg5 hor5
                go_wp2_with fail
                exact StepPost.mk (fun _ => (H9'.out _ _ Hcx.out).keeps (by omega)) [y1, z1, (.slice (some ⟨g, 0, none⟩) 1 1), v', y3, z3] (by kernel_rfl) ⟨_, _, _, _, _, _, rfl, Nat.le_trans hsw hsw5, H9'.out⟩
            · skip
              have h9 := hall _ _ Hcx.out
              obtain ⟨g, rfl, hg, hne1, hne2⟩ := h9.s3 (by omega) rfl
              have ho := h9.own3
              have hc := fun j => cell_of_row W4 g j _ 3 (0, 0) (hg)
              have hgl := h9.size
              have Hall := Lib.hid hall
              have hsrc : SlAt W4 1 (some ⟨g, 0, none⟩) 1 (fun q => (intRows .i64 [lo]).getD q []) := slAt_one (cells_one (by have := hc 0; simpa using this))
              have Ho := Lib.hid ho
              have Hsrc := Lib.hid hsrc
              clear ho hsrc
              clear hc
              clear h9 hall
              refine fsm_step (by simp only [List.getElem?_toArray, List.getElem?_cons_succ, List.getElem?_cons_zero]; rfl) ?_
              simp only [puts, Act.put, List.setIfInBounds_toArray, List.set_cons_succ, List.set_cons_zero]
              go_wp2_with (at_builtin; refine wpList_app elem24 _ rfl (.tmp 99) (.tmp 103) rfl (w0.heap.size + 6) _ _ rfl Ho.out (some ⟨g, 0, none⟩) 1 1 (intRows .i64 [lo]) rfl rfl Hsrc.out (intRows_row _ _) ?_ ?_ ?_)
              · rw [ints_len]; simp; omega
              · omega
              · intro v' w5 ho5 hg5 hor5
                have h9' := fun b o hb => (Hall.out b o hb).app3 ho5 hg5 hor5
                have hsw5 := hg5.size
                have H9' := Lib.hid h9'
                clear h9' ho5 hg5 hor5
                go_wp2_with fail
                exact StepPost.mk (fun _ => (H9'.out _ _ Hcx.out).keeps (by omega)) [y1, z1, y2, z2, (.slice (some ⟨g, 0, none⟩) 1 1), v'] (by kernel_rfl) ⟨_, _, _, _, _, _, rfl, Nat.le_trans hsw hsw5, H9'.out⟩
            · skip
              have h9 := hall _ _ Hcx.out
              obtain ⟨za, zn, zc, rfl⟩ := h9.sl1
              have h9' := fun b o hb => (hall b o hb).store1
              have H9' := Lib.hid h9'
              have cb := ((Ext.refl W4).box h9.bl).1
              have cf := ((Ext.refl W4).box h9.bl).2
              clear h9' h9 hall
              refine fsm_step (by simp only [List.getElem?_toArray, List.getElem?_cons_succ, List.getElem?_cons_zero]; rfl) ?_
              simp only [puts, Act.put, List.setIfInBounds_toArray, List.set_cons_succ, List.set_cons_zero]
              go_wp2_with fail
              exact StepPost.mk (fun h => by simp at h) [y1, .slice za zn zc, y2, z2, y3, z3] (by kernel_rfl) ⟨_, _, _, _, _, _, rfl, Nat.le_trans hsw (by simp [World.setCell]), H9'.out⟩
            · skip
              have h9 := hall _ _ Hcx.out
              obtain ⟨za, zn, zc, rfl⟩ := h9.sl2
              have h9' := fun b o hb => (hall b o hb).store2
              have H9' := Lib.hid h9'
              have cb := ((Ext.refl W4).box h9.bu).1
              have cf := ((Ext.refl W4).box h9.bu).2
              clear h9' h9 hall
              refine fsm_step (by simp only [List.getElem?_toArray, List.getElem?_cons_succ, List.getElem?_cons_zero]; rfl) ?_
              simp only [puts, Act.put, List.setIfInBounds_toArray, List.set_cons_succ, List.set_cons_zero]
              go_wp2_with fail
              exact StepPost.mk (fun h => by simp at h) [y1, z1, y2, .slice za zn zc, y3, z3] (by kernel_rfl) ⟨_, _, _, _, _, _, rfl, Nat.le_trans hsw (by simp [World.setCell]), H9'.out⟩
            · skip
              have h9 := hall _ _ Hcx.out
              obtain ⟨za, zn, zc, rfl⟩ := h9.sl3
              have h9' := fun b o hb => (hall b o hb).store3
              have H9' := Lib.hid h9'
              have cb := ((Ext.refl W4).box h9.bf).1
              have cf := ((Ext.refl W4).box h9.bf).2
              clear h9' h9 hall
              refine fsm_step (by simp only [List.getElem?_toArray, List.getElem?_cons_succ, List.getElem?_cons_zero]; rfl) ?_
              simp only [puts, Act.put, List.setIfInBounds_toArray, List.set_cons_succ, List.set_cons_zero]
              go_wp2_with fail
              exact StepPost.mk (fun h => by simp at h) [y1, z1, y2, z2, y3, .slice za zn zc] (by kernel_rfl) ⟨_, _, _, _, _, _, rfl, Nat.le_trans hsw (by simp [World.setCell]), H9'.out⟩
          · rintro ⟨A, b1, b2, b3⟩ xs W4 ⟨y1, z1, y2, z2, y3, z3, rfl, hsw, hall⟩ hA
            obtain rfl : A = 6 := by simpa [fin9] using hA
            clear hr3d hbx3d Hxa Hbx3
            simp only at hall
            have hr4 := (hall _ _ Hcx.out).done
            have hfr4 := (Hfr3.out.trans (Fr.ext (Ext.refl _).drew)).trans (I9.fr hsw hall hr4.1)
            have hc4 : C9 w0 W4 z1 z2 z3 xb _ := ⟨hr4.2, hsz, by simpa using (hall _ _ Hcx.out).xa⟩
            have Hr4 := Lib.hid hr4
            have Hfr4 := Lib.hid hfr4
            have Hc4 := Lib.hid hc4
            clear hr4 hfr4 hc4
            clear hall hA
            have cbo := ((Ext.refl W4).box Hr4.out.1.bo).1
            unfold moreVal at cbo
            simp only [puts]
            go_wp2_with fail
            have hlb' : ∀ k ∈ ls ++ [(j : Int)], 0 ≤ k ∧ k < (n : Int) := fun k hk => by
              rcases List.mem_append.1 hk with h | h
              · exact Hlb.out k h
              · obtain rfl : k = (j : Int) := by simpa using h
                omega
            have hgs : gives l (ls ++ [(j : Int)]) = gives l ls ++ [og] := by simp [gives, Hgv.out]
            have hFn : (fun q => if q = og then Value.bool true else gF l ls q) = gF l (ls ++ [(j : Int)]) := by
              funext q
              unfold gF
              rw [hgs]
              by_cases hq : q = og <;> simp [hq]
            have hr4' : Rd w0 bm bs W4 (ls ++ [(j : Int)]) ((ls ++ [(j : Int)]).map (unitsOf l)) ((ls ++ [(j : Int)]).map (loOf l)) z1 z2 z3 (gF l (ls ++ [(j : Int)])) := by
              have h := Hr4.out.1
              rw [hFn] at h
              simpa [Hun.out, Hlo.out] using h
            have hcall := Ih.out (ls ++ [(j : Int)]) W4 z1 z2 z3 (by simp; omega) (fun _ => by simp) hlb' hr4'
            have hxb4 := Hr4.out.2
            have hFb : ∀ W', (∃ v1 v2 v3, Rd w0 bm bs W' (ls ++ [(j : Int)]) ((ls ++ [(j : Int)]).map (unitsOf l)) ((ls ++ [(j : Int)]).map (loOf l)) v1 v2 v3 (gF l (ls ++ [(j : Int)]))) → True := fun _ _ => trivial
            clear hFb hlb' hFn hr4' hxb4
            cases hres : dfs l stall st (ls ++ [(j : Int)]) with
            | some x =>
              have hfn : ff j = some x := by rw [Hfk.out, if_neg (by simp [hsk]), hres]
              have hfin := findSome_take Hnone.out Hk.out hfn
              rw [hres] at hcall
              have Hcall := Lib.hid hcall
              have Hfin := Lib.hid hfin
              clear hcall hfin
              clear hres hfn hgs cbo hsk
              refine Hcall.out.mono ?_
              rintro e W5 ⟨rfl, l2', l3', v1, v2, v3, F', hr5⟩
              have cb5 := ((Ext.refl W5).box hr5.bl).1
              go_wp2_with fail
              go_ret
              rw [Hfin.out]
              exact ⟨rfl, l2', l3', v1, v2, v3, F', hr5⟩
            | none =>
              have hfn : ff j = none := by rw [Hfk.out, if_neg (by simp [hsk]), hres]
              have hnext := take_none Hnone.out Hk.out hfn
              rw [hres] at hcall
              have Hcall := Lib.hid hcall
              have Hnext := Lib.hid hnext
              have Hgs := Lib.hid hgs
              clear hcall hnext hgs
              clear hres hfn cbo hsk
              refine Hcall.out.mono ?_
              rintro e W5 ⟨rfl, v1, v2, v3, hr5, hfr5⟩
              have hx5 := hfr5.2.1 xb _ Hc4.out
              have hfrw := Hfr4.out.trans hfr5
              obtain ⟨g1, c1, rfl, k1, k1', hc1⟩ := hr5.o1.cut
              have ho2 := hr5.o2
              have ho3 := hr5.o3
              simp only [List.map_append, List.map_cons, List.map_nil] at ho2 ho3
              obtain ⟨g2, c2, rfl, k2, k2', hc2⟩ := ho2.cut
              obtain ⟨g3, c3, rfl, k3, k3', hc3⟩ := ho3.cut
              have e2 : (ls.map (unitsOf l)).length = 0 := by simp [Hm.out]
              have e3 : (ls.map (loOf l)).length = 0 := by simp [Hm.out]
              rw [e2] at k2 hc2 hr5 hfrw
              rw [e3] at k3 hc3 hr5 hfrw
              rw [Hm.out] at k1 hc1 hr5 hfrw
              unfold maxLen at k1' k2' k3'
              have cb1 := ((Ext.refl W5).box hr5.bl).1
              have cb2 := ((Ext.refl W5).box hr5.bu).1
              have cb3 := ((Ext.refl W5).box hr5.bf).1
              have Hr5 := Lib.hid hr5
              have Hx5 := Lib.hid hx5
              have Hfrw := Lib.hid hfrw
              have Hc1 := Lib.hid hc1
              have Hc2 := Lib.hid hc2
              have Hc3 := Lib.hid hc3
              clear hr5 hx5 hfrw hc1 hc2 hc3
              clear ho2 ho3 e2 e3 hfr5
              go_wp2_with fail
              clear cb1 cb2 cb3
              refine wp_region_E (E := E13 w0.heap.size) (by kernel_rfl) (fun hcl => ?_)
              refine anyE_take [0, 1, 2] [0, 1, 2, 3, 4, 5, 6, 7, 8] (fun W => W.heap[w0.heap.size + 2]? = some (.cells #[.slice (some ⟨g1, 0, none⟩) (0 + 1) c1] 24 (0, 0))) 9 _ hcl (by kernel_rfl) rfl Hr5.out.bl (fun k hk w => E13_read (by simp at hk; omega) w) (fun k hk w w' => keep13a hk w w') ?_
              intro ι _ f hf
              have f0 := fun q => ((Ext.refl (f q)).box (hf q)).1
              clear hf
              simp only [opsOf, consOp, List.getElem?_toArray, List.getElem?_cons_succ, List.getElem?_cons_zero]
              repeat (go_big_quiet_step (fail))
              refine wpQuiet_nil ?_
              clear f0 hcl
              intro hcl
              refine anyE_take [3, 4, 5] [0, 1, 2, 3, 4, 5, 6, 7, 8, 9] (fun W => W.heap[w0.heap.size + 3]? = some (.cells #[.slice (some ⟨g2, 0, none⟩) (0 + 1) c2] 24 (0, 0))) 6 _ hcl (by kernel_rfl) rfl Hr5.out.bu (fun k hk w => E13_read (by simp at hk; omega) w) (fun k hk w w' => keep13b hk w w') ?_
              intro ι _ f hf
              have f0 := fun q => ((Ext.refl (f q)).box (hf q)).1
              clear hf
              simp only [opsOf, consOp, List.getElem?_toArray, List.getElem?_cons_succ, List.getElem?_cons_zero]
              repeat (go_big_quiet_step (fail))
              refine wpQuiet_nil ?_
              clear f0 hcl
              intro hcl
              refine anyE_take [6, 7, 8] [0, 1, 2, 3, 4, 5, 6, 7, 8, 9, 10] (fun W => W.heap[w0.heap.size + 4]? = some (.cells #[.slice (some ⟨g3, 0, none⟩) (0 + 1) c3] 24 (0, 0))) 3 _ hcl (by kernel_rfl) rfl Hr5.out.bf (fun k hk w => E13_read (by simp at hk; omega) w) (fun k hk w w' => keep13c hk w w') ?_
              intro ι _ f hf
              have f0 := fun q => ((Ext.refl (f q)).box (hf q)).1
              clear hf
              simp only [opsOf, consOp, List.getElem?_toArray, List.getElem?_cons_succ, List.getElem?_cons_zero]
              repeat (go_big_quiet_step (fail))
              refine wpQuiet_nil ?_
              clear f0 hcl
              intro hcl
              have cb1 := ((Ext.refl W5).box Hr5.out.bl)
              have cb2 := ((Ext.refl W5).box Hr5.out.bu)
              have cb3 := ((Ext.refl W5).box Hr5.out.bf)
              obtain ⟨cb1, cf1⟩ := cb1
              obtain ⟨cb2, cf2⟩ := cb2
              obtain ⟨cb3, cf3⟩ := cb3
              refine anyE_one (k := 9) (by kernel_rfl) (by simp only [List.getElem?_toArray, List.getElem?_cons_succ, List.getElem?_cons_zero]; rfl) hcl ?_
              clear hcl
              go_wp2_with fail
              refine ⟨E13_9 (fun b hb => Below.heap_setCell _ _ _ _ hb), fun hcl => ?_⟩
              refine anyE_one (k := 10) (by kernel_rfl) (by simp only [List.getElem?_toArray, List.getElem?_cons_succ, List.getElem?_cons_zero]; rfl) hcl ?_
              clear hcl
              go_wp2_with fail
              refine ⟨E13_10 (fun b hb => Below.heap_setCell _ _ _ _ hb), fun hcl => ?_⟩
              refine anyE_one (k := 11) (by kernel_rfl) (by simp only [List.getElem?_toArray, List.getElem?_cons_succ, List.getElem?_cons_zero]; rfl) hcl ?_
              clear hcl
              go_wp2_with fail
              refine ⟨E13_11, fun hcl => ?_⟩
              refine anyE_done (by kernel_rfl) ?_
              clear hcl cb1 cb2 cb3 cf1 cf2 cf3
              have hr6 := (Hr5.out.cut3 Hc1.out rfl Hc2.out rfl Hc3.out rfl).later (Ext.refl _).drew
              have hfr6 := Hfrw.out.trans (Fr.low (W' := ((((W5.setCell ⟨w0.heap.size + 2, 0, none⟩ (.slice (some ⟨g1, 0, none⟩) 0 c1)).setCell ⟨w0.heap.size + 3, 0, none⟩ (.slice (some ⟨g2, 0, none⟩) 0 c2)).setCell ⟨w0.heap.size + 4, 0, none⟩ (.slice (some ⟨g3, 0, none⟩) 0 c3)).drew)) (c1 := (.slice (some ⟨g1, 0, none⟩) 0 c1)) (c2 := (.slice (some ⟨g2, 0, none⟩) 0 c2)) (c3 := (.slice (some ⟨g3, 0, none⟩) 0 c3)) (by simp [World.setCell]) (fun b o hb hlow => by
                show ((W5.setCell ⟨w0.heap.size + 2, 0, none⟩ (.slice (some ⟨g1, 0, none⟩) 0 c1)).setCell ⟨w0.heap.size + 3, 0, none⟩ (.slice (some ⟨g2, 0, none⟩) 0 c2) |>.setCell ⟨w0.heap.size + 4, 0, none⟩ (.slice (some ⟨g3, 0, none⟩) 0 c3)).heap[b]? = some o
                rw [Below.heap_setCell _ _ _ _ (by simp; omega), Below.heap_setCell _ _ _ _ (by simp; omega), Below.heap_setCell _ _ _ _ (by simp; omega)]
                exact hb) rfl rfl rfl)
              have hx6 : ((((W5.setCell ⟨w0.heap.size + 2, 0, none⟩ (.slice (some ⟨g1, 0, none⟩) 0 c1)).setCell ⟨w0.heap.size + 3, 0, none⟩ (.slice (some ⟨g2, 0, none⟩) 0 c2)).setCell ⟨w0.heap.size + 4, 0, none⟩ (.slice (some ⟨g3, 0, none⟩) 0 c3)).drew).heap[xb]? = some (.cells #[.int .i64 pl, .int .i64 og, .int .i64 oe, .int .i64 un, .int .i64 lo, .int .i64 hi, .int .i64 fr, .int .i64 to] 81 (0, 0)) := by
                show ((W5.setCell ⟨w0.heap.size + 2, 0, none⟩ (.slice (some ⟨g1, 0, none⟩) 0 c1)).setCell ⟨w0.heap.size + 3, 0, none⟩ (.slice (some ⟨g2, 0, none⟩) 0 c2) |>.setCell ⟨w0.heap.size + 4, 0, none⟩ (.slice (some ⟨g3, 0, none⟩) 0 c3)).heap[xb]? = _
                rw [Below.heap_setCell _ _ _ _ (by simp; omega), Below.heap_setCell _ _ _ _ (by simp; omega), Below.heap_setCell _ _ _ _ (by simp; omega)]
                exact Hx5.out
              generalize ((((W5.setCell ⟨w0.heap.size + 2, 0, none⟩ (.slice (some ⟨g1, 0, none⟩) 0 c1)).setCell ⟨w0.heap.size + 3, 0, none⟩ (.slice (some ⟨g2, 0, none⟩) 0 c2)).setCell ⟨w0.heap.size + 4, 0, none⟩ (.slice (some ⟨g3, 0, none⟩) 0 c3)).drew) = W6 at *
              obtain ⟨W7, hrun, hmap, hgrow⟩ := run_mapUpdate_int (P := Try.prog) hr6.map Try.underlying128 Try.underlying3 og (.bool false)
              have cbg := ((Ext.refl W6).box hr6.bg).1
              have cbx := ((Ext.refl W6).box hx6).1
              have hFn : (fun q => if q = og then Value.bool false else gF l (ls ++ [(j : Int)]) q) = gF l ls := by
                funext q
                unfold gF
                rw [Hgs.out]
                by_cases hq : q = og
                · subst hq; simp [hgi]
                · simp [hq]
              have hr7 := hr6.mapped hgrow hmap
              rw [hFn] at hr7
              have hfr7 := hfr6.trans (Fr.low (c1 := (.slice (some ⟨g1, 0, none⟩) 0 c1)) (c2 := (.slice (some ⟨g2, 0, none⟩) 0 c2)) (c3 := (.slice (some ⟨g3, 0, none⟩) 0 c3)) hgrow.size (fun b o hb hlow => (hgrow.block b (heap_lt hb) (by simp; omega)).trans hb) rfl rfl rfl)
              have Hr7 := Lib.hid hr7
              have Hfr7 := Lib.hid hfr7
              clear hr7 hfr7
              clear hr6 hx6 hmap hgrow hFn hfr6
              go_wp2_with fail
              clear hrun cbg cbx
              go_roundw
              case rel => exact ⟨t + 1, _, _, _, by omega, by go_num, Hr7.out, Hnext.out, Hfr7.out⟩
              case measure => simp [intOf]; omega
        · obtain ⟨m', rfl⟩ : ∃ m', m = m' + 1 := ⟨m - 1, by omega⟩
          obtain ⟨lb, lo', x2, rfl, hx2, _, q2⟩ := Hli1.out.get m' (by omega)
          obtain ⟨c0, c1⟩ := Hlb.out x2 (List.mem_of_getElem? hx2)
          rw [← Hnl.out] at c1
          obtain ⟨j2, rfl, hj2, hoj2⟩ := offerAt_get c0 c1
          rw [Hnl.out] at hj2
          have hr1e := Hr1.out.ext
          obtain ⟨_, _, o2, e', ho2', _, _, _, d2, _⟩ := (Hl.out.ext hr1e).get j2 hj2
          cases e'
          have hG2 : getOf l (ls.getD (ls.length - 1) 0) = o2.get := by
            rw [Hm.out]
            rw [hoj2] at ho2'
            cases ho2'
            simp [getOf, List.getD, hx2]
          obtain ⟨G2, hg2⟩ : ∃ G, o2.get = G := ⟨_, rfl⟩
          rw [hg2] at hG2 d2
          have hmp0 := hr1e.cell Hmp.out
          have HG2 := Lib.hid hG2
          clear hG2
          clear hx2 hoj2 ho2' hg2 c0 c1
          by_cases hgg : G2 = og
          · subst hgg
            have hggB : (G2 != G2) = false := by simp
            have hsk : skipB l ls j = false := by unfold skipB; rw [Hgv.out, HG2.out]; simp [hgi]
            go_wp2_with fail
            refine wp_region_ext (by kernel_rfl) (by kernel_rfl) (fun f hf hs => ?_)
            have f0 := fun q => ((hf q).box rbg).1
            have f1 := fun q => ((hf q).box Hb0.out).1
            have f3 := fun q => (show (Instr.lookup 128 (.map (some w0.heap.size)) (.int .i64 G2) false).run Try.prog (f q) = .ok (.bool false) (f q) from (run_lookup_int (rmap.ext (hf q)) Try.underlying128 Try.underlying3 (by kernel_rfl) G2).trans (by rw [hgf]))
            have f2 := fun q => ((hf q).box rbl).1
            have f4 := fun q => (hf q).cell q2
            have f5 := fun q => (hf q).cell d2
            have f6 := fun q => ((hr1e.trans (hf q)).box Hbm.out).1
            have f7 := fun q => (hf q).cell hmp0
            clear hf hs
            repeat (go_big_quiet_step (fail))
            refine wpQuiet_nil ?_
            intro W2 hW2
            clear f0 f1 f3 f2 f4 f5 f6 f7
            clear q2 d2 hr1e hmp0
            have hr2 := Hr1.out.later hW2
            have hfr2 := Hfr.out.trans (Fr.ext (Hx0.out.trans hW2))
            have hbx2 := hW2.heap Hb0.out
            clear rbg rbl rmap hW2 hgf
            obtain ⟨W3, hrun, hmap, hgrow⟩ := run_mapUpdate_int (P := Try.prog) hr2.map Try.underlying128 Try.underlying3 G2 (.bool true)
            have cbg := ((Ext.refl W2).box hr2.bg).1
            have cbx := ((Ext.refl W2).box hbx2).1
            have hr3 := hr2.mapped hgrow hmap
            have hfr3 := hfr2.trans (Fr.low (c1 := .slice (some ⟨lb, lo', none⟩) ls.length lc) (c2 := vu) (c3 := vf) hgrow.size (fun b o hb hlow => (hgrow.block b (heap_lt hb) (by simp; omega)).trans hb) rfl rfl rfl)
            have hbx3 := (hgrow.block _ (heap_lt hbx2) (by simp; omega)).trans hbx2
            have hxa : (Value.slice (some ⟨lb, lo', none⟩) (m' + 1) lc).ownBlock ≠ some xb ∧ vu.ownBlock ≠ some xb ∧ vf.ownBlock ≠ some xb := by
              have h1 := Hr.out.o1
              rw [Hm.out] at h1
              refine ⟨fun e => ?_, fun e => ?_, fun e => ?_⟩
              · have := h1.ltAll _ e; have := Hxb.out; omega
              · have := Hr.out.o2.ltAll _ e; have := Hxb.out; omega
              · have := Hr.out.o3.ltAll _ e; have := Hxb.out; omega
            rw [Hm.out] at hr3 hfr3
            have Hr3 := Lib.hid hr3
            have Hbx3 := Lib.hid hbx3
            have Hxa := Lib.hid hxa
            have Hfr3 := Lib.hid hfr3
            clear hr3 hbx3 hxa hfr3
            clear hr2 hbx2 hmap hgrow hfr2
            go_wp2_with fail
            clear hrun cbg cbx
            refine wp_region_takes [0, 1, 4, 5, 6, 9, 10, 11, 12] [15, 16, 17] (S9 w0 (.slice (some ⟨lb, lo', none⟩) (m' + 1) lc) vu vf xb (.cells #[.int .i64 pl, .int .i64 G2, .int .i64 oe, .int .i64 un, .int .i64 lo, .int .i64 hi, .int .i64 fr, .int .i64 to] 81 (0, 0))) _ 9 (by kernel_rfl) (by kernel_rfl) rfl ⟨Hr3.out.bl, Hr3.out.bu, Hr3.out.bf, Hbx3.out⟩ ?_
            intro ι _ f hf
            have f0 := fun q => ((Ext.refl (f q)).box (hf q).1).1
            have f1 := fun q => ((Ext.refl (f q)).box (hf q).2.1).1
            have f2 := fun q => ((Ext.refl (f q)).box (hf q).2.2.1).1
            have f3 := fun q => ((Ext.refl (f q)).box (hf q).2.2.2).1
            clear hf
            simp only [opsOf, consOp, List.getElem?_toArray, List.getElem?_cons_succ, List.getElem?_cons_zero]
            repeat (go_big_quiet_step (fail))
            refine wpQuiet_nil ?_
            clear f0 f1 f2 f3
            have hr3d := Hr3.out.later (Ext.refl W3).drew
            have hbx3d : W3.drew.heap[xb]? = _ := Hbx3.out
            have hcx : C9 w0 W3.drew (.slice (some ⟨lb, lo', none⟩) (m' + 1) lc) vu vf xb (.cells #[.int .i64 pl, .int .i64 G2, .int .i64 oe, .int .i64 un, .int .i64 lo, .int .i64 hi, .int .i64 fr, .int .i64 to] 81 (0, 0)) := ⟨hbx3d, hsz, Hxa.out⟩
            have Hcx := Lib.hid hcx
            clear hcx
            refine wp_inv_fsm lst9 sts9 cond9 nxt9 fin9 (by kernel_rfl) [92, 93, 97, 98, 103, 104] (I9 w0 bm bs W3.drew ls (ls.map (unitsOf l)) (ls.map (loOf l)) j un lo (.slice (some ⟨lb, lo', none⟩) (m' + 1) lc) vu vf (fun q => if q = G2 then .bool true else gF l ls q)) ?_ (0, false, false, false) [u92, u93, u97, u98, u103, u104] (by kernel_rfl) (by kernel_rfl) (by kernel_rfl) ⟨_, _, _, _, _, _, rfl, Nat.le_refl _, fun b o hb => hr3d.begin hb.1 hb.2.1 hb.2.2⟩ ?_ ?_
            · rintro ⟨A, b1, b2, b3⟩ xs W4 ⟨_, _, _, _, _, _, _, _, hall⟩
              exact mem_sts9 (hall _ _ Hcx.out).hA
            · rintro ⟨A, b1, b2, b3⟩ i xs W4 ⟨y1, z1, y2, z2, y3, z3, rfl, hsw, hall⟩ hc
              simp only at hall
              clear hr3d hbx3d Hxa Hr3 Hbx3
              rcases cond9_cases hc with ⟨rfl, rfl⟩ | ⟨rfl, hA⟩ | ⟨rfl, hA⟩ | ⟨rfl, rfl, rfl⟩ | ⟨rfl, rfl, rfl⟩ | ⟨rfl, rfl, rfl⟩ | ⟨rfl, rfl⟩ | ⟨rfl, rfl⟩ | ⟨rfl, rfl⟩
              · skip
                have h9' := fun b o hb => (hall b o hb).lay1
                have H9' := Lib.hid h9'
                clear h9' hall
                refine fsm_step (by simp only [List.getElem?_toArray, List.getElem?_cons_succ, List.getElem?_cons_zero]; rfl) ?_
                simp only [puts, Act.put, List.setIfInBounds_toArray, List.set_cons_succ, List.set_cons_zero]
                go_wp2_with fail
                exact StepPost.mk (fun _ => (H9'.out _ _ Hcx.out).keeps (by omega)) [(.slice (some ⟨W4.heap.size, 0, none⟩) 1 1), z1, y2, z2, y3, z3] (by kernel_rfl) ⟨_, _, _, _, _, _, rfl, Nat.le_trans hsw (by simp [World.setCell]), H9'.out⟩
              · skip
                have h9' := fun b o hb => (hall b o hb).lay2
                have H9' := Lib.hid h9'
                clear h9' hall
                refine fsm_step (by simp only [List.getElem?_toArray, List.getElem?_cons_succ, List.getElem?_cons_zero]; rfl) ?_
                simp only [puts, Act.put, List.setIfInBounds_toArray, List.set_cons_succ, List.set_cons_zero]
                go_wp2_with fail
                exact StepPost.mk (fun _ => (H9'.out _ _ Hcx.out).keeps (by omega)) [y1, z1, (.slice (some ⟨W4.heap.size, 0, none⟩) 1 1), z2, y3, z3] (by kernel_rfl) ⟨_, _, _, _, _, _, rfl, Nat.le_trans hsw (by simp [World.setCell]), H9'.out⟩
              · skip
                have h9' := fun b o hb => (hall b o hb).lay3
                have H9' := Lib.hid h9'
                clear h9' hall
                refine fsm_step (by simp only [List.getElem?_toArray, List.getElem?_cons_succ, List.getElem?_cons_zero]; rfl) ?_
                simp only [puts, Act.put, List.setIfInBounds_toArray, List.set_cons_succ, List.set_cons_zero]
                go_wp2_with fail
                exact StepPost.mk (fun _ => (H9'.out _ _ Hcx.out).keeps (by omega)) [y1, z1, y2, z2, (.slice (some ⟨W4.heap.size, 0, none⟩) 1 1), z3] (by kernel_rfl) ⟨_, _, _, _, _, _, rfl, Nat.le_trans hsw (by simp [World.setCell]), H9'.out⟩
              · skip
                have h9 := hall _ _ Hcx.out
                obtain ⟨g, rfl, hg⟩ := h9.s1 (by omega) rfl
                have ho := h9.own1
                have hc := fun j => cell_of_row W4 g j _ 3 (0, 0) (hg)
                have hgl := h9.size
                have Hall := Lib.hid hall
                have hsrc : SlAt W4 1 (some ⟨g, 0, none⟩) 1 (fun q => (intRows .i64 [(j : Int)]).getD q []) := slAt_one (cells_one (by have := hc 0; simpa using this))
                have Ho := Lib.hid ho
                have Hsrc := Lib.hid hsrc
                clear ho hsrc
                clear hc
                clear h9 hall
                refine fsm_step (by simp only [List.getElem?_toArray, List.getElem?_cons_succ, List.getElem?_cons_zero]; rfl) ?_
                simp only [puts, Act.put, List.setIfInBounds_toArray, List.set_cons_succ, List.set_cons_zero]
                go_wp2_with (at_builtin; refine wpList_app elem24 _ rfl (.tmp 90) (.tmp 92) rfl (w0.heap.size + 6) _ _ rfl Ho.out (some ⟨g, 0, none⟩) 1 1 (intRows .i64 [(j : Int)]) rfl rfl Hsrc.out (intRows_row _ _) ?_ ?_ ?_)
                · rw [ints_len]; simp; omega
                · omega
                · intro v' w5 ho5 hg5 hor5
                  have h9' := fun b o hb => (Hall.out b o hb).app1 ho5 hg5 hor5
                  have hsw5 := hg5.size
                  have H9' := Lib.hid h9'
                  clear h9' ho5 hg5 hor5
                  go_wp2_with fail
                  exact StepPost.mk (fun _ => (H9'.out _ _ Hcx.out).keeps (by omega)) [(.slice (some ⟨g, 0, none⟩) 1 1), v', y2, z2, y3, z3] (by kernel_rfl) ⟨_, _, _, _, _, _, rfl, Nat.le_trans hsw hsw5, H9'.out⟩
              · skip
                have h9 := hall _ _ Hcx.out
                obtain ⟨g, rfl, hg, hne1⟩ := h9.s2 (by omega) rfl
                have ho := h9.own2
                have hc := fun j => cell_of_row W4 g j _ 3 (0, 0) (hg)
                have hgl := h9.size
                have Hall := Lib.hid hall
                have hsrc : SlAt W4 1 (some ⟨g, 0, none⟩) 1 (fun q => (intRows .i64 [un]).getD q []) := slAt_one (cells_one (by have := hc 0; simpa using this))
                have Ho := Lib.hid ho
                have Hsrc := Lib.hid hsrc
                clear ho hsrc
                clear hc
                clear h9 hall
                refine fsm_step (by simp only [List.getElem?_toArray, List.getElem?_cons_succ, List.getElem?_cons_zero]; rfl) ?_
                simp only [puts, Act.put, List.setIfInBounds_toArray, List.set_cons_succ, List.set_cons_zero]
                go_wp2_with (at_builtin; refine wpList_app elem24 _ rfl (.tmp 94) (.tmp 97) rfl (w0.heap.size + 6) _ _ rfl Ho.out (some ⟨g, 0, none⟩) 1 1 (intRows .i64 [un]) rfl rfl Hsrc.out (intRows_row _ _) ?_ ?_ ?_)
                · rw [ints_len]; simp; omega
                · omega
                · intro v' w5 ho5 hg5 hor5
                  have h9' := fun b o hb => (Hall.out b o hb).app2 ho5 hg5 hor5
                  have hsw5 := hg5.size
                  have H9' := Lib.hid h9'
                  clear h9' ho5 hg5 hor5
                  go_wp2_with fail
                  exact StepPost.mk (fun _ => (H9'.out _ _ Hcx.out).keeps (by omega)) [y1, z1, (.slice (some ⟨g, 0, none⟩) 1 1), v', y3, z3] (by kernel_rfl) ⟨_, _, _, _, _, _, rfl, Nat.le_trans hsw hsw5, H9'.out⟩
              · skip
                have h9 := hall _ _ Hcx.out
                obtain ⟨g, rfl, hg, hne1, hne2⟩ := h9.s3 (by omega) rfl
                have ho := h9.own3
                have hc := fun j => cell_of_row W4 g j _ 3 (0, 0) (hg)
                have hgl := h9.size
                have Hall := Lib.hid hall
                have hsrc : SlAt W4 1 (some ⟨g, 0, none⟩) 1 (fun q => (intRows .i64 [lo]).getD q []) := slAt_one (cells_one (by have := hc 0; simpa using this))
                have Ho := Lib.hid ho
                have Hsrc := Lib.hid hsrc
                clear ho hsrc
                clear hc
                clear h9 hall
                refine fsm_step (by simp only [List.getElem?_toArray, List.getElem?_cons_succ, List.getElem?_cons_zero]; rfl) ?_
                simp only [puts, Act.put, List.setIfInBounds_toArray, List.set_cons_succ, List.set_cons_zero]
                go_wp2_with (at_builtin; refine wpList_app elem24 _ rfl (.tmp 99) (.tmp 103) rfl (w0.heap.size + 6) _ _ rfl Ho.out (some ⟨g, 0, none⟩) 1 1 (intRows .i64 [lo]) rfl rfl Hsrc.out (intRows_row _ _) ?_ ?_ ?_)
                · rw [ints_len]; simp; omega
                · omega
                · intro v' w5 ho5 hg5 hor5
                  have h9' := fun b o hb => (Hall.out b o hb).app3 ho5 hg5 hor5
                  have hsw5 := hg5.size
                  have H9' := Lib.hid h9'
                  clear h9' ho5 hg5 hor5
                  go_wp2_with fail
                  exact StepPost.mk (fun _ => (H9'.out _ _ Hcx.out).keeps (by omega)) [y1, z1, y2, z2, (.slice (some ⟨g, 0, none⟩) 1 1), v'] (by kernel_rfl) ⟨_, _, _, _, _, _, rfl, Nat.le_trans hsw hsw5, H9'.out⟩
              · skip
                have h9 := hall _ _ Hcx.out
                obtain ⟨za, zn, zc, rfl⟩ := h9.sl1
                have h9' := fun b o hb => (hall b o hb).store1
                have H9' := Lib.hid h9'
                have cb := ((Ext.refl W4).box h9.bl).1
                have cf := ((Ext.refl W4).box h9.bl).2
                clear h9' h9 hall
                refine fsm_step (by simp only [List.getElem?_toArray, List.getElem?_cons_succ, List.getElem?_cons_zero]; rfl) ?_
                simp only [puts, Act.put, List.setIfInBounds_toArray, List.set_cons_succ, List.set_cons_zero]
                go_wp2_with fail
                exact StepPost.mk (fun h => by simp at h) [y1, .slice za zn zc, y2, z2, y3, z3] (by kernel_rfl) ⟨_, _, _, _, _, _, rfl, Nat.le_trans hsw (by simp [World.setCell]), H9'.out⟩
              · skip
                have h9 := hall _ _ Hcx.out
                obtain ⟨za, zn, zc, rfl⟩ := h9.sl2
                have h9' := fun b o hb => (hall b o hb).store2
                have H9' := Lib.hid h9'
                have cb := ((Ext.refl W4).box h9.bu).1
                have cf := ((Ext.refl W4).box h9.bu).2
                clear h9' h9 hall
                refine fsm_step (by simp only [List.getElem?_toArray, List.getElem?_cons_succ, List.getElem?_cons_zero]; rfl) ?_
                simp only [puts, Act.put, List.setIfInBounds_toArray, List.set_cons_succ, List.set_cons_zero]
                go_wp2_with fail
                exact StepPost.mk (fun h => by simp at h) [y1, z1, y2, .slice za zn zc, y3, z3] (by kernel_rfl) ⟨_, _, _, _, _, _, rfl, Nat.le_trans hsw (by simp [World.setCell]), H9'.out⟩
              · skip
                have h9 := hall _ _ Hcx.out
                obtain ⟨za, zn, zc, rfl⟩ := h9.sl3
                have h9' := fun b o hb => (hall b o hb).store3
                have H9' := Lib.hid h9'
                have cb := ((Ext.refl W4).box h9.bf).1
                have cf := ((Ext.refl W4).box h9.bf).2
                clear h9' h9 hall
                refine fsm_step (by simp only [List.getElem?_toArray, List.getElem?_cons_succ, List.getElem?_cons_zero]; rfl) ?_
                simp only [puts, Act.put, List.setIfInBounds_toArray, List.set_cons_succ, List.set_cons_zero]
                go_wp2_with fail
                exact StepPost.mk (fun h => by simp at h) [y1, z1, y2, z2, y3, .slice za zn zc] (by kernel_rfl) ⟨_, _, _, _, _, _, rfl, Nat.le_trans hsw (by simp [World.setCell]), H9'.out⟩
            · rintro ⟨A, b1, b2, b3⟩ xs W4 ⟨y1, z1, y2, z2, y3, z3, rfl, hsw, hall⟩ hA
              obtain rfl : A = 6 := by simpa [fin9] using hA
              clear hr3d hbx3d Hxa Hbx3
              simp only at hall
              have hr4 := (hall _ _ Hcx.out).done
              have hfr4 := (Hfr3.out.trans (Fr.ext (Ext.refl _).drew)).trans (I9.fr hsw hall hr4.1)
              have hc4 : C9 w0 W4 z1 z2 z3 xb _ := ⟨hr4.2, hsz, by simpa using (hall _ _ Hcx.out).xa⟩
              have Hr4 := Lib.hid hr4
              have Hfr4 := Lib.hid hfr4
              have Hc4 := Lib.hid hc4
              clear hr4 hfr4 hc4
              clear hall hA
              have cbo := ((Ext.refl W4).box Hr4.out.1.bo).1
              unfold moreVal at cbo
              simp only [puts]
              go_wp2_with fail
              have hlb' : ∀ k ∈ ls ++ [(j : Int)], 0 ≤ k ∧ k < (n : Int) := fun k hk => by
                rcases List.mem_append.1 hk with h | h
                · exact Hlb.out k h
                · obtain rfl : k = (j : Int) := by simpa using h
                  omega
              have hgs : gives l (ls ++ [(j : Int)]) = gives l ls ++ [G2] := by simp [gives, Hgv.out]
              have hFn : (fun q => if q = G2 then Value.bool true else gF l ls q) = gF l (ls ++ [(j : Int)]) := by
                funext q
                unfold gF
                rw [hgs]
                by_cases hq : q = G2 <;> simp [hq]
              have hr4' : Rd w0 bm bs W4 (ls ++ [(j : Int)]) ((ls ++ [(j : Int)]).map (unitsOf l)) ((ls ++ [(j : Int)]).map (loOf l)) z1 z2 z3 (gF l (ls ++ [(j : Int)])) := by
                have h := Hr4.out.1
                rw [hFn] at h
                simpa [Hun.out, Hlo.out] using h
              have hcall := Ih.out (ls ++ [(j : Int)]) W4 z1 z2 z3 (by simp; omega) (fun _ => by simp) hlb' hr4'
              have hxb4 := Hr4.out.2
              have hFb : ∀ W', (∃ v1 v2 v3, Rd w0 bm bs W' (ls ++ [(j : Int)]) ((ls ++ [(j : Int)]).map (unitsOf l)) ((ls ++ [(j : Int)]).map (loOf l)) v1 v2 v3 (gF l (ls ++ [(j : Int)]))) → True := fun _ _ => trivial
              clear hFb hlb' hFn hr4' hxb4
              cases hres : dfs l stall st (ls ++ [(j : Int)]) with
              | some x =>
                have hfn : ff j = some x := by rw [Hfk.out, if_neg (by simp [hsk]), hres]
                have hfin := findSome_take Hnone.out Hk.out hfn
                rw [hres] at hcall
                have Hcall := Lib.hid hcall
                have Hfin := Lib.hid hfin
                clear hcall hfin
                clear hres hfn hgs cbo hsk
                refine Hcall.out.mono ?_
                rintro e W5 ⟨rfl, l2', l3', v1, v2, v3, F', hr5⟩
                have cb5 := ((Ext.refl W5).box hr5.bl).1
                go_wp2_with fail
                go_ret
                rw [Hfin.out]
                exact ⟨rfl, l2', l3', v1, v2, v3, F', hr5⟩
              | none =>
                have hfn : ff j = none := by rw [Hfk.out, if_neg (by simp [hsk]), hres]
                have hnext := take_none Hnone.out Hk.out hfn
                rw [hres] at hcall
                have Hcall := Lib.hid hcall
                have Hnext := Lib.hid hnext
                have Hgs := Lib.hid hgs
                clear hcall hnext hgs
                clear hres hfn cbo hsk
                refine Hcall.out.mono ?_
                rintro e W5 ⟨rfl, v1, v2, v3, hr5, hfr5⟩
                have hx5 := hfr5.2.1 xb _ Hc4.out
                have hfrw := Hfr4.out.trans hfr5
                obtain ⟨g1, c1, rfl, k1, k1', hc1⟩ := hr5.o1.cut
                have ho2 := hr5.o2
                have ho3 := hr5.o3
                simp only [List.map_append, List.map_cons, List.map_nil] at ho2 ho3
                obtain ⟨g2, c2, rfl, k2, k2', hc2⟩ := ho2.cut
                obtain ⟨g3, c3, rfl, k3, k3', hc3⟩ := ho3.cut
                have e2 : (ls.map (unitsOf l)).length = (m' + 1) := by simp [Hm.out]
                have e3 : (ls.map (loOf l)).length = (m' + 1) := by simp [Hm.out]
                rw [e2] at k2 hc2 hr5 hfrw
                rw [e3] at k3 hc3 hr5 hfrw
                rw [Hm.out] at k1 hc1 hr5 hfrw
                unfold maxLen at k1' k2' k3'
                have cb1 := ((Ext.refl W5).box hr5.bl).1
                have cb2 := ((Ext.refl W5).box hr5.bu).1
                have cb3 := ((Ext.refl W5).box hr5.bf).1
                have Hr5 := Lib.hid hr5
                have Hx5 := Lib.hid hx5
                have Hfrw := Lib.hid hfrw
                have Hc1 := Lib.hid hc1
                have Hc2 := Lib.hid hc2
                have Hc3 := Lib.hid hc3
                clear hr5 hx5 hfrw hc1 hc2 hc3
                clear ho2 ho3 e2 e3 hfr5
                go_wp2_with fail
                clear cb1 cb2 cb3
                refine wp_region_E (E := E13 w0.heap.size) (by kernel_rfl) (fun hcl => ?_)
                refine anyE_take [0, 1, 2] [0, 1, 2, 3, 4, 5, 6, 7, 8] (fun W => W.heap[w0.heap.size + 2]? = some (.cells #[.slice (some ⟨g1, 0, none⟩) ((m' + 1) + 1) c1] 24 (0, 0))) 9 _ hcl (by kernel_rfl) rfl Hr5.out.bl (fun k hk w => E13_read (by simp at hk; omega) w) (fun k hk w w' => keep13a hk w w') ?_
                intro ι _ f hf
                have f0 := fun q => ((Ext.refl (f q)).box (hf q)).1
                clear hf
                simp only [opsOf, consOp, List.getElem?_toArray, List.getElem?_cons_succ, List.getElem?_cons_zero]
                repeat (go_big_quiet_step (fail))
                refine wpQuiet_nil ?_
                clear f0 hcl
                intro hcl
                refine anyE_take [3, 4, 5] [0, 1, 2, 3, 4, 5, 6, 7, 8, 9] (fun W => W.heap[w0.heap.size + 3]? = some (.cells #[.slice (some ⟨g2, 0, none⟩) ((m' + 1) + 1) c2] 24 (0, 0))) 6 _ hcl (by kernel_rfl) rfl Hr5.out.bu (fun k hk w => E13_read (by simp at hk; omega) w) (fun k hk w w' => keep13b hk w w') ?_
                intro ι _ f hf
                have f0 := fun q => ((Ext.refl (f q)).box (hf q)).1
                clear hf
                simp only [opsOf, consOp, List.getElem?_toArray, List.getElem?_cons_succ, List.getElem?_cons_zero]
                repeat (go_big_quiet_step (fail))
                refine wpQuiet_nil ?_
                clear f0 hcl
                intro hcl
                refine anyE_take [6, 7, 8] [0, 1, 2, 3, 4, 5, 6, 7, 8, 9, 10] (fun W => W.heap[w0.heap.size + 4]? = some (.cells #[.slice (some ⟨g3, 0, none⟩) ((m' + 1) + 1) c3] 24 (0, 0))) 3 _ hcl (by kernel_rfl) rfl Hr5.out.bf (fun k hk w => E13_read (by simp at hk; omega) w) (fun k hk w w' => keep13c hk w w') ?_
                intro ι _ f hf
                have f0 := fun q => ((Ext.refl (f q)).box (hf q)).1
                clear hf
                simp only [opsOf, consOp, List.getElem?_toArray, List.getElem?_cons_succ, List.getElem?_cons_zero]
                repeat (go_big_quiet_step (fail))
                refine wpQuiet_nil ?_
                clear f0 hcl
                intro hcl
                have cb1 := ((Ext.refl W5).box Hr5.out.bl)
                have cb2 := ((Ext.refl W5).box Hr5.out.bu)
                have cb3 := ((Ext.refl W5).box Hr5.out.bf)
                obtain ⟨cb1, cf1⟩ := cb1
                obtain ⟨cb2, cf2⟩ := cb2
                obtain ⟨cb3, cf3⟩ := cb3
                refine anyE_one (k := 9) (by kernel_rfl) (by simp only [List.getElem?_toArray, List.getElem?_cons_succ, List.getElem?_cons_zero]; rfl) hcl ?_
                clear hcl
                go_wp2_with fail
                refine ⟨E13_9 (fun b hb => Below.heap_setCell _ _ _ _ hb), fun hcl => ?_⟩
                refine anyE_one (k := 10) (by kernel_rfl) (by simp only [List.getElem?_toArray, List.getElem?_cons_succ, List.getElem?_cons_zero]; rfl) hcl ?_
                clear hcl
                go_wp2_with fail
                refine ⟨E13_10 (fun b hb => Below.heap_setCell _ _ _ _ hb), fun hcl => ?_⟩
                refine anyE_one (k := 11) (by kernel_rfl) (by simp only [List.getElem?_toArray, List.getElem?_cons_succ, List.getElem?_cons_zero]; rfl) hcl ?_
                clear hcl
                go_wp2_with fail
                refine ⟨E13_11, fun hcl => ?_⟩
                refine anyE_done (by kernel_rfl) ?_
                clear hcl cb1 cb2 cb3 cf1 cf2 cf3
                have hr6 := (Hr5.out.cut3 Hc1.out rfl Hc2.out rfl Hc3.out rfl).later (Ext.refl _).drew
                have hfr6 := Hfrw.out.trans (Fr.low (W' := ((((W5.setCell ⟨w0.heap.size + 2, 0, none⟩ (.slice (some ⟨g1, 0, none⟩) (m' + 1) c1)).setCell ⟨w0.heap.size + 3, 0, none⟩ (.slice (some ⟨g2, 0, none⟩) (m' + 1) c2)).setCell ⟨w0.heap.size + 4, 0, none⟩ (.slice (some ⟨g3, 0, none⟩) (m' + 1) c3)).drew)) (c1 := (.slice (some ⟨g1, 0, none⟩) (m' + 1) c1)) (c2 := (.slice (some ⟨g2, 0, none⟩) (m' + 1) c2)) (c3 := (.slice (some ⟨g3, 0, none⟩) (m' + 1) c3)) (by simp [World.setCell]) (fun b o hb hlow => by
                  show ((W5.setCell ⟨w0.heap.size + 2, 0, none⟩ (.slice (some ⟨g1, 0, none⟩) (m' + 1) c1)).setCell ⟨w0.heap.size + 3, 0, none⟩ (.slice (some ⟨g2, 0, none⟩) (m' + 1) c2) |>.setCell ⟨w0.heap.size + 4, 0, none⟩ (.slice (some ⟨g3, 0, none⟩) (m' + 1) c3)).heap[b]? = some o
                  rw [Below.heap_setCell _ _ _ _ (by simp; omega), Below.heap_setCell _ _ _ _ (by simp; omega), Below.heap_setCell _ _ _ _ (by simp; omega)]
                  exact hb) rfl rfl rfl)
                have hx6 : ((((W5.setCell ⟨w0.heap.size + 2, 0, none⟩ (.slice (some ⟨g1, 0, none⟩) (m' + 1) c1)).setCell ⟨w0.heap.size + 3, 0, none⟩ (.slice (some ⟨g2, 0, none⟩) (m' + 1) c2)).setCell ⟨w0.heap.size + 4, 0, none⟩ (.slice (some ⟨g3, 0, none⟩) (m' + 1) c3)).drew).heap[xb]? = some (.cells #[.int .i64 pl, .int .i64 G2, .int .i64 oe, .int .i64 un, .int .i64 lo, .int .i64 hi, .int .i64 fr, .int .i64 to] 81 (0, 0)) := by
                  show ((W5.setCell ⟨w0.heap.size + 2, 0, none⟩ (.slice (some ⟨g1, 0, none⟩) (m' + 1) c1)).setCell ⟨w0.heap.size + 3, 0, none⟩ (.slice (some ⟨g2, 0, none⟩) (m' + 1) c2) |>.setCell ⟨w0.heap.size + 4, 0, none⟩ (.slice (some ⟨g3, 0, none⟩) (m' + 1) c3)).heap[xb]? = _
                  rw [Below.heap_setCell _ _ _ _ (by simp; omega), Below.heap_setCell _ _ _ _ (by simp; omega), Below.heap_setCell _ _ _ _ (by simp; omega)]
                  exact Hx5.out
                generalize ((((W5.setCell ⟨w0.heap.size + 2, 0, none⟩ (.slice (some ⟨g1, 0, none⟩) (m' + 1) c1)).setCell ⟨w0.heap.size + 3, 0, none⟩ (.slice (some ⟨g2, 0, none⟩) (m' + 1) c2)).setCell ⟨w0.heap.size + 4, 0, none⟩ (.slice (some ⟨g3, 0, none⟩) (m' + 1) c3)).drew) = W6 at *
                obtain ⟨W7, hrun, hmap, hgrow⟩ := run_mapUpdate_int (P := Try.prog) hr6.map Try.underlying128 Try.underlying3 G2 (.bool false)
                have cbg := ((Ext.refl W6).box hr6.bg).1
                have cbx := ((Ext.refl W6).box hx6).1
                have hFn : (fun q => if q = G2 then Value.bool false else gF l (ls ++ [(j : Int)]) q) = gF l ls := by
                  funext q
                  unfold gF
                  rw [Hgs.out]
                  by_cases hq : q = G2
                  · subst hq; simp [hgi]
                  · simp [hq]
                have hr7 := hr6.mapped hgrow hmap
                rw [hFn] at hr7
                have hfr7 := hfr6.trans (Fr.low (c1 := (.slice (some ⟨g1, 0, none⟩) (m' + 1) c1)) (c2 := (.slice (some ⟨g2, 0, none⟩) (m' + 1) c2)) (c3 := (.slice (some ⟨g3, 0, none⟩) (m' + 1) c3)) hgrow.size (fun b o hb hlow => (hgrow.block b (heap_lt hb) (by simp; omega)).trans hb) rfl rfl rfl)
                have Hr7 := Lib.hid hr7
                have Hfr7 := Lib.hid hfr7
                clear hr7 hfr7
                clear hr6 hx6 hmap hgrow hFn hfr6
                go_wp2_with fail
                clear hrun cbg cbx
                go_roundw
                case rel => exact ⟨t + 1, _, _, _, by omega, by go_num, Hr7.out, Hnext.out, Hfr7.out⟩
                case measure => simp [intOf]; omega
          · have hggB : (G2 != og) = true := by rw [bne_iff_ne]; exact hgg
            have hsk : skipB l ls j = true := by unfold skipB; rw [Hgv.out, HG2.out]; simp [hgi, Hm.out, hggB]
            have hfn : ff j = none := by rw [Hfk.out, if_pos hsk]
            have hnext := take_none Hnone.out Hk.out hfn
            have Hnext := Lib.hid hnext
            clear hnext
            clear hsk hfn
            go_wp2_with fail
            refine wp_region_ext (by kernel_rfl) (by kernel_rfl) (fun f hf hs => ?_)
            have f0 := fun q => ((hf q).box rbg).1
            have f1 := fun q => ((hf q).box Hb0.out).1
            have f3 := fun q => (show (Instr.lookup 128 (.map (some w0.heap.size)) (.int .i64 og) false).run Try.prog (f q) = .ok (.bool false) (f q) from (run_lookup_int (rmap.ext (hf q)) Try.underlying128 Try.underlying3 (by kernel_rfl) og).trans (by rw [hgf]))
            have f2 := fun q => ((hf q).box rbl).1
            have f4 := fun q => (hf q).cell q2
            have f5 := fun q => (hf q).cell d2
            have f6 := fun q => ((hr1e.trans (hf q)).box Hbm.out).1
            have f7 := fun q => (hf q).cell hmp0
            clear hf hs
            repeat (go_big_quiet_step (fail))
            refine wpQuiet_nil ?_
            intro W2 hW2
            clear f0 f1 f3 f2 f4 f5 f6 f7
            have hr2 := Hr1.out.later hW2
            have hfr2 := Hfr.out.trans (Fr.ext (Hx0.out.trans hW2))
            have Hr2 := Lib.hid hr2
            have Hfr2 := Lib.hid hfr2
            clear hr2 hfr2
            clear rbg rbl rmap hW2 hgf q2 d2 hr1e hmp0
            go_wp2_with fail
            go_roundw
            case rel => exact ⟨t + 1, _, vu, vf, by omega, by go_num, Hr2.out, Hnext.out, Hfr2.out⟩
            case measure => simp [intOf]; omega
      · obtain rfl : t = sn := by omega
        have htl' : decide ((t : Int) < (t : Int)) = false := by simp
        rw [List.take_of_length_le (by have := Hsl.out; omega)] at hnone
        have Hr := Lib.hid hr
        have Hnone := Lib.hid hnone
        clear hr hnone
        go_wp2_with fail
        go_ret
        rw [Hnone.out]
        exact ⟨rfl, vl, vu, vf, Hr.out, Hfr.out⟩
end Go.Proofs.Ytkbhmajcddmhnaa
