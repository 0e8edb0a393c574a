/- brand.line: the iterator over an animal, its mother, and so on: its contract. -/
import Derived.Test.YtcoelhpmkhimpaaDaysIt
import Derived.Test.YtcoelhpmkhimpaaHerdD
import Derived.Test.YtcoelhpmkhimpaaRefHerd
import Derived.Test.YtcoelhpmkhimpaaMapI
namespace Go.Proofs.Ytcoelhpmkhimpaa
open Go.RowKit
set_option linter.unusedVariables false
set_option linter.unusedSimpArgs false
attribute [local go_sem] Oper.semAt_some
def momsI (l : List Animal) : List Int := (List.range l.length).map (momI l)
theorem momsI_len (l : List Animal) : (momsI l).length = l.length := by simp [momsI]
theorem momsI_get {l : List Animal} {k : Nat} (h : k < l.length) : (momsI l)[k]? = some (momI l k) := by
  unfold momsI
  rw [List.getElem?_map, List.getElem?_range h]
  rfl
/-- what is still to come, where the box holds i -/
def Rest (l : List Animal) (i : Int) (r : List Nat) : Prop := (i = -1 ∧ r = []) ∨ ∃ c : Nat, i = c ∧ c < l.length ∧ r = lineOf l c
theorem Rest.next {l : List Animal} (h : HerdOk l) {c : Nat} (hc : c < l.length) : ∃ r, lineOf l c = c :: r ∧ Rest l (momI l c) r := by
  cases hm : mom l c with
  | none =>
    refine ⟨[], (h.lineIs hc).det (.root hm), .inl ⟨?_, rfl⟩⟩
    unfold momI
    rw [hm]
  | some m =>
    refine ⟨lineOf l m, (h.lineIs hc).det (.step hm (h.lineIs (mom_lt hm))), .inr ⟨m, ?_, mom_lt hm, rfl⟩⟩
    unfold momI
    rw [hm]
def depthW (l : List Animal) (pi : Nat) (W : World) : Nat := match W.cell? ⟨pi, 0, none⟩ with | some (.int _ i) => if i < 0 then 0 else (lineOf l i.toNat).length | _ => 0
theorem depth_rest {l : List Animal} {pi : Nat} {W : World} {i : Int} {r : List Nat} (hb : W.heap[pi]? = some (.cells #[.int .i64 i] 3 (0, 0))) (h : Rest l i r) : depthW l pi W = r.length := by
  unfold depthW
  rw [((Ext.refl W).box hb).1 0]
  simp only [List.getElem?_toArray, List.getElem?_cons_zero]
  rcases h with ⟨rfl, rfl⟩ | ⟨c, rfl, hc, rfl⟩
  · rfl
  · rw [if_neg (by omega), Int.toNat_natCast]
def natEnc (x : Nat) : Array Value := #[.int .i64 (x : Int)]
theorem line_any (hb : Nat) (i : Int) (w : World) : Calls Try.prog 63 #[.pointer (some ⟨hb, 0, none⟩), .int .i64 i] w fun e w' => e = .returned (.func (.func 110) #[] #[.pointer (some ⟨w.heap.size + 1, 0, none⟩), .pointer (some ⟨w.heap.size, 0, none⟩)]) ∧ w' = (w.alloc (.cells #[.pointer (some ⟨hb, 0, none⟩)] 134)).alloc (.cells #[.int .i64 i] 3) := by
  go_enter Try.func63, Try.ntmps63
  go_wp2_with fail
  go_ret
  exact ⟨rfl, rfl⟩
/-- where animals are, as the map of places says it -/
def placeV (l : List Animal) : Int → Option Value := fun q => (placeOf l q).map fun (j : Nat) => .int .i64 (j : Int)
/-- a herd at work -/
structure HerdIn (w : World) (hb : Nat) (a : Option Addr) (c mp : Nat) (ma : Option Addr) (mc : Nat) (v : Value) (l : List Animal) : Prop where
  box : w.heap[hb]? = some (.cells #[.slice a l.length c, .map (some mp), .slice ma l.length mc, v] 141 (0, 0))
  mcap : l.length ≤ mc ∧ mc ≤ maxLen
  animals : AnimalsAt w a l.length l
  acap : l.length ≤ c ∧ c ≤ maxLen
  map : OMapIs w mp (placeV l)
  moms : IntsAt .i64 w ma l.length (momsI l)
theorem HerdIn.ext {w w' : World} {hb : Nat} {a : Option Addr} {c mp : Nat} {ma : Option Addr} {mc : Nat} {v : Value} {l : List Animal} (h : HerdIn w hb a c mp ma mc v l) (e : Ext w w') : HerdIn w' hb a c mp ma mc v l :=
  ⟨e.heap h.box, h.mcap, h.animals.ext e, h.acap, h.map.ext e, h.moms.ext e⟩
def HerdAt (w : World) (hb : Nat) (l : List Animal) : Prop := ∃ a c mp ma mc v, HerdIn w hb a c mp ma mc v l
theorem KpO.mono' {O O' : Nat → Prop} {A B : World} (h : KpO O A B) (hO : ∀ b, O b → O' b) : KpO O' A B := ⟨h.size, fun b o hb hc hn => h.block b o hb hc fun q => hn (hO b q)⟩
theorem IntsAt.kpO {q : IntKind} {O : Nat → Prop} {A B : World} {a : Option Addr} {n : Nat} {l : List Int} (h : IntsAt q A a n l) (k : KpO O A B) (hn : ∀ x, a = some x → ¬O x.block) : IntsAt q B a n l := ⟨h.1, h.2.kpO k hn⟩
set_option maxRecDepth 100000 in
set_option maxHeartbeats 8000000 in
theorem line1_any (n : Nat) (y pi ph hb mp : Nat) (a ma : Option Addr) (an ac mc : Nat) (mv : Value) (l : List Animal) (hok : HerdOk l) (i : Int) (L : List Nat) (hL : Rest l i L) (O : Nat → Prop) (W : World)
    (hI : W.heap[pi]? = some (.cells #[.int .i64 i] 3 (0, 0))) (hH : W.heap[ph]? = some (.cells #[.pointer (some ⟨hb, 0, none⟩)] 134 (0, 0))) (hB : W.heap[hb]? = some (.cells #[.slice a an ac, .map (some mp), .slice ma l.length mc, mv] 141 (0, 0))) (hm : IntsAt .i64 W ma l.length (momsI l)) (hmc : l.length ≤ mc) (hmm : mc ≤ maxLen)
    (hOi : ¬O pi) (hOh : ¬O ph) (hOb : ¬O hb) (hOm : ∀ x, ma = some x → ¬O x.block) (hni : ph ≠ pi ∧ hb ≠ pi ∧ ∀ x, ma = some x → x.block ≠ pi)
    (J Jx : List Nat → World → Prop) (hJ : ∀ s A B, J s A → But (fun b => b = pi) A B → J s B)
    (hY : ∀ pre x W1, J pre W1 → pre ++ [x] <+: L → YieldAt Fence.wide (n - 1) Try.prog y (natEnc x) W1 fun e W' =>
      (e = .returned (.bool true) ∧ J (pre ++ [x]) W' ∧ KpO O W1 W') ∨ (e = .returned (.bool false) ∧ Jx (pre ++ [x]) W'))
    (h0 : J [] W) :
    CallsIn Fence.wide n Try.prog 110 #[.func (.yield y) #[] #[], .pointer (some ⟨pi, 0, none⟩), .pointer (some ⟨ph, 0, none⟩)] W fun e W' => (∃ v, e = .returned v) ∧ ((∃ xs, xs = L ∧ J xs W') ∨ (∃ pre, pre <+: L ∧ Jx pre W')) := by
  have hlen := hok.len
  have hnx := fun c (hc : c < l.length) => Rest.next hok hc
  have HI := Lib.hid hI
  have HH := Lib.hid hH
  have HB := Lib.hid hB
  have Hm := Lib.hid hm
  have HOi := Lib.hid hOi
  have HOh := Lib.hid hOh
  have HOb := Lib.hid hOb
  have HOm := Lib.hid hOm
  have Hni := Lib.hid hni
  have HJ := Lib.hid hJ
  have HY := Lib.hid hY
  have HL := Lib.hid hL
  have Hnx := Lib.hid hnx
  clear hI hH hB hm hOi hOh hOb hOm hni hJ hY hL hnx
  refine callsIn_of_wp Try.func110 rfl trivial ?_ rfl
  simp only [Try.ntmps110, List.size_toArray, List.length_cons, List.length_nil, Nat.reduceAdd, Nat.reduceSub, Array.replicate_succ, Array.replicate_zero, List.push_toArray, List.append_toArray, List.nil_append, List.cons_append]
  gi_wp2
  gi_loopw [] (fun wr => ∃ (pre r : List Nat) (i' : Int), J pre wr ∧ pre ++ r = L ∧ Rest l i' r ∧ wr.heap[pi]? = some (.cells #[.int .i64 i'] 3 (0, 0)) ∧ KpO (fun b => O b ∨ b = pi) W wr) (fun wr => depthW l pi wr)
  case atStart => exact ⟨[], L, i, h0, rfl, HL.out, HI.out, KpO.refl _ _⟩
  case round =>
    obtain ⟨pre, r, i', hj, hseq, hr, hb, hkp⟩ := hrel
    clear h0
    have hd := depth_rest hb hr
    obtain ⟨zi, _⟩ := (Ext.refl wr).box hb
    rcases hr with ⟨rfl, rfl⟩ | ⟨c, rfl, hc, rfl⟩
    · rw [List.append_nil] at hseq
      have Hj := Lib.hid hj
      have Hseq := Lib.hid hseq
      clear hj hseq
      clear hd hkp hb
      gi_wp2
      go_end0
      exact ⟨⟨_, rfl⟩, .inl ⟨_, Hseq.out, Hj.out⟩⟩
    · obtain ⟨r', hr', hrest⟩ := Hnx.out c hc
      rw [hr'] at hseq hd
      have hY2 := HY.out pre c wr hj (by rw [← hseq]; exact ⟨r', by simp⟩)
      unfold natEnc at hY2
      obtain ⟨fn', tmps, assign, body, hy, hR⟩ := hY2
      have hxs : (pre ++ [c]) ++ r' = L := by rw [← hseq]; simp
      have HR := Lib.hid hR
      have hc0 : decide (0 ≤ (c : Int)) = true := by simp
      clear hR hseq hr' hj
      have Hxs := Lib.hid hxs
      have Hkp := Lib.hid hkp
      have Hrest := Lib.hid hrest
      have Hb := Lib.hid hb
      clear hxs hkp hrest hb
      gi_wp2
      refine ⟨fun h => (by cases h), HR.out.mono ?_⟩
      clear HR hy
      rintro e W3 (⟨rfl, hj3, hk3⟩ | ⟨rfl, hjx3⟩)
      · have hb3 := hk3.cells Hb.out HOi.out
        have hkp3 := Hkp.out.trans (hk3.mono' fun b h => .inl h)
        have hh3 := hkp3.cells HH.out (fun h => h.elim HOh.out Hni.out.1)
        have hB3 := hkp3.cells HB.out (fun h => h.elim HOb.out Hni.out.2.1)
        obtain ⟨b5, o5, x5, rfl, hx5, _, c5⟩ := (Hm.out.kpO hkp3 (fun x hx h => h.elim (HOm.out x hx) (Hni.out.2.2 x hx))).get c hc
        rw [momsI_get hc] at hx5
        cases hx5
        have hcB : decide ((c : Int) < (l.length : Int)) = true := by simp; omega
        obtain ⟨M, hM⟩ : ∃ M, momI l c = M := ⟨_, rfl⟩
        rw [hM] at c5
        have Hb3 := Lib.hid hb3
        have Hkp3 := Lib.hid hkp3
        have Hh3 := Lib.hid hh3
        have HB3 := Lib.hid hB3
        have C5 := Lib.hid c5
        have Hj3 := Lib.hid hj3
        have HM := Lib.hid hM
        clear hb3 hkp3 hh3 hB3 c5 hj3 hM
        clear hk3 zi
        gi_wp2
        refine wpIn_wide.2 ?_
        refine wp_region_plan (.take [0, 1, 2, 3, 4, 5, 6] (.fin (.one 7 .done))) [7] (Ext W3) _ (by kernel_rfl) (by kernel_rfl) rfl (EC.ext W3) ((Ext.refl _).drew) ?_
        simp only [planOf, treeOf, oneOp, twoOp, opsOf, consOp, callOC, oneOC, twoOC, List.getElem?_toArray, List.getElem?_cons_succ, List.getElem?_cons_zero]
        intro ι _ f hf
        have f0 := fun q => ((hf q).box Hb3.out).1
        have f1 := fun q => ((hf q).box Hh3.out).1
        have f2 := fun q => ((hf q).box HB3.out).1
        have f3 := fun q => (hf q).cell C5.out
        clear hf
        repeat (go_big_quiet_step (fail))
        refine wpQuiet_nil ?_
        clear f0 f1 f2 f3
        intro W4 hW4
        refine wpOT_one ?_
        obtain ⟨z4, zz4⟩ := (Ext.refl W4).box (hW4.heap Hb3.out)
        have hpi := heap_lt (hW4.heap Hb3.out)
        go_wp2_with fail
        refine wpOT_done ?_
        have hbut : But (fun b => b = pi) W3 (W4.setCell ⟨pi, 0, none⟩ (.int .i64 M)) := (hW4.but _).trans (But.setCell (i := 0) _ (.int .i64 M) rfl)
        have hj5 := HJ.out _ _ _ Hj3.out hbut
        have hb5 : (W4.setCell ⟨pi, 0, none⟩ (.int .i64 M)).heap[pi]? = some (.cells #[.int .i64 M] 3 (0, 0)) := by
          rw [heap_setCell_box, hW4.heap Hb3.out]
          rfl
        have hkp5 : KpO (fun b => O b ∨ b = pi) W (W4.setCell ⟨pi, 0, none⟩ (.int .i64 M)) := Hkp3.out.trans ⟨hbut.size, fun b o hb _ hn => hbut.block b o hb fun e => hn (.inr e)⟩
        have hr5 := Hrest.out
        rw [HM.out] at hr5
        have hd5 := depth_rest hb5 hr5
        generalize W4.setCell ⟨pi, 0, none⟩ (.int .i64 M) = W5 at *
        have Hj5 := Lib.hid hj5
        have Hb5 := Lib.hid hb5
        have Hkp5 := Lib.hid hkp5
        have Hr5 := Lib.hid hr5
        clear hj5 hb5 hkp5 hr5
        clear hbut hW4 z4 zz4
        gi_wp2
        go_roundw
        case rel => exact ⟨_, r', M, Hj5.out, Hxs.out, Hr5.out, Hb5.out, Hkp5.out⟩
        case measure => simp only [hd5, hd, List.length_cons]; omega
      · clear zi
        gi_wp2
        refine bodyPost_ret (results_none rfl _ _ _) rfl ?_
        exact ⟨⟨_, rfl⟩, .inr ⟨_, by rw [← Hxs.out]; exact List.prefix_append _ _, hjx3⟩⟩
/-- **the iterator yields an animal, its mother, and so on** -/
theorem line_stops (n : Nat) (pi ph hb mp : Nat) (a ma : Option Addr) (an ac mc : Nat) (mv : Value) (l : List Animal) (hok : HerdOk l) (i : Int) (L : List Nat) (hL : Rest l i L) (O : Nat → Prop) (w : World)
    (hI : w.heap[pi]? = some (.cells #[.int .i64 i] 3 (0, 0))) (hH : w.heap[ph]? = some (.cells #[.pointer (some ⟨hb, 0, none⟩)] 134 (0, 0))) (hB : w.heap[hb]? = some (.cells #[.slice a an ac, .map (some mp), .slice ma l.length mc, mv] 141 (0, 0))) (hm : IntsAt .i64 w ma l.length (momsI l)) (hmc : l.length ≤ mc) (hmm : mc ≤ maxLen)
    (hOi : ¬O pi) (hOh : ¬O ph) (hOb : ¬O hb) (hOm : ∀ x, ma = some x → ¬O x.block) (hni : ph ≠ pi ∧ hb ≠ pi ∧ ∀ x, ma = some x → x.block ≠ pi) :
    SeqStopsB Fence.wide n Try.prog 110 #[.pointer (some ⟨pi, 0, none⟩), .pointer (some ⟨ph, 0, none⟩)] natEnc (KpO O) (fun xs => xs = L) (fun pre => pre <+: L) L.length (fun b => b = pi) w := fun y J Jx W hE hJ _ hY h0 =>
  line1_any n y pi ph hb mp a ma an ac mc mv l hok i L hL O W (hE.heap hI) (hE.heap hH) (hE.heap hB) (hm.ext hE) hmc hmm hOi hOh hOb hOm hni J Jx hJ (fun pre x W1 h hp => hY pre x W1 h (by have := hp.length_le; simp at this; omega)) h0
/-- the same, of places that are known to be places of the herd -/
theorem line_stopsF (n : Nat) (pi ph hb mp : Nat) (a ma : Option Addr) (an ac mc : Nat) (mv : Value) (l : List Animal) (hok : HerdOk l) (c : Nat) (hc : c < l.length) (O : Nat → Prop) (w : World)
    (hI : w.heap[pi]? = some (.cells #[.int .i64 (c : Int)] 3 (0, 0))) (hH : w.heap[ph]? = some (.cells #[.pointer (some ⟨hb, 0, none⟩)] 134 (0, 0))) (hB : w.heap[hb]? = some (.cells #[.slice a an ac, .map (some mp), .slice ma l.length mc, mv] 141 (0, 0))) (hm : IntsAt .i64 w ma l.length (momsI l)) (hmc : l.length ≤ mc) (hmm : mc ≤ maxLen)
    (hOi : ¬O pi) (hOh : ¬O ph) (hOb : ¬O hb) (hOm : ∀ x, ma = some x → ¬O x.block) (hni : ph ≠ pi ∧ hb ≠ pi ∧ ∀ x, ma = some x → x.block ≠ pi) :
    SeqStopsB Fence.wide n Try.prog 110 #[.pointer (some ⟨pi, 0, none⟩), .pointer (some ⟨ph, 0, none⟩)] (fun x : {x : Nat // x < l.length} => natEnc x.1) (KpO O) (fun xs => xs.map (·.1) = lineOf l c) (fun pre => pre.map (·.1) <+: lineOf l c) (lineOf l c).length (fun b => b = pi) w := by
  intro y J Jx W hE hJ hJx hY h0
  have hlt := (hok.lineIs hc).lt hc
  refine (line1_any n y pi ph hb mp a ma an ac mc mv l hok c (lineOf l c) (.inr ⟨c, rfl, hc, rfl⟩) O W (hE.heap hI) (hE.heap hH) (hE.heap hB) (hm.ext hE) hmc hmm hOi hOh hOb hOm hni
    (fun s V => ∃ t : List {x : Nat // x < l.length}, t.map (·.1) = s ∧ J t V) (fun s V => ∃ t : List {x : Nat // x < l.length}, t.map (·.1) = s ∧ Jx t V) (fun s A B h k => let ⟨t, h1, h2⟩ := h; ⟨t, h1, hJ t A B h2 k⟩) ?_ ⟨[], rfl, h0⟩).mono ?_
  · rintro pre x W1 ⟨t, rfl, h2⟩ hp
    have hx : x < l.length := hlt x (hp.subset (by simp))
    have hl := hp.length_le
    simp at hl
    have hy := hY t ⟨x, hx⟩ W1 h2 (by omega)
    obtain ⟨fn, tmps, assign, body, q1, q2⟩ := hy
    refine ⟨fn, tmps, assign, body, q1, q2.mono ?_⟩
    rintro e W' (⟨rfl, h3, h4⟩ | ⟨rfl, h3⟩)
    · exact .inl ⟨rfl, ⟨t ++ [⟨x, hx⟩], by simp, h3⟩, h4⟩
    · exact .inr ⟨rfl, t ++ [⟨x, hx⟩], by simp, h3⟩
  · rintro e W' ⟨h1, ⟨xs, h2, t, h3, h4⟩ | ⟨pre, h2, t, h3, h4⟩⟩
    · exact ⟨h1, .inl ⟨t, h3.trans h2, h4⟩⟩
    · exact ⟨h1, .inr ⟨t, by show t.map (·.1) <+: _; rw [h3]; exact h2, h4⟩⟩
end Go.Proofs.Ytcoelhpmkhimpaa
