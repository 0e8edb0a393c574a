/- Contracts of layer 3: when one arrives. -/
import Derived.Test.YtcoelhpmkhimpaaLeaveC
import Derived.Test.YtcoelhpmkhimpaaFlow
import Derived.Test.YtcoelhpmkhimpaaTreeC
namespace Go.Proofs.Ytcoelhpmkhimpaa
open Go.RowKit
set_option linter.unusedVariables false
set_option linter.unusedSimpArgs false
structure ArIn (w : World) (p7 p8 : Nat) (l0 l1 n0 n1 : Int) (W : World) : Prop where
  ext : Ext w W
  rs : W.heap[w.heap.size + 1 + 1]? = some (.cells #[.int .i64 0, .int .i64 0] 114 (0, 0))
  b7 : W.heap[p7]? = some (.cells #[.int .i64 l0, .int .i64 l1] 114 (0, 0))
  b8 : W.heap[p8]? = some (.cells #[.int .i64 n0, .int .i64 n1] 114 (0, 0))
  m7 : w.heap.size + 1 + 1 < p7
  m8 : w.heap.size + 1 + 1 < p8
  ne : p8 ≠ p7
theorem ArIn.next {w : World} {p7 p8 : Nat} {l0 l1 n0 n1 : Int} {W W' : World} (h : ArIn w p7 p8 l0 l1 n0 n1 W) (hx : Ext W W') : ArIn w p7 p8 l0 l1 n0 n1 W' :=
  ⟨h.ext.trans hx, hx.heap h.rs, hx.heap h.b7, hx.heap h.b8, h.m7, h.m8, h.ne⟩
theorem ArIn.put0 {w : World} {p7 p8 : Nat} {l0 l1 n0 n1 : Int} {W : World} (h : ArIn w p7 p8 l0 l1 n0 n1 W) (x : Int) : ArIn w p7 p8 x l1 n0 n1 (W.setCell ⟨p7, 0, none⟩ (.int .i64 x)) := by
  have h7 := h.m7
  have o : ∀ {k : Nat} {ob : Obj}, W.heap[k]? = some ob → k ≠ p7 → (W.setCell ⟨p7, 0, none⟩ (.int .i64 x)).heap[k]? = some ob := fun hk hne => (Below.heap_setCell _ _ _ _ hne).trans hk
  refine ⟨h.ext.setCell (p := ⟨p7, 0, none⟩) (by simp only; omega) _, o h.rs (by omega), ?_, o h.b8 h.ne, h7, h.m8, h.ne⟩
  rw [heap_setCell_box, h.b7]
  rfl
theorem ArIn.put1 {w : World} {p7 p8 : Nat} {l0 l1 n0 n1 : Int} {W : World} (h : ArIn w p7 p8 l0 l1 n0 n1 W) (x : Int) : ArIn w p7 p8 l0 x n0 n1 (W.setCell ⟨p7, 1, none⟩ (.int .i64 x)) := by
  have h7 := h.m7
  have o : ∀ {k : Nat} {ob : Obj}, W.heap[k]? = some ob → k ≠ p7 → (W.setCell ⟨p7, 1, none⟩ (.int .i64 x)).heap[k]? = some ob := fun hk hne => (Below.heap_setCell _ _ _ _ hne).trans hk
  refine ⟨h.ext.setCell (p := ⟨p7, 1, none⟩) (by simp only; omega) _, o h.rs (by omega), ?_, o h.b8 h.ne, h7, h.m8, h.ne⟩
  rw [heap_setCell_box, h.b7]
  rfl
theorem first1_any (W : World) (b : Nat) (T : Int) (hb : W.heap[b]? = some (.cells #[.int .i64 T] 3 (0, 0))) : Calls Try.prog 96 #[.slice (some ⟨b, 0, none⟩) 1 1] W fun e w' => e = .returned (.int .i64 (min T 100001)) ∧ Ext W w' := by
  have h := first_any b 1 [T] T W (ints_built (l := [T]) hb) rfl (by omega)
  refine h.mono ?_
  rintro e w' ⟨rfl, hx⟩
  refine ⟨?_, hx⟩
  have : minTo [T] 1 T = T := by
    show min T T = _
    rw [Int.min_self]
  rw [this]
set_option maxRecDepth 100000 in
set_option maxHeartbeats 8000000 in
theorem arrive_any {N : Nat} (wa : Option Addr) (wn wc : Nat) (la : Option Addr) (ln lc : Nat) (legs : List Leg) (p at' : Span) (g : Nat) (x : Leg) (w : World) (h : LegsAt w la ln legs) (hx : legs[g]? = some x) (hL : LegOk N x) (hp : SpanIs p 1 100000) (ha : SpanIs at' 0 100000) (hlc : ln ≤ lc) (hlm : lc ≤ maxLen) :
    Calls Try.prog 48 #[.agg #[.slice wa wn wc, .slice la ln lc, .int .i64 p.lo, .int .i64 p.hi], .int .i64 g, at'.val] w fun e w' => e = .returned (arriveOf x p at').val ∧ Ext w w' := by
  have hdy := fun W (hW : Ext w W) => legDays_any wa wn wc la ln lc legs p g x W (h.ext hW) hx hL.long hp hlc hlm
  have hlv := fun W (hW : Ext w W) => leave_any wa wn wc la ln lc legs p at' g x W (h.ext hW) hx hL hp ha hlc hlm
  have hdd := days_is hL hp
  have hap : arriveOf x p at' = ⟨min ((leaveOf x p at').lo + (legDays x p).lo) 100001, min ((leaveOf x p at').hi + (legDays x p).hi) 100001⟩ := rfl
  have ha1 := ha.low
  have ha2 := ha.ord
  have hm1 : 0 ≤ (leaveOf x p at').lo ∧ (leaveOf x p at').lo ≤ 100001 := ⟨leaveBy_nonneg _ _ _ _ (by omega) _ _ (by omega), leaveBy_le _ _ _ _ _ _⟩
  have hm2 : 0 ≤ (leaveOf x p at').hi ∧ (leaveOf x p at').hi ≤ 100001 := ⟨leaveBy_nonneg _ _ _ _ (by omega) _ _ (by omega), leaveBy_le _ _ _ _ _ _⟩
  obtain ⟨R, hR⟩ : ∃ R, arriveOf x p at' = R := ⟨_, rfl⟩
  rw [hR] at hap ⊢
  clear hR
  generalize legDays x p = D at *
  generalize leaveOf x p at' = V at *
  obtain ⟨n0, n1⟩ := D
  obtain ⟨l0, l1⟩ := V
  obtain ⟨p0, p1⟩ := p
  obtain ⟨a0, a1⟩ := at'
  unfold Span.val at *
  simp only at *
  subst hap
  clear ha hp hL hx h ha1 ha2
  obtain ⟨hn1, hn2, hn3⟩ := hdd
  obtain ⟨hm1, hm3⟩ := hm1
  obtain ⟨hm2, hm4⟩ := hm2
  obtain ⟨W0, hW0⟩ : ∃ W0, ((w.alloc (.cells #[.slice wa wn wc, .slice la ln lc, .int .i64 p0, .int .i64 p1] 108)).alloc (.cells #[.int .i64 a0, .int .i64 a1] 114)).alloc (.cells #[.int .i64 0, .int .i64 0] 114) = W0 := ⟨_, rfl⟩
  have hx0 : Ext w W0 := by rw [← hW0]; exact (((Ext.refl w).alloc _).alloc _).alloc _
  have hc0 : W0.heap[w.heap.size]? = some (.cells #[.slice wa wn wc, .slice la ln lc, .int .i64 p0, .int .i64 p1] 108 (0, 0)) := by rw [← hW0]; exact alloc_heap (alloc_heap (heap_alloc_new w _) _) _
  have hr0 : W0.heap[w.heap.size + 1]? = some (.cells #[.int .i64 a0, .int .i64 a1] 114 (0, 0)) := by rw [← hW0]; exact alloc_heap (alloc_at _ _ _ (by simp)) _
  have hl0 : W0.heap[w.heap.size + 1 + 1]? = some (.cells #[.int .i64 0, .int .i64 0] 114 (0, 0)) := by rw [← hW0]; exact alloc_at _ _ _ (by simp)
  have Hdy := Lib.hid hdy
  have Hlv := Lib.hid hlv
  have Hx0 := Lib.hid hx0
  have Hc0 := Lib.hid hc0
  have Hr0 := Lib.hid hr0
  have Hl0 := Lib.hid hl0
  clear hdy hlv hx0 hc0 hr0 hl0
  go_enter Try.func48, Try.ntmps48
  go_upto_region 1 with fail
  clear hW0
  refine wp_region_plan (.take [0, 1, 2, 4, 5] (.call 3 (.call 6 (.two 7 (.one 8 (.fin (.one 9 (.one 10 .done)))) 8 (.one 7 (.fin (.one 9 (.one 10 .done)))))))) [9, 10] (Ext W0) _ (by kernel_rfl) (by kernel_rfl) rfl (EC.ext W0) ((Ext.refl _).drew) ?_
  simp only [planOf, treeOf, oneOp, twoOp, opsOf, consOp, callOC, oneOC, twoOC, List.getElem?_toArray, List.getElem?_cons_succ, List.getElem?_cons_zero]
  intro ι _ f hf
  have f0 := fun q => ((hf q).box Hc0.out).1
  have f1 := fun q => ((hf q).box Hr0.out).1
  clear hf
  repeat (go_big_quiet_step (fail))
  refine wpQuiet_nil ?_
  clear f0 f1
  refine wpOC_call (args := #[.agg #[.slice wa wn wc, .slice la ln lc, .int .i64 p0, .int .i64 p1], .int .i64 g, .agg #[.int .i64 a0, .int .i64 a1]]) (v := .agg #[.int .i64 l0, .int .i64 l1]) rfl rfl (enters_of Try.func47 (by kernel_rfl) rfl) (by kernel_rfl) (fun V hV => Hlv.out V (Hx0.out.trans hV)) ?_
  simp only [Act.put, List.setIfInBounds_toArray, List.set_cons_succ, List.set_cons_zero]
  refine wpOC_call (args := #[.agg #[.slice wa wn wc, .slice la ln lc, .int .i64 p0, .int .i64 p1], .int .i64 g]) (v := .agg #[.int .i64 n0, .int .i64 n1]) rfl rfl (enters_of Try.func50 (by kernel_rfl) rfl) (by kernel_rfl) (fun V hV => Hdy.out V (Hx0.out.trans hV)) ?_
  simp only [Act.put, List.setIfInBounds_toArray, List.set_cons_succ, List.set_cons_zero]
  refine wpOC_two ?_
  apply join_orders (F := fun p7 p8 V => Ext W0 V ∧ W0.heap.size ≤ p7 ∧ W0.heap.size ≤ p8 ∧ p8 ≠ p7 ∧ V.heap[p7]? = some (.cells #[.int .i64 l0, .int .i64 l1] 114 (0, 0)) ∧ V.heap[p8]? = some (.cells #[.int .i64 n0, .int .i64 n1] 114 (0, 0)))
  · intro g Wa hxa
    have G := Lib.hid g
    clear g
    go_wp2_with fail
    have hpa := hxa.size
    have haa := heap_alloc_new Wa (.cells #[.int .i64 0, .int .i64 0] 114)
    have hxa' := hxa.alloc (.cells #[.int .i64 0, .int .i64 0] 114)
    generalize Wa.alloc (.cells #[.int .i64 0, .int .i64 0] 114) = Wa' at *
    generalize Wa.heap.size = pa at *
    refine ⟨fun V => Ext W0 V ∧ V.heap[pa]? = some (.cells #[.int .i64 0, .int .i64 0] 114 (0, 0)), (EC.ext W0).and (EC.heap pa _), fun _ h => h.1, ⟨hxa', haa⟩, ?_⟩
    clear hxa hxa' haa Wa Wa'
    rintro Wb ⟨hxb, hab⟩
    go_wp2_with fail
    have hpb := hxb.size
    have hlb := heap_lt hab
    have hbb := heap_alloc_new Wb (.cells #[.int .i64 0, .int .i64 0] 114)
    have hxb' := hxb.alloc (.cells #[.int .i64 0, .int .i64 0] 114)
    have hab' := ((Ext.refl Wb).alloc (.cells #[.int .i64 0, .int .i64 0] 114)).heap hab
    have hne : pa ≠ Wb.heap.size := by omega
    clear hlb
    generalize Wb.alloc (.cells #[.int .i64 0, .int .i64 0] 114) = Wb' at *
    generalize Wb.heap.size = pb at *
    refine ⟨fun V => (Ext W0 V ∧ V.heap[pa]? = some (.cells #[.int .i64 0, .int .i64 0] 114 (0, 0))) ∧ V.heap[pb]? = some (.cells #[.int .i64 0, .int .i64 0] 114 (0, 0)), ((EC.ext W0).and (EC.heap pa _)).and (EC.heap pb _), fun _ h => h.1, ⟨⟨hxb', hab'⟩, hbb⟩, ?_⟩
    clear hxb hxb' hab hab' hbb Wb Wb'
    rintro Wc ⟨⟨hxc, hac⟩, hbc⟩
    refine wpOT_one ?_
    obtain ⟨k0, k1⟩ := (Ext.refl Wc).box hac
    obtain ⟨j0, j1⟩ := (Ext.refl Wc).box hbc
    have hla := heap_lt hac
    have hlb := heap_lt hbc
    go_wp2_with fail
    refine wpOT_one ?_
    go_wp2_with fail
    refine wpOT_done ?_
    have hxe := set2_ext (set2_ext hxc (b := pa) hpa (.int .i64 l0) (.int .i64 l1)) (b := pb) hpb (.int .i64 n0) (.int .i64 n1)
    have hb7 := set2_other (set2_box hac (.int .i64 l0) (.int .i64 l1)) (b := pb) hne (.int .i64 n0) (.int .i64 n1)
    have hb8 := set2_box (set2_other hbc (b := pa) (Ne.symm hne) (.int .i64 l0) (.int .i64 l1)) (.int .i64 n0) (.int .i64 n1)
    exact G.out _ _ _ ⟨hxe, hpa, hpb, (Ne.symm hne), hb7, hb8⟩
  · intro g Wa hxa
    have G := Lib.hid g
    clear g
    go_wp2_with fail
    have hpa := hxa.size
    have haa := heap_alloc_new Wa (.cells #[.int .i64 0, .int .i64 0] 114)
    have hxa' := hxa.alloc (.cells #[.int .i64 0, .int .i64 0] 114)
    generalize Wa.alloc (.cells #[.int .i64 0, .int .i64 0] 114) = Wa' at *
    generalize Wa.heap.size = pa at *
    refine ⟨fun V => Ext W0 V ∧ V.heap[pa]? = some (.cells #[.int .i64 0, .int .i64 0] 114 (0, 0)), (EC.ext W0).and (EC.heap pa _), fun _ h => h.1, ⟨hxa', haa⟩, ?_⟩
    clear hxa hxa' haa Wa Wa'
    rintro Wb ⟨hxb, hab⟩
    go_wp2_with fail
    have hpb := hxb.size
    have hlb := heap_lt hab
    have hbb := heap_alloc_new Wb (.cells #[.int .i64 0, .int .i64 0] 114)
    have hxb' := hxb.alloc (.cells #[.int .i64 0, .int .i64 0] 114)
    have hab' := ((Ext.refl Wb).alloc (.cells #[.int .i64 0, .int .i64 0] 114)).heap hab
    have hne : pa ≠ Wb.heap.size := by omega
    clear hlb
    generalize Wb.alloc (.cells #[.int .i64 0, .int .i64 0] 114) = Wb' at *
    generalize Wb.heap.size = pb at *
    refine ⟨fun V => (Ext W0 V ∧ V.heap[pa]? = some (.cells #[.int .i64 0, .int .i64 0] 114 (0, 0))) ∧ V.heap[pb]? = some (.cells #[.int .i64 0, .int .i64 0] 114 (0, 0)), ((EC.ext W0).and (EC.heap pa _)).and (EC.heap pb _), fun _ h => h.1, ⟨⟨hxb', hab'⟩, hbb⟩, ?_⟩
    clear hxb hxb' hab hab' hbb Wb Wb'
    rintro Wc ⟨⟨hxc, hac⟩, hbc⟩
    refine wpOT_one ?_
    obtain ⟨k0, k1⟩ := (Ext.refl Wc).box hac
    obtain ⟨j0, j1⟩ := (Ext.refl Wc).box hbc
    have hla := heap_lt hac
    have hlb := heap_lt hbc
    go_wp2_with fail
    refine wpOT_one ?_
    go_wp2_with fail
    refine wpOT_done ?_
    have hxe := set2_ext (set2_ext hxc (b := pb) hpb (.int .i64 l0) (.int .i64 l1)) (b := pa) hpa (.int .i64 n0) (.int .i64 n1)
    have hb7 := set2_other (set2_box hbc (.int .i64 l0) (.int .i64 l1)) (b := pa) (Ne.symm hne) (.int .i64 n0) (.int .i64 n1)
    have hb8 := set2_box (set2_other hac (b := pb) hne (.int .i64 l0) (.int .i64 l1)) (.int .i64 n0) (.int .i64 n1)
    exact G.out _ _ _ ⟨hxe, hpb, hpa, hne, hb7, hb8⟩
  rintro p7 p8 V ⟨hV, hg7, hg8, hne, hb7, hb8⟩
  have hD : ArIn w p7 p8 l0 l1 n0 n1 V := ⟨Hx0.out.trans hV, hV.heap Hl0.out, hb7, hb8, by have := heap_lt Hl0.out; omega, by have := heap_lt Hl0.out; omega, hne⟩
  clear hV hg7 hg8 hne hb7 hb8 Hx0 Hc0 Hr0 Hl0 Hdy Hlv
  have HD := Lib.hid hD
  clear hD
  go_wp2_with fail
  go_loopw [17] (fun i wr => (i = .int .i64 0 ∧ ArIn w p7 p8 l0 l1 n0 n1 wr) ∨ (i = .int .i64 1 ∧ ArIn w p7 p8 (min (l0 + n0) 100001) l1 n0 n1 wr) ∨ (i = .int .i64 2 ∧ ArIn w p7 p8 (min (l0 + n0) 100001) (min (l1 + n1) 100001) n0 n1 wr)) (fun i _ => 2 - (intOf i).toNat)
  case atStart => exact .inl ⟨rfl, HD.out⟩
  case round =>
    clear HD
    rcases hrel with ⟨rfl, hD⟩ | ⟨rfl, hD⟩ | ⟨rfl, hD⟩
    · have HD := Lib.hid hD
      clear hD
      go_upto_region 5 with fail
      refine wp_region_flow (.take [0, 1, 2, 3, 4, 5, 6, 7] (.flow [8, 9] [28, 29] [[], [0]] (.take [10] (.one 11 .done)))) [10, 11] (Ext wr) _ (by kernel_rfl) (by kernel_rfl) rfl (EC.ext wr) ((Ext.refl _).drew) ?_
      simp only [flowOf, treeOf, oneOp, twoOp, opsOf, consOp, callOF, List.getElem?_toArray, List.getElem?_cons_succ, List.getElem?_cons_zero]
      intro ι _ f hf
      have f0 := fun q => ((hf q).box HD.out.b7).1
      have f1 := fun q => ((hf q).box HD.out.b8).1
      clear hf
      repeat (go_big_quiet_step (fail))
      refine wpQuiet_nil ?_
      clear f0 f1
      refine wpOF_flow [IsSl 3 1 #[.int .i64 (l0 + n0)], IsV (.int .i64 (min (l0 + n0) 100001))] rfl ⟨isSl_ec 3 1 #[.int .i64 (l0 + n0)], isV_ec (.int .i64 (min (l0 + n0) 100001)), trivial⟩ (flowSteps_cons ?_ (flowSteps_cons ?_ flowSteps_nil)) ?_
      · intro xs W hlen hS hn
        obtain ⟨x0, x1, rfl⟩ := len2 hlen
        simp only [puts, Act.put, List.setIfInBounds_toArray, List.set_cons_succ, List.set_cons_zero]
        go_wp2_with fail
        exact FlowPost.mk (.slice (some ⟨W.heap.size, 0, none⟩) 1 1) rfl ((Ext.refl _).alloc _) IsSl.new
      · intro xs W hlen hS hn
        obtain ⟨x0, x1, rfl⟩ := len2 hlen
        simp only [puts, Act.put, List.setIfInBounds_toArray, List.set_cons_succ, List.set_cons_zero]
        obtain ⟨b, rfl, hbs⟩ : IsSl 3 1 #[.int .i64 (l0 + n0)] x0 W := hn.1
        go_wp2_with (go_at_call 96; refine (first1_any W b _ hbs).mono ?_; rintro e W1 ⟨rfl, hx1⟩)
        exact FlowPost.mk (.int .i64 (min (l0 + n0) 100001)) rfl hx1 rfl
      intro xs W hlen hS hn
      obtain ⟨x0, x1, rfl⟩ := len2 hlen
      simp only [puts, Act.put, List.setIfInBounds_toArray, List.set_cons_succ, List.set_cons_zero]
      obtain ⟨⟨b, rfl, hbs⟩, rfl, -⟩ := hn
      refine wpOT_take ?_
      repeat (go_big_quiet_step (fail))
      refine wpQuiet_nil ?_
      have hDN := HD.out.next hS
      have hql := heap_lt hDN.b7
      obtain ⟨k0, k1⟩ := (Ext.refl W).box hDN.b7
      refine wpOT_one ?_
      have HDN := Lib.hid hDN
      clear hDN
      obtain ⟨Z, hZ⟩ : ∃ Z, min (l0 + n0) 100001 = Z := ⟨_, rfl⟩
      rw [hZ]
      have HZ := Lib.hid hZ
      clear hZ
      go_wp2_with fail
      refine wpOT_done ?_
      have hDE := HDN.out.put0 Z
      go_wp2_with fail
      rw [← HZ.out] at hDE ⊢
      exact ⟨.inr (.inl ⟨rfl, hDE⟩), by simp [intOf]⟩
    · have HD := Lib.hid hD
      clear hD
      go_upto_region 5 with fail
      refine wp_region_flow (.take [0, 1, 2, 3, 4, 5, 6, 7] (.flow [8, 9] [28, 29] [[], [0]] (.take [10] (.one 11 .done)))) [10, 11] (Ext wr) _ (by kernel_rfl) (by kernel_rfl) rfl (EC.ext wr) ((Ext.refl _).drew) ?_
      simp only [flowOf, treeOf, oneOp, twoOp, opsOf, consOp, callOF, List.getElem?_toArray, List.getElem?_cons_succ, List.getElem?_cons_zero]
      intro ι _ f hf
      have f0 := fun q => ((hf q).box HD.out.b7).1
      have f1 := fun q => ((hf q).box HD.out.b8).1
      clear hf
      repeat (go_big_quiet_step (fail))
      refine wpQuiet_nil ?_
      clear f0 f1
      refine wpOF_flow [IsSl 3 1 #[.int .i64 (l1 + n1)], IsV (.int .i64 (min (l1 + n1) 100001))] rfl ⟨isSl_ec 3 1 #[.int .i64 (l1 + n1)], isV_ec (.int .i64 (min (l1 + n1) 100001)), trivial⟩ (flowSteps_cons ?_ (flowSteps_cons ?_ flowSteps_nil)) ?_
      · intro xs W hlen hS hn
        obtain ⟨x0, x1, rfl⟩ := len2 hlen
        simp only [puts, Act.put, List.setIfInBounds_toArray, List.set_cons_succ, List.set_cons_zero]
        go_wp2_with fail
        exact FlowPost.mk (.slice (some ⟨W.heap.size, 0, none⟩) 1 1) rfl ((Ext.refl _).alloc _) IsSl.new
      · intro xs W hlen hS hn
        obtain ⟨x0, x1, rfl⟩ := len2 hlen
        simp only [puts, Act.put, List.setIfInBounds_toArray, List.set_cons_succ, List.set_cons_zero]
        obtain ⟨b, rfl, hbs⟩ : IsSl 3 1 #[.int .i64 (l1 + n1)] x0 W := hn.1
        go_wp2_with (go_at_call 96; refine (first1_any W b _ hbs).mono ?_; rintro e W1 ⟨rfl, hx1⟩)
        exact FlowPost.mk (.int .i64 (min (l1 + n1) 100001)) rfl hx1 rfl
      intro xs W hlen hS hn
      obtain ⟨x0, x1, rfl⟩ := len2 hlen
      simp only [puts, Act.put, List.setIfInBounds_toArray, List.set_cons_succ, List.set_cons_zero]
      obtain ⟨⟨b, rfl, hbs⟩, rfl, -⟩ := hn
      refine wpOT_take ?_
      repeat (go_big_quiet_step (fail))
      refine wpQuiet_nil ?_
      have hDN := HD.out.next hS
      have hql := heap_lt hDN.b7
      obtain ⟨k0, k1⟩ := (Ext.refl W).box hDN.b7
      refine wpOT_one ?_
      have HDN := Lib.hid hDN
      clear hDN
      obtain ⟨Z, hZ⟩ : ∃ Z, min (l1 + n1) 100001 = Z := ⟨_, rfl⟩
      rw [hZ]
      have HZ := Lib.hid hZ
      clear hZ
      go_wp2_with fail
      refine wpOT_done ?_
      have hDE := HDN.out.put1 Z
      go_wp2_with fail
      rw [← HZ.out] at hDE ⊢
      exact ⟨.inr (.inr ⟨rfl, hDE⟩), by simp [intOf]⟩
    · obtain ⟨A, hA⟩ : ∃ A, min (l0 + n0) 100001 = A := ⟨_, rfl⟩
      obtain ⟨B, hB⟩ : ∃ B, min (l1 + n1) 100001 = B := ⟨_, rfl⟩
      rw [hA, hB] at hD
      have hrl := heap_lt hD.rs
      have hex := hD.ext
      have hrs := hD.rs
      obtain ⟨z0, _⟩ := (Ext.refl wr).box hD.b7
      obtain ⟨z1, _⟩ := (Ext.refl wr).box hD.rs
      have Hex := Lib.hid hex
      have Hrs := Lib.hid hrs
      have HD := Lib.hid hD
      have HA := Lib.hid hA
      have HB := Lib.hid hB
      clear hex hrs hD hA hB
      go_wp2_with fail
      refine bodyPost_ret (results_cell_row rfl _ _ (w.heap.size + 1 + 1) 114 #[.int .i64 A, .int .i64 B] (0, 0) _ rfl (set2_box Hrs.out _ _) Try.underlying114 rfl (by kernel_rfl)) rfl ?_
      rw [HA.out, HB.out]
      exact ⟨rfl, set2_ext Hex.out (by omega) _ _⟩
end Go.Proofs.Ytcoelhpmkhimpaa
