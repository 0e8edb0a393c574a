/- The reference: SameArea, SameInts. -/
import Derived.Test.YtacdndehlkaaeaaVSee
import Derived.BigQuiet
import Derived.Test.YtacdndehlkaaeaaVGr3
namespace Go.Proofs.Ytacdndehlkaaeaa
open Go.RowKit
set_option linter.unusedVariables false
set_option linter.unusedSimpArgs false
theorem list_ne_at {α : Type} {l m : List α} {k : Nat} {x y : α} (h1 : l[k]? = some x) (h2 : m[k]? = some y) (h : x ≠ y) : l ≠ m := by
  rintro rfl
  rw [h1] at h2
  exact h (Option.some.inj h2)
theorem list_eq_of {α : Type} {l m : List α} (hn : l.length = m.length) (h : ∀ j x y, j < l.length → l[j]? = some x → m[j]? = some y → x = y) : l = m := by
  refine List.ext_getElem? fun j => ?_
  rcases Nat.lt_or_ge j l.length with hj | hj
  · have hm : j < m.length := by omega
    rw [List.getElem?_eq_getElem hj, List.getElem?_eq_getElem hm]
    congr 1
    exact h j _ _ hj (List.getElem?_eq_getElem hj) (List.getElem?_eq_getElem hm)
  · rw [List.getElem?_eq_none hj, List.getElem?_eq_none (by omega)]
set_option maxRecDepth 100000 in
set_option maxHeartbeats 4000000 in
theorem sameInts_any (a b : Option Addr) (n m ca cb : Nat) (l k : List Int) (w : World) (hl : IntsAt .i64 w a n l) (hk : IntsAt .i64 w b m k) (hn : n ≤ 100000) : Calls Try.prog 21 #[.slice a n ca, .slice b m cb] w fun e w' => e = .returned (.bool (decide (l = k))) ∧ Ext w w' := by
  have h1 := hl.1
  have h2 := hk.1
  by_cases hnm : n = m
  case neg =>
    have hB : ((n : Int) != (m : Int)) = true := by rw [bne_iff_ne]; omega
    have hB' : (n != m) = true := by rw [bne_iff_ne]; exact hnm
    have hne : decide (l = k) = false := by rw [decide_eq_false_iff_not]; intro e; rw [e] at h1; omega
    rw [hne]
    go_enter Try.func21, Try.ntmps21
    go_wp2_with fail
    go_ret
    exact ⟨rfl, Ext.refl _⟩
  case pos =>
    subst hnm
    have hB : ((n : Int) != (n : Int)) = false := by simp
    obtain ⟨R, hR⟩ : ∃ R, decide (l = k) = R := ⟨_, rfl⟩
    rw [hR]
    have Hl := Lib.hid hl
    have Hk := Lib.hid hk
    have HR := Lib.hid hR
    have H1 := Lib.hid h1
    have H2 := Lib.hid h2
    clear hl hk hR h1 h2
    go_enter Try.func21, Try.ntmps21
    go_upto_region 4 with fail
    go_loopw [5] (fun i wr => ∃ j : Nat, j ≤ n ∧ i = .int .i64 j ∧ Ext w wr ∧ ∀ q x y, q < j → l[q]? = some x → k[q]? = some y → x = y) (fun i _ => n - (intOf i).toNat)
    case atStart => exact ⟨0, Nat.zero_le _, rfl, Ext.refl _, fun q x y hq => by omega⟩
    case round =>
      obtain ⟨j, hj, rfl, hx, hall⟩ := hrel
      by_cases hlt : j < n
      · have hltB : decide ((j : Int) < (n : Int)) = true := by simp; omega
        obtain ⟨ab, ao, x, rfl, hjx, hab, c0⟩ := (Hl.out.ext hx).get j hlt
        obtain ⟨bb, bo, y, rfl, hjy, hbb, d0⟩ := (Hk.out.ext hx).get j hlt
        by_cases hxy : x = y
        · have hxB : (x != y) = false := by rw [bne_eq_false_iff_eq]; exact hxy
          have hall' : ∀ q x y, q < j + 1 → l[q]? = some x → k[q]? = some y → x = y := fun q x' y' hq h1 h2 => by
            rcases Nat.lt_or_ge q j with h | h
            · exact hall q x' y' h h1 h2
            · obtain rfl : q = j := by omega
              rw [hjx] at h1
              rw [hjy] at h2
              cases h1
              cases h2
              exact hxy
          have Hx := Lib.hid hx
          have Hall' := Lib.hid hall'
          clear hx hall'
          clear hall hjx hjy hxy
          go_upto_region 6 with fail
          refine wp_region_ext (by kernel_rfl) (by kernel_rfl) (fun f hf hs => ?_)
          have f0 := fun q => (hf q).cell c0
          have f1 := fun q => (hf q).cell d0
          clear hf hs
          repeat (go_big_quiet_step (fail))
          refine wpQuiet_nil ?_
          intro W8 hW8
          clear f0 f1
          go_wp2_with fail
          go_roundw
          case rel => exact ⟨j + 1, by omega, by go_num, Hx.out.trans hW8, Hall'.out⟩
          case measure => simp [intOf]; omega
        · have hxB : (x != y) = true := by rw [bne_iff_ne]; exact hxy
          have hr : R = false := by rw [← HR.out, decide_eq_false_iff_not]; exact list_ne_at hjx hjy hxy
          have Hx := Lib.hid hx
          have Hr := Lib.hid hr
          clear hx hr
          clear hall hjx hjy hxy
          go_upto_region 6 with fail
          refine wp_region_ext (by kernel_rfl) (by kernel_rfl) (fun f hf hs => ?_)
          have f0 := fun q => (hf q).cell c0
          have f1 := fun q => (hf q).cell d0
          clear hf hs
          repeat (go_big_quiet_step (fail))
          refine wpQuiet_nil ?_
          intro W8 hW8
          clear f0 f1
          go_wp2_with fail
          go_ret
          exact ⟨ret_bool Hr.out.symm, Hx.out.trans hW8⟩
      · have hltB : decide ((j : Int) < (n : Int)) = false := by simp; omega
        obtain rfl : n = j := by omega
        have hr : R = true := by
          rw [← HR.out, decide_eq_true_eq]
          have := H1.out
          exact list_eq_of (by rw [H1.out, H2.out]) fun j x y hj => hall j x y (by omega)
        have Hx := Lib.hid hx
        have Hr := Lib.hid hr
        clear hx hr
        clear hall
        go_wp2_with fail
        go_ret
        exact ⟨ret_bool Hr.out.symm, Hx.out⟩
set_option maxRecDepth 100000 in
set_option maxHeartbeats 4000000 in
theorem sameArea_any (a b : Option Addr) (n m ca cb : Nat) (l k : List Half) (w : World) (hl : HalvesAt w a n l) (hk : HalvesAt w b m k) (hn : n ≤ 100000) : Calls Try.prog 20 #[.agg #[.slice a n ca], .agg #[.slice b m cb]] w fun e w' => e = .returned (.bool (decide (l = k))) ∧ Ext w w' := by
  have h1 := hl.1
  have h2 := hk.1
  by_cases hnm : n = m
  case neg =>
    have hB : ((n : Int) != (m : Int)) = true := by rw [bne_iff_ne]; omega
    have hB' : (n != m) = true := by rw [bne_iff_ne]; exact hnm
    have hne : decide (l = k) = false := by rw [decide_eq_false_iff_not]; intro e; rw [e] at h1; omega
    rw [hne]
    go_enter Try.func20, Try.ntmps20
    go_wp2_with fail
    go_ret
    exact ⟨rfl, ((Ext.refl _).alloc _).alloc _⟩
  case pos =>
    subst hnm
    have hB : ((n : Int) != (n : Int)) = false := by simp
    obtain ⟨R, hR⟩ : ∃ R, decide (l = k) = R := ⟨_, rfl⟩
    rw [hR]
    have hb1 := heap_alloc_new w (.cells #[.slice a n ca] 24)
    obtain ⟨W0, hW0⟩ : ∃ W0, (w.alloc (.cells #[.slice a n ca] 24)).alloc (.cells #[.slice b n cb] 24) = W0 := ⟨_, rfl⟩
    have hx0 : Ext w W0 := by rw [← hW0]; exact ((Ext.refl w).alloc _).alloc _
    have hb1 : W0.heap[w.heap.size]? = some (.cells #[.slice a n ca] 24 (0, 0)) := by rw [← hW0]; exact ((Ext.refl _).alloc _).heap (heap_alloc_new w (.cells #[.slice a n ca] 24))
    have hb2 : W0.heap[w.heap.size + 1]? = some (.cells #[.slice b n cb] 24 (0, 0)) := by rw [← hW0]; exact alloc_at _ _ _ (by simp)
    obtain ⟨z0, _⟩ := (Ext.refl W0).box hb1
    obtain ⟨z1, _⟩ := (Ext.refl W0).box hb2
    have Hl := Lib.hid hl
    have Hk := Lib.hid hk
    have HR := Lib.hid hR
    have H1 := Lib.hid h1
    have H2 := Lib.hid h2
    have Hx0 := Lib.hid hx0
    have Hb1 := Lib.hid hb1
    have Hb2 := Lib.hid hb2
    clear hl hk hR h1 h2 hx0 hb1 hb2
    go_enter Try.func20, Try.ntmps20
    go_upto_region 4 with fail
    clear hW0 z0 z1
    go_loopw [5] (fun i wr => ∃ j : Nat, j ≤ n ∧ i = .int .i64 j ∧ Ext W0 wr ∧ ∀ q x y, q < j → l[q]? = some x → k[q]? = some y → x = y) (fun i _ => n - (intOf i).toNat)
    case atStart => exact ⟨0, Nat.zero_le _, rfl, Ext.refl _, fun q x y hq => by omega⟩
    case round =>
      obtain ⟨j, hj, rfl, hx, hall⟩ := hrel
      obtain ⟨e0, _⟩ := hx.box Hb1.out
      obtain ⟨e1, _⟩ := hx.box Hb2.out
      by_cases hlt : j < n
      · have hltB : decide ((j : Int) < (n : Int)) = true := by simp; omega
        obtain ⟨ab, ao, x, rfl, hjx, hab, c0, c1, c2⟩ := (Hl.out.ext (Hx0.out.trans hx)).get j hlt
        obtain ⟨bb, bo, y, rfl, hjy, hbb, d0, d1, d2⟩ := (Hk.out.ext (Hx0.out.trans hx)).get j hlt
        by_cases hxy : x = y
        · have hall' : ∀ q x y, q < j + 1 → l[q]? = some x → k[q]? = some y → x = y := fun q x' y' hq h1 h2 => by
            rcases Nat.lt_or_ge q j with h | h
            · exact hall q x' y' h h1 h2
            · obtain rfl : q = j := by omega
              rw [hjx] at h1
              rw [hjy] at h2
              cases h1
              cases h2
              exact hxy
          have hg1 := hx.heap Hb1.out
          have hg2 := hx.heap Hb2.out
          subst hxy
          have Hx := Lib.hid hx
          have Hall' := Lib.hid hall'
          clear hx hall'
          clear hall hjx hjy
          go_upto_region 6 with fail
          refine wp_region_ext (by kernel_rfl) (by kernel_rfl) (fun f hf hs => ?_)
          have f0 := fun q => (hf q).cell c0
          have f1 := fun q => (hf q).cell c1
          have f2 := fun q => (hf q).cell c2
          have f3 := fun q => (hf q).cell d0
          have f4 := fun q => (hf q).cell d1
          have f5 := fun q => (hf q).cell d2
          have f6 := fun q => ((hf q).box hg1).1
          have f7 := fun q => ((hf q).box hg2).1
          clear hf hs
          repeat (go_big_quiet_step (fail))
          refine wpQuiet_nil ?_
          intro W8 hW8
          clear f0 f1 f2 f3 f4 f5 f6 f7
          go_wp2_with fail
          go_roundw
          case rel => exact ⟨j + 1, by omega, by go_num, Hx.out.trans hW8, Hall'.out⟩
          case measure => simp [intOf]; omega
        · have hr : R = false := by rw [← HR.out, decide_eq_false_iff_not]; exact list_ne_at hjx hjy hxy
          have hg1 := hx.heap Hb1.out
          have hg2 := hx.heap Hb2.out
          obtain ⟨xa, xb, xc⟩ := x
          obtain ⟨ya, yb, yc⟩ := y
          simp only [Half.mk.injEq] at hxy
          simp only at c0 c1 c2 d0 d1 d2
          have hd : xa ≠ ya ∨ (xa = ya ∧ xb ≠ yb) ∨ (xa = ya ∧ xb = yb ∧ xc ≠ yc) := by omega
          have Hx := Lib.hid hx
          have Hr := Lib.hid hr
          clear hx hr
          clear hall hjx hjy hxy
          rcases hd with h | ⟨rfl, h⟩ | ⟨rfl, rfl, h⟩
          · have e0 : (xa == ya) = false := by rw [beq_eq_false_iff_ne]; exact h
            have e1 : decide (xa = ya) = false := decide_eq_false h
            go_upto_region 6 with fail
            refine wp_region_ext (by kernel_rfl) (by kernel_rfl) (fun f hf hs => ?_)
            have f0 := fun q => (hf q).cell c0
            have f1 := fun q => (hf q).cell c1
            have f2 := fun q => (hf q).cell c2
            have f3 := fun q => (hf q).cell d0
            have f4 := fun q => (hf q).cell d1
            have f5 := fun q => (hf q).cell d2
            have f6 := fun q => ((hf q).box hg1).1
            have f7 := fun q => ((hf q).box hg2).1
            clear hf hs
            repeat (go_big_quiet_step (fail))
            refine wpQuiet_nil ?_
            intro W8 hW8
            clear f0 f1 f2 f3 f4 f5 f6 f7
            go_wp2_with fail
            go_ret
            exact ⟨ret_bool Hr.out.symm, (Hx0.out.trans Hx.out).trans hW8⟩
          · have e0 : (xb == yb) = false := by rw [beq_eq_false_iff_ne]; exact h
            have e1 : decide (xb = yb) = false := decide_eq_false h
            go_upto_region 6 with fail
            refine wp_region_ext (by kernel_rfl) (by kernel_rfl) (fun f hf hs => ?_)
            have f0 := fun q => (hf q).cell c0
            have f1 := fun q => (hf q).cell c1
            have f2 := fun q => (hf q).cell c2
            have f3 := fun q => (hf q).cell d0
            have f4 := fun q => (hf q).cell d1
            have f5 := fun q => (hf q).cell d2
            have f6 := fun q => ((hf q).box hg1).1
            have f7 := fun q => ((hf q).box hg2).1
            clear hf hs
            repeat (go_big_quiet_step (fail))
            refine wpQuiet_nil ?_
            intro W8 hW8
            clear f0 f1 f2 f3 f4 f5 f6 f7
            go_wp2_with fail
            go_ret
            exact ⟨ret_bool Hr.out.symm, (Hx0.out.trans Hx.out).trans hW8⟩
          · have e0 : (xc == yc) = false := by rw [beq_eq_false_iff_ne]; exact h
            have e1 : decide (xc = yc) = false := decide_eq_false h
            go_upto_region 6 with fail
            refine wp_region_ext (by kernel_rfl) (by kernel_rfl) (fun f hf hs => ?_)
            have f0 := fun q => (hf q).cell c0
            have f1 := fun q => (hf q).cell c1
            have f2 := fun q => (hf q).cell c2
            have f3 := fun q => (hf q).cell d0
            have f4 := fun q => (hf q).cell d1
            have f5 := fun q => (hf q).cell d2
            have f6 := fun q => ((hf q).box hg1).1
            have f7 := fun q => ((hf q).box hg2).1
            clear hf hs
            repeat (go_big_quiet_step (fail))
            refine wpQuiet_nil ?_
            intro W8 hW8
            clear f0 f1 f2 f3 f4 f5 f6 f7
            go_wp2_with fail
            go_ret
            exact ⟨ret_bool Hr.out.symm, (Hx0.out.trans Hx.out).trans hW8⟩
      · have hltB : decide ((j : Int) < (n : Int)) = false := by simp; omega
        obtain rfl : n = j := by omega
        have hr : R = true := by
          rw [← HR.out, decide_eq_true_eq]
          exact list_eq_of (by rw [H1.out, H2.out]) fun j x y hj => hall j x y (by have := H1.out; omega)
        have Hx := Lib.hid hx
        have Hr := Lib.hid hr
        clear hx hr
        clear hall
        go_wp2_with fail
        go_ret
        exact ⟨ret_bool Hr.out.symm, Hx0.out.trans Hx.out⟩
end Go.Proofs.Ytacdndehlkaaeaa

/- Halves joined, in memory that may be written. -/
namespace Go.Proofs.Ytacdndehlkaaeaa
open Go.RowKit
set_option linter.unusedVariables false
set_option linter.unusedSimpArgs false
/-- halves in a slice of their own, which may be written -/
def OwnHalvesO (l : List Half) (w : World) (e : Ending) (w' : World) : Prop := ∃ v, e = .returned v ∧ Ext w w' ∧ Owns w' w.heap.size 47 3 v (halfRows l)
theorem OwnHalvesO.own {l : List Half} {w : World} {e : Ending} {w' : World} (h : OwnHalvesO l w e w') : OwnHalves l w e w' := by
  obtain ⟨v, rfl, hx, ho⟩ := h
  obtain ⟨a, c, rfl, h1, h2, h3, h4⟩ := halves_of_owns ho
  exact ⟨a, c, rfl, h2, h3, hx, h4, h1⟩
set_option maxRecDepth 100000 in
set_option maxHeartbeats 4000000 in
theorem joinedO_any (a : Option Addr) (len cap : Nat) (l : List Half) (b : Option Addr) (m mc : Nat) (M : List Half) (w : World) (hl : HalvesAt w a len l) (hM : HalvesAt w b m M) (hlen : len ≤ 100000) (hm : m ≤ 100000) : Calls Try.prog 50 #[.slice a len cap, .slice b m mc] w (OwnHalvesO (l ++ M) w) := by
  have hll := hl.1
  have hml := hM.1
  have hrl : (halfRows l).length = len := by rw [halfRows_len]; exact hll
  have hrm : (halfRows M).length = m := by rw [halfRows_len]; exact hml
  have hsl : SlAt w 3 a len (fun k => (halfRows l).getD k []) := hl.src
  have Hrl := Lib.hid hrl
  have Hrm := Lib.hid hrm
  have Hsl := Lib.hid hsl
  have HM := Lib.hid hM
  have Hl := Lib.hid hl
  clear hrl hrm hsl hM hl
  go_enter Try.func50, Try.ntmps50
  go_wp2_with (at_builtin; refine wpList_app elem22 _ rfl (.tmp 5) (.tmp 6) rfl w.heap.size _ (halfRows []) rfl (Owns.empty' (alloc_at _ _ _ rfl) (Nat.le_refl _) rfl (by decide)) a len cap (halfRows l) rfl Hrl.out (Hsl.out.ext ((Ext.refl _).alloc _)) (halfRows_row _) ?_ ?_ ?_)
  · show 0 + len ≤ 1000000000
    omega
  · simp
  intro v4 w4 ho4 hg4 _
  rw [show halfRows [] ++ halfRows l = halfRows l from rfl] at ho4
  have hx4 : Ext w w4 := ((Ext.refl w).alloc _).app (Owns.empty' (sz := 3) (cap := 0) (alloc_at _ _ _ rfl) (Nat.le_refl _) rfl (by decide)) hg4
  obtain ⟨va4, vc4, hv4, _, _, _, _⟩ := ho4.slAt
  subst hv4
  have hM4 := (HM.out.ext hx4).src
  have Ho4 := Lib.hid ho4
  have Hx4 := Lib.hid hx4
  have HM4 := Lib.hid hM4
  clear ho4 hx4 hM4
  clear hg4
  go_wp2_with (at_builtin; refine wpList_app elem22 _ rfl (.tmp 7) (.tmp 8) rfl w.heap.size _ (halfRows l) rfl Ho4.out b m mc (halfRows M) rfl Hrm.out HM4.out (halfRows_row _) ?_ ?_ ?_)
  · rw [Hrl.out]
    omega
  · exact Hx4.out.size
  intro v5 w5 ho5 hg5 _
  rw [← halfRows_append] at ho5
  have hx5 := Hx4.out.app Ho4.out hg5
  have Ho5 := Lib.hid ho5
  have Hx5 := Lib.hid hx5
  clear ho5 hx5
  clear hg5
  go_wp2_with fail
  go_ret
  exact ⟨_, rfl, Hx5.out, Ho5.out⟩
set_option maxRecDepth 100000 in
theorem twinO_any (a : Option Addr) (len cap : Nat) (l : List Half) (w : World) (hl : HalvesAt w a len l) (hlen : len ≤ 100000) : Calls Try.prog 15 #[.agg #[.slice a len cap]] w fun e w' => ∃ v, e = .returned (.agg #[v]) ∧ Ext w w' ∧ Owns w' w.heap.size 47 3 v (halfRows l) := by
  have hj := fun W (hW : Ext w W) => joinedO_any a len cap l none 0 0 [] W (hl.ext hW) ⟨rfl, fun h => absurd h (by simp)⟩ hlen (by omega)
  rw [List.append_nil] at hj
  have hll := hl.1
  unfold OwnHalvesO at hj
  have Hj := Lib.hid hj
  clear hj
  clear hl
  go_enter Try.func15, Try.ntmps15
  go_wp2_with (go_at_call 50; refine (Hj.out _ (((Ext.refl _).alloc _).alloc _)).mono ?_; rintro e w1 ⟨v, rfl, h3, h4⟩; have hr1 := h3.heap (alloc_at (w.alloc (.cells #[.slice a len cap] 24)) (.cells #[.slice none 0 0] 24) (w.heap.size + 1) (by simp)); have hlr := heap_lt hr1; obtain ⟨f0, _⟩ := (Ext.refl w1).box hr1; obtain ⟨va, vc, hv, _⟩ := h4.slAt; subst hv)
  refine bodyPost_ret (results_cell_row rfl _ _ (w.heap.size + 1) 24 #[.slice va (halfRows l).length vc] (0, 0) _ rfl (by simp only [heap_setCell_box, hr1, Option.map_some, setIn_cells, List.setIfInBounds_toArray, List.set_cons_zero, List.set_cons_succ]) Try.underlying24 rfl (by kernel_rfl)) rfl ?_
  exact ⟨_, rfl, ((((Ext.refl _).alloc _).alloc _).trans h3).setCell (p := ⟨w.heap.size + 1, 0, none⟩) (by simp only; omega) _, (owns_set h4 (by simp)).mono (by simp; omega)⟩
end Go.Proofs.Ytacdndehlkaaeaa
