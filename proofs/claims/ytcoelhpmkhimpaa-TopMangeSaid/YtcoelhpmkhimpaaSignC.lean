/- brand.signed, of valid marks. -/
import Derived.Test.YtcoelhpmkhimpaaHerdD
import Derived.Test.YtcoelhpmkhimpaaFromH
import Derived.Test.YtcoelhpmkhimpaaScal
import Derived.Laws.CopyOwn
namespace Go.Proofs.Ytcoelhpmkhimpaa
open Go.RowKit
set_option linter.unusedVariables false
set_option linter.unusedSimpArgs false
def ivs (S : List Int) : Array Value := (S.map (Value.int .i64)).toArray
theorem ivs_size (S : List Int) : (ivs S).size = S.length := by simp [ivs]
theorem ivs_get {S : List Int} {k : Nat} (h : k < S.length) : (ivs S)[k]? = some (.int .i64 (S.getD k 0)) := by
  unfold ivs
  rw [List.getElem?_toArray, List.getElem?_map, List.getElem?_eq_getElem h, List.getD_eq_getElem?_getD, List.getElem?_eq_getElem h]
  rfl
theorem ivs_set (S : List Int) (k : Nat) (v : Int) : (ivs S).setIfInBounds k (.int .i64 v) = ivs (S.set k v) := by
  unfold ivs
  rw [List.setIfInBounds_toArray, List.map_set]
theorem ivs_one (S : List Int) : (ivs S).all (·.oneCell') = true := by
  rw [← Array.all_toList, List.all_eq_true]
  intro x hx
  simp only [ivs, List.mem_map] at hx
  obtain ⟨_, _, rfl⟩ := hx
  rfl
def z8s : List Int := [0, 0, 0, 0, 0, 0, 0, 0]
/-- which spots bear a sign -/
def Signs (l : List Mark) (k : Nat) (S : List Int) : Prop := S.length = 8 ∧ ∀ p : Nat, p < 8 → S.getD p 0 ≠ 0 → ∃ j m, j < k ∧ l[j]? = some m ∧ m.spot = p
theorem signs_zero (l : List Mark) : Signs l 0 z8s := ⟨rfl, fun p hp h => by
  exfalso
  match p, hp with
  | 0, _ => exact h rfl
  | 1, _ => exact h rfl
  | 2, _ => exact h rfl
  | 3, _ => exact h rfl
  | 4, _ => exact h rfl
  | 5, _ => exact h rfl
  | 6, _ => exact h rfl
  | 7, _ => exact h rfl⟩
theorem Signs.free {l : List Mark} {k : Nat} {S : List Int} (h : Signs l k S) (hk : MarkIs l k) {m : Mark} (hm : l[k]? = some m) {p : Nat} (hp : m.spot = p) : S.getD p 0 = 0 := by
  obtain ⟨h1, h2, h3⟩ := hk m hm
  by_cases e : S.getD p 0 = 0
  · exact e
  · obtain ⟨j, x, hj, hx, hs⟩ := h.2 p (by omega) e
    exact absurd (hs.trans hp.symm) (h3 j x hj hx)
theorem Signs.next {l : List Mark} {k : Nat} {S : List Int} (h : Signs l k S) {m : Mark} (hm : l[k]? = some m) {p : Nat} (hp : m.spot = p) (v : Int) : Signs l (k + 1) (S.set p v) := by
  refine ⟨by rw [List.length_set]; exact h.1, fun q hq hne => ?_⟩
  by_cases e : q = p
  · subst e
    exact ⟨k, m, by omega, hm, hp⟩
  · have hs : (S.set p v).getD q 0 = S.getD q 0 := by
      rw [List.getD_eq_getElem?_getD, List.getD_eq_getElem?_getD, List.getElem?_set_ne (Ne.symm e)]
    rw [hs] at hne
    obtain ⟨j, x, hj, hx, hs⟩ := h.2 q hq hne
    exact ⟨j, x, by omega, hx, hs⟩
structure SgSt (w : World) (p2 p4 : Nat) (S : List Int) (W : World) : Prop where
  ext : Ext w W
  b2 : W.heap[p2]? = some (.cells (ivs z8s) 196 (0, 0))
  b4 : W.heap[p4]? = some (.cells (ivs S) 196 (0, 0))
theorem SgSt.more {w W W' : World} {p2 p4 : Nat} {S : List Int} (h : SgSt w p2 p4 S W) (e : Ext W W') : SgSt w p2 p4 S W' := ⟨h.ext.trans e, e.heap h.b2, e.heap h.b4⟩
theorem SgSt.put {w W : World} {p2 p4 : Nat} {S : List Int} (h : SgSt w p2 p4 S W) (hp : w.heap.size ≤ p4) (hne : p2 ≠ p4) (k : Nat) (v : Int) : SgSt w p2 p4 (S.set k v) (W.setCell ⟨p4, k, none⟩ (.int .i64 v)) :=
  ⟨h.ext.setCell (p := ⟨p4, k, none⟩) hp _, (Below.heap_setCell _ _ _ _ hne).trans h.b2, by rw [heap_setCell_box, h.b4]; exact congrArg (fun x => some (Obj.cells x 196 (0, 0))) (ivs_set S k v)⟩
set_option maxRecDepth 100000 in
set_option maxHeartbeats 4000000 in
theorem signed_any (x : Animal) (ka : Option Addr) (kn kc : Nat) (w : World) (hm : MarksAt w ka kn x.marks) (hkc : kn ≤ kc) (hkm : kc ≤ maxLen) (hok : MarksOk x.marks) :
    Calls Try.prog 107 #[.agg #[.int .i64 x.id, .int .i64 x.mother, .int .i64 x.born.lo, .int .i64 x.born.hi, .slice ka kn kc]] w fun e w' => ∃ S, S.length = 8 ∧ e = .returned (.tuple #[.agg (ivs S), .bool true]) ∧ Ext w w' := by
  obtain ⟨id, mo, ⟨b0, b1⟩, ms⟩ := x
  simp only at hm hok ⊢
  have hml := hm.1
  unfold maxLen at hkm
  have hbx := heap_alloc_new w (.cells #[.int .i64 id, .int .i64 mo, .int .i64 b0, .int .i64 b1, .slice ka kn kc] 69)
  have Hm := Lib.hid hm
  have Hok := Lib.hid hok
  clear hm hok
  go_enter Try.func107, Try.ntmps107
  go_upto_region 3 with fail
  have hW : ∃ W, ((w.alloc (.cells #[.int .i64 id, .int .i64 mo, .int .i64 b0, .int .i64 b1, .slice ka kn kc] 69)).alloc (.cells (ivs z8s) 196)).alloc (.cells (ivs z8s) 196) = W := ⟨_, rfl⟩
  obtain ⟨W0, hW0⟩ := hW
  have st0 : SgSt w (w.heap.size + 1) (w.heap.size + 1 + 1) z8s W0 := by
    rw [← hW0]
    refine ⟨(((Ext.refl w).alloc _).alloc _).alloc _, ?_, ?_⟩
    · exact ((Ext.refl _).alloc _).heap (alloc_at _ _ _ (by simp))
    · exact alloc_at _ _ _ (by simp)
  change Code.wp _ _ _ _ (((w.alloc (.cells #[.int .i64 id, .int .i64 mo, .int .i64 b0, .int .i64 b1, .slice ka kn kc] 69)).alloc (.cells (ivs z8s) 196)).alloc (.cells (ivs z8s) 196))
  rw [hW0]
  clear hW0 hbx
  have St0 := Lib.hid st0
  clear st0
  go_loopw [10] (fun i W => ∃ k S, i = .int .i64 (k : Nat) ∧ k ≤ kn ∧ Signs ms k S ∧ SgSt w (w.heap.size + 1) (w.heap.size + 1 + 1) S W) (fun i _ => kn - (intOf i).toNat)
  case atStart => exact ⟨0, z8s, rfl, Nat.zero_le _, signs_zero ms, St0.out⟩
  case round =>
    obtain ⟨k, S, rfl, hk, hS, st⟩ := hrel
    by_cases hlt : k < kn
    · have hltB : decide ((k : Int) < (kn : Int)) = true := by simp; omega
      obtain ⟨b, off, x, rfl, hxk, hbs, c0, c1⟩ := (Hm.out.ext st.ext).get k hlt
      obtain ⟨h1, h2, h3⟩ := Hok.out k x hxk
      obtain ⟨R, hR⟩ : ∃ R : Nat, x.spot = R := ⟨x.spot.toNat, by omega⟩
      have hR8 : R < 8 := by omega
      have hfree := hS.free (Hok.out k) hxk hR
      have hnext := hS.next hxk hR x.sign
      have hi1 : inB (R : Int) 0 7 = true := by simp [inB]; omega
      have hi2 : inB x.sign 1 20 = true := by simp [inB]; omega
      have hlt8 : decide ((R : Int) < 8) = true := by simp; omega
      have hcell := ivs_get (S := S) (k := R) (by rw [hS.1]; exact hR8)
      rw [hfree] at hcell
      rw [hR] at c0
      obtain ⟨sp, sg⟩ := x
      simp only at c1 hi2 hnext
      clear hS hxk h1 h2 h3 hR hfree
      have St := Lib.hid st
      have Hnext := Lib.hid hnext
      have Hi1 := Lib.hid hi1
      have Hi2 := Lib.hid hi2
      have Hcell := Lib.hid hcell
      clear st hnext hi1 hi2 hcell
      go_upto_region 5 with fail
      have st6 := St.out.more ((Ext.refl wr).alloc (.cells #[.int .i64 (R : Int), .int .i64 sg] 194))
      have hp6 := heap_alloc_new wr (.cells #[.int .i64 (R : Int), .int .i64 sg] 194)
      generalize wr.alloc (.cells #[.int .i64 (R : Int), .int .i64 sg] 194) = W6 at *
      generalize wr.heap.size = p6 at *
      obtain ⟨y6, _⟩ := (Ext.refl W6).box hp6
      clear c0 c1 hbs St
      have St6 := Lib.hid st6
      have Hp6 := Lib.hid hp6
      clear st6 hp6
      go_upto_if 32 with (first
        | (have q := hx1; clear q; go_at_call 108; refine (fromB1 (alloc_at _ _ _ (by simp)) Hi2.out).mono ?_; rintro e v2 ⟨rfl, hx2⟩; have hv2 := (hv1.alloc _).trans hx2; obtain ⟨y6, _⟩ := (Ext.refl v2).box (hv2.heap Hp6.out); have hy4 := (St6.out.more hv2).b4; have y5 := (((Ext.refl v2).box hy4).1 R).trans Hcell.out; have f4 := ((Ext.refl v2).box hy4).2; have q4 := heap_lt hy4; clear hy4)
        | (go_at_call 108; refine (fromB1 (alloc_at _ _ _ (by simp)) Hi1.out).mono ?_; rintro e v1 ⟨rfl, hx1⟩; have hv1 := ((Ext.refl W6).alloc _).trans hx1; clear y6; obtain ⟨y6, _⟩ := (Ext.refl v1).box (hv1.heap Hp6.out)))
      have st9 := (St6.out.more hv2).put (by omega) (by omega) R sg
      clear hx1 hx2 hv1 hv2
      have St9 := Lib.hid st9
      clear st9
      go_wp2_with fail
      go_roundw
      case rel => exact ⟨k + 1, S.set R sg, by go_num, by omega, Hnext.out, St9.out⟩
      case measure => simp [intOf]; omega
    · have hltB : decide ((k : Int) < (kn : Int)) = false := by simp; omega
      have hS8 := hS.1
      have hb2 := st.b2
      have hb4 := st.b4
      have hset := setRow_heap wr (w.heap.size + 1) _ (ivs S) 196 (0, 0) hb2
      have hxe := below_setRow st.ext (show w.heap.size ≤ w.heap.size + 1 by omega) (ivs S)
      have hz1 : (Try.prog.info? 196).map (·.size) = some (ivs S).size := by rw [ivs_size, hS8]; kernel_rfl
      have hz2 : (ivs z8s).size = (ivs S).size := by rw [ivs_size, ivs_size, hS8]; rfl
      have hz3 := ivs_one S
      clear hS st
      have Hb2 := Lib.hid hb2
      have Hb4 := Lib.hid hb4
      have Hset := Lib.hid hset
      have Hxe := Lib.hid hxe
      have Hz1 := Lib.hid hz1
      have Hz2 := Lib.hid hz2
      have Hz3 := Lib.hid hz3
      clear hb2 hb4 hset hxe hz1 hz2 hz3
      go_wp2_with (first
        | (refine wpList_load_row rfl 196 (.tmp 4) rfl (w.heap.size + 1 + 1) rfl 196 (ivs S) (0, 0) _ Hb4.out Try.underlying196 rfl Hz1.out ?_)
        | (refine wpList_store_row rfl 196 (.tmp 2) (.tmp 40) rfl (w.heap.size + 1) (ivs S) rfl rfl 196 _ Hb2.out Hz1.out Hz2.out Hz3.out ?_))
      refine bodyPost_ret (results_cell_tmp rfl _ _ (w.heap.size + 1) 196 (ivs S) (0, 0) _ rfl Hset.out Try.underlying196 rfl Hz1.out) rfl ?_
      exact ⟨S, hS8, rfl, Hxe.out⟩
end Go.Proofs.Ytcoelhpmkhimpaa
