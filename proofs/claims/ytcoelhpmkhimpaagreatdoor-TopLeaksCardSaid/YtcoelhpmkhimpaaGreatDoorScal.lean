/- Contracts of layer 1: scaled. -/
import Derived.Test.YtcoelhpmkhimpaaGreatDoorArith
import Derived.Deep.CutRange
import Derived.Deep.CutBlock
import Derived.Carry
import Derived.Test.YtcoelhpmkhimpaaGreatDoorFromB
namespace Go.Proofs.YtcoelhpmkhimpaaGreatDoor
open Go.RowKit
set_option linter.unusedVariables false
set_option linter.unusedSimpArgs false
def prodTo (l : List Int) (x : Int) (k : Nat) : Int := (l.take k).foldl (· * ·) x
theorem prodTo_succ {l : List Int} {k : Nat} {y : Int} (h : l[k]? = some y) (x : Int) : prodTo l x (k + 1) = prodTo l x k * y := by
  unfold prodTo
  rw [List.take_add_one, h, Option.toList_some, List.foldl_append]
  rfl
set_option maxRecDepth 100000 in
set_option maxHeartbeats 4000000 in
theorem scaled_any (s : Span) (d : Int) (a : Option Addr) (n cap : Nat) (l : List Int) (w : World) (hl : IntsAt .i64 w a n l) (hn : n ≤ 1000) (hd : 0 < d ∧ d ≤ 1000000000)
    (hb : ∀ k, k ≤ n → 0 ≤ prodTo l s.lo k ∧ prodTo l s.lo k ≤ 1000000000000000000 ∧ 0 ≤ prodTo l s.hi k ∧ prodTo l s.hi k ≤ 1000000000000000000) :
    Calls Tryz.prog 74 #[s.val, .int .i64 d, .slice a n cap] w fun e w' => e = .returned (Span.val ⟨prodTo l s.lo n / d, upq (prodTo l s.hi n) d⟩) ∧ Ext w w' := by
  obtain ⟨x, y⟩ := s
  simp only at hb
  unfold Span.val
  simp only
  have hll := hl.1
  have hx0 : Ext w ((w.alloc (.cells #[.int .i64 x, .int .i64 y] 23)).alloc (.cells #[.int .i64 0, .int .i64 0] 23)) := ((Ext.refl _).alloc _).alloc _
  have hp0 := alloc_heap (heap_alloc_new w (.cells #[.int .i64 x, .int .i64 y] 23)) (.cells #[.int .i64 0, .int .i64 0] 23)
  have hr0 : ((w.alloc (.cells #[.int .i64 x, .int .i64 y] 23)).alloc (.cells #[.int .i64 0, .int .i64 0] 23)).heap[w.heap.size + 1]? = some (.cells #[.int .i64 0, .int .i64 0] 23 (0, 0)) := alloc_at _ _ _ (by simp)
  have Hl := Lib.hid hl
  have Hll := Lib.hid hll
  have Hb := Lib.hid hb
  have Hx0 := Lib.hid hx0
  have Hp0 := Lib.hid hp0
  have Hr0 := Lib.hid hr0
  clear hl hll hb hx0 hp0 hr0
  go_enter Tryz.func74, Tryz.ntmps74
  go_wp2_with fail
  go_loopw [11] (fun i wr => ∃ k : Nat, k ≤ n ∧ i = .int .i64 k ∧ Ext w wr ∧ wr.heap[w.heap.size]? = some (.cells #[.int .i64 (prodTo l x k), .int .i64 (prodTo l y k)] 23 (0, 0)) ∧ wr.heap[w.heap.size + 1]? = some (.cells #[.int .i64 0, .int .i64 0] 23 (0, 0))) (fun i _ => n - (intOf i).toNat)
  case atStart => exact ⟨0, Nat.zero_le _, rfl, Hx0.out, Hp0.out, Hr0.out⟩
  case round =>
    obtain ⟨k, hk, rfl, hx, hp, hr⟩ := hrel
    have hbk := Hb.out k hk
    obtain ⟨p0, p1⟩ := (Ext.refl wr).box hp
    have hpl := heap_lt hp
    by_cases hlt : k < n
    · obtain ⟨b, off, z, rfl, hzk, hb', c0⟩ := (Hl.out.ext hx).get k hlt
      have hbn := Hb.out (k + 1) hlt
      have hsx := prodTo_succ hzk x
      have hsy := prodTo_succ hzk y
      rw [hsx, hsy] at hbn
      generalize prodTo l x k = A at *
      generalize prodTo l y k = B at *
      obtain ⟨C, hC⟩ : ∃ C, A * z = C := ⟨_, rfl⟩
      obtain ⟨D, hD⟩ : ∃ D, B * z = D := ⟨_, rfl⟩
      rw [hC] at hbn hsx
      rw [hD] at hbn hsy
      have Hx := Lib.hid hx
      have Hp := Lib.hid hp
      have Hr := Lib.hid hr
      have Hzk := Lib.hid hzk
      have Hsx := Lib.hid hsx
      have Hsy := Lib.hid hsy
      clear hx hp hr hzk hsx hsy
      go_wp2_with fail
      go_roundw
      case rel =>
        refine ⟨k + 1, by omega, by go_num, set2_ext Hx.out (by omega) _ _, ?_, set2_other Hr.out (by omega) _ _⟩
        rw [Hsx.out, Hsy.out]
        exact set2_box Hp.out _ _
      case measure => simp [intOf]; omega
    · obtain rfl : k = n := by omega
      obtain ⟨A, hA⟩ : ∃ A, prodTo l x k = A := ⟨_, rfl⟩
      obtain ⟨B, hB⟩ : ∃ B, prodTo l y k = B := ⟨_, rfl⟩
      rw [hA, hB] at hbk hp
      rw [hA] at p0
      rw [hB] at p0
      have hdB : (d == 0) = false := by simp; omega
      have hce := fun W => ceil_any B d W ⟨hbk.2.2.1, hbk.2.2.2⟩ hd
      obtain ⟨C, hC⟩ : ∃ C, upq B d = C := ⟨_, rfl⟩
      rw [hC] at hce
      have Hp := Lib.hid hp
      have Hr := Lib.hid hr
      have Hx := Lib.hid hx
      have Hce := Lib.hid hce
      have HA := Lib.hid hA
      have HB := Lib.hid hB
      have HC := Lib.hid hC
      clear hp hr hx hce hA hB hC
      clear p0 p1
      go_upto_region 6 with fail
      refine wp_region_plan (.take [0, 1, 2, 3, 4, 5, 6] (.call 7 (.free [8] (.fin (.one 9 .done))))) [9] (Ext wr) _ (by kernel_rfl) (by kernel_rfl) rfl (EC.ext wr) ((Ext.refl _).drew) ?_
      simp only [planOf, treeOf, oneOp, twoOp, opsOf, consOp, callOC, oneOC, twoOC, List.getElem?_toArray, List.getElem?_cons_succ, List.getElem?_cons_zero]
      intro ι _ f hf
      have f0 := fun q => ((hf q).box Hp.out).1
      clear hf
      repeat (go_big_quiet_step (fail))
      refine wpQuiet_nil ?_
      clear f0
      refine wpOC_call (args := #[.int .i64 B, .int .i64 d]) (v := .int .i64 C) rfl rfl (enters_of Tryz.func70 (by kernel_rfl) rfl) (by kernel_rfl) (fun V hV => (Hce.out V).mono (by rintro e w' ⟨h1, rfl⟩; exact ⟨h1, Ext.refl _⟩)) ?_
      simp only [Act.put, List.setIfInBounds_toArray, List.set_cons_succ, List.set_cons_zero]
      refine wpOC_free ?_
      repeat (go_big_quiet_step (fail))
      refine wpQuiet_nil ?_
      intro W8 hx8
      have hr8 := hx8.heap Hr.out
      have hrl := heap_lt hr8
      obtain ⟨r0, r1⟩ := (Ext.refl W8).box hr8
      refine wpOT_one ?_
      go_wp2_with fail
      refine wpOT_done ?_
      go_wp2_with fail
      refine bodyPost_ret (results_cell_row rfl _ _ (w.heap.size + 1) 23 #[.int .i64 (A / d), .int .i64 C] (0, 0) _ rfl (set2_box hr8 _ _) Tryz.underlying23 rfl (by kernel_rfl)) rfl ?_
      exact ⟨ret_val (by rw [HA.out, HB.out, HC.out]), set2_ext (Hx.out.trans hx8) (by omega) _ _⟩
theorem scaled1 {a b d n : Int} {w : World} {k : Nat} (hb : w.heap[k]? = some (.cells #[.int .i64 n] 3 (0, 0))) (hd : 0 < d ∧ d ≤ 1000000000) (ha : 0 ≤ a ∧ a ≤ 1000000000000000000) (hb0 : 0 ≤ b ∧ b ≤ 1000000000000000000) (h1 : 0 ≤ a * n ∧ a * n ≤ 1000000000000000000) (h2 : 0 ≤ b * n ∧ b * n ≤ 1000000000000000000) :
    Calls Tryz.prog 74 #[.agg #[.int .i64 a, .int .i64 b], .int .i64 d, .slice (some ⟨k, 0, none⟩) 1 1] w fun e w' => e = .returned (.agg #[.int .i64 (a * n / d), .int .i64 (upq (b * n) d)]) ∧ Ext w w' := by
  have := scaled_any ⟨a, b⟩ d (some ⟨k, 0, none⟩) 1 1 [n] w (ints_built (l := [n]) hb) (by omega) hd (fun j hj => by
    match j, hj with
    | 0, _ => simpa [prodTo] using ⟨ha.1, ha.2, hb0.1, hb0.2⟩
    | 1, _ => simpa [prodTo] using ⟨h1.1, h1.2, h2.1, h2.2⟩)
  simpa [prodTo, Span.val] using this
theorem scaled2 {a b d n m : Int} {w : World} {k : Nat} (hb : w.heap[k]? = some (.cells #[.int .i64 n, .int .i64 m] 3 (0, 0))) (hd : 0 < d ∧ d ≤ 1000000000) (ha : 0 ≤ a ∧ a ≤ 1000000000000000000) (hb0 : 0 ≤ b ∧ b ≤ 1000000000000000000) (h1 : 0 ≤ a * n ∧ a * n ≤ 1000000000000000000) (h2 : 0 ≤ b * n ∧ b * n ≤ 1000000000000000000)
    (h3 : 0 ≤ a * n * m ∧ a * n * m ≤ 1000000000000000000) (h4 : 0 ≤ b * n * m ∧ b * n * m ≤ 1000000000000000000) :
    Calls Tryz.prog 74 #[.agg #[.int .i64 a, .int .i64 b], .int .i64 d, .slice (some ⟨k, 0, none⟩) 2 2] w fun e w' => e = .returned (.agg #[.int .i64 (a * n * m / d), .int .i64 (upq (b * n * m) d)]) ∧ Ext w w' := by
  have := scaled_any ⟨a, b⟩ d (some ⟨k, 0, none⟩) 2 2 [n, m] w (ints_built (l := [n, m]) hb) (by omega) hd (fun j hj => by
    match j, hj with
    | 0, _ => simpa [prodTo] using ⟨ha.1, ha.2, hb0.1, hb0.2⟩
    | 1, _ => simpa [prodTo] using ⟨h1.1, h1.2, h2.1, h2.2⟩
    | 2, _ => simpa [prodTo] using ⟨h3.1, h3.2, h4.1, h4.2⟩)
  simpa [prodTo, Span.val] using this
end Go.Proofs.YtcoelhpmkhimpaaGreatDoor
