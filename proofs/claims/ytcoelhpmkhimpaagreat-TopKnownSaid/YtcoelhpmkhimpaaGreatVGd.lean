/- Contracts of layer 1: ceil, scaled, plus, rest. -/
import Derived.Test.YtcoelhpmkhimpaaGreatVGb
import Derived.Test.YtcoelhpmkhimpaaGreatVGc
import Derived.Test.YtcoelhpmkhimpaaGreatVBase
import Derived.Deep.CutRange
import Derived.Deep.CutBlock
import Derived.Carry
namespace Go.Proofs.YtcoelhpmkhimpaaGreat
open Go.RowKit
set_option linter.unusedVariables false
set_option linter.unusedSimpArgs false
theorem set2_ext {w W : World} (hx : Ext w W) {b : Nat} (hb : w.heap.size ≤ b) (x y : Value) : Ext w ((W.setCell ⟨b, 0, none⟩ x).setCell ⟨b, 1, none⟩ y) := (hx.setCell (p := ⟨b, 0, none⟩) hb _).setCell (p := ⟨b, 1, none⟩) hb _
theorem set2_box {W : World} {b : Nat} {x0 y0 : Value} {T : TypeId} (h : W.heap[b]? = some (.cells #[x0, y0] T (0, 0))) (x y : Value) : ((W.setCell ⟨b, 0, none⟩ x).setCell ⟨b, 1, none⟩ y).heap[b]? = some (.cells #[x, y] T (0, 0)) := by
  rw [heap_setCell_box, heap_setCell_box, h]
  rfl
theorem set2_other {W : World} {b k : Nat} {o : Obj} (h : W.heap[k]? = some o) (hne : k ≠ b) (x y : Value) : ((W.setCell ⟨b, 0, none⟩ x).setCell ⟨b, 1, none⟩ y).heap[k]? = some o :=
  (Below.heap_setCell _ _ _ _ hne).trans ((Below.heap_setCell _ _ _ _ hne).trans h)
theorem alloc_heap {W : World} {k : Nat} {o : Obj} (h : W.heap[k]? = some o) (o' : Obj) : (W.alloc o').heap[k]? = some o := ((Ext.refl W).alloc o').heap h
theorem ret_val {a b : Value} (h : a = b) : Ending.returned a = .returned b := by rw [h]
theorem ceil_any (a b : Int) (w : World) (ha : 0 ≤ a ∧ a ≤ 1000000000000000000) (hb : 0 < b ∧ b ≤ 1000000000) : Calls Tryz.prog 116 #[.int .i64 a, .int .i64 b] w fun e w' => e = .returned (.int .i64 (upq a b)) ∧ w' = w := by
  have hb0 : (b == 0) = false := by simp; omega
  have hu : 0 ≤ upq a b ∧ upq a b ≤ 1000000000000000000 := by
    have h1 := upq_mul (a := a) (d := b) (by omega)
    have h2 : 0 ≤ upq a b := upq_nonneg (by omega) ha.1
    refine ⟨h2, ?_⟩
    have h3 : upq a b * 1 ≤ upq a b * b := Int.mul_le_mul_of_nonneg_left (by omega) h2
    rcases Int.lt_or_le 1000000000000000000 (upq a b) with h | h
    · have h4 : upq a b - 1 ≤ (upq a b - 1) * b := by
        have := Int.mul_le_mul_of_nonneg_left (show 1 ≤ b by omega) (show 0 ≤ upq a b - 1 by omega)
        omega
      rw [Int.sub_mul] at h4
      omega
    · exact h
  have hq : (a + b - 1) / b = upq a b := rfl
  go_enter Tryz.func116, Tryz.ntmps116
  go_wp2_with fail
  go_ret
  exact ⟨ret_int hq, rfl⟩
def spSum (l : List Span) : Span := l.foldl (fun s x => ⟨s.lo + x.lo, s.hi + x.hi⟩) ⟨0, 0⟩
theorem spSum_snoc {l : List Span} {k : Nat} {x : Span} (h : l[k]? = some x) : spSum (l.take (k + 1)) = ⟨(spSum (l.take k)).lo + x.lo, (spSum (l.take k)).hi + x.hi⟩ := by
  unfold spSum
  rw [List.take_add_one, h, Option.toList_some, List.foldl_append]
  rfl
theorem spSum_bd {l : List Span} {M : Int} (h : ∀ x ∈ l, -M ≤ x.lo ∧ x.lo ≤ M ∧ -M ≤ x.hi ∧ x.hi ≤ M) : ∀ k : Nat, k ≤ l.length → -(M * k) ≤ (spSum (l.take k)).lo ∧ (spSum (l.take k)).lo ≤ M * k ∧ -(M * k) ≤ (spSum (l.take k)).hi ∧ (spSum (l.take k)).hi ≤ M * k
  | 0, _ => by simp [spSum]
  | k + 1, hk => by
    have ih := spSum_bd h k (by omega)
    have hx : l[k]? = some l[k] := List.getElem?_eq_getElem _
    have hm := h _ (List.mem_of_getElem? hx)
    rw [spSum_snoc hx]
    simp only
    have : M * ((k + 1 : Nat) : Int) = M * k + M := by rw [Int.natCast_add, Int.mul_add]; simp
    omega
set_option maxHeartbeats 4000000 in
theorem plus_any (a : Option Addr) (n cap : Nat) (l : List Span) (w : World) (hl : SpansAt w a n l) (hn : n ≤ 1000) (hb : ∀ x ∈ l, -1000000000000000 ≤ x.lo ∧ x.lo ≤ 1000000000000000 ∧ -1000000000000000 ≤ x.hi ∧ x.hi ≤ 1000000000000000) :
    Calls Tryz.prog 94 #[.slice a n cap] w fun e w' => e = .returned (spSum l).val ∧ Ext w w' := by
  have hll := hl.1
  have hbd := spSum_bd hb
  have hx0 : Ext w ((w.alloc (.cells #[.int .i64 0, .int .i64 0] 27)).alloc (.cells #[.int .i64 0, .int .i64 0] 27)) := ((Ext.refl _).alloc _).alloc _
  have hr0 := ((Ext.refl _).alloc (.cells #[.int .i64 0, .int .i64 0] 27)).heap (heap_alloc_new w (.cells #[.int .i64 0, .int .i64 0] 27))
  have hs0 : ((w.alloc (.cells #[.int .i64 0, .int .i64 0] 27)).alloc (.cells #[.int .i64 0, .int .i64 0] 27)).heap[w.heap.size + 1]? = some (.cells #[.int .i64 0, .int .i64 0] 27 (0, 0)) := alloc_at _ _ _ (by simp)
  have Hl := Lib.hid hl
  have Hll := Lib.hid hll
  have Hb := Lib.hid hb
  have Hbd := Lib.hid hbd
  have Hx0 := Lib.hid hx0
  have Hr0 := Lib.hid hr0
  have Hs0 := Lib.hid hs0
  clear hl hll hb hbd hx0 hr0 hs0
  go_enter Tryz.func94, Tryz.ntmps94
  go_wp2_with fail
  go_loopw [8] (fun i wr => ∃ k : Nat, k ≤ n ∧ i = .int .i64 k ∧ Ext w wr ∧ wr.heap[w.heap.size]? = some (.cells #[.int .i64 0, .int .i64 0] 27 (0, 0)) ∧ wr.heap[w.heap.size + 1]? = some (.cells #[.int .i64 (spSum (l.take k)).lo, .int .i64 (spSum (l.take k)).hi] 27 (0, 0))) (fun i _ => n - (intOf i).toNat)
  case atStart => exact ⟨0, Nat.zero_le _, rfl, Hx0.out, Hr0.out, Hs0.out⟩
  case round =>
    obtain ⟨k, hk, rfl, hx, hr, hs⟩ := hrel
    have hbk := Hbd.out k (by have := Hll.out; omega)
    obtain ⟨s0, _⟩ := (Ext.refl wr).box hs
    obtain ⟨r0, _⟩ := (Ext.refl wr).box hr
    have hsl := heap_lt hs
    by_cases hlt : k < n
    · obtain ⟨b, off, x, rfl, hxk, hb', c0, c1⟩ := (Hl.out.ext hx).get k hlt
      have hsn := spSum_snoc hxk
      have hxb := Hb.out x (List.mem_of_getElem? hxk)
      obtain ⟨x0, x1⟩ := x
      generalize spSum (l.take k) = s at *
      obtain ⟨a0, a1⟩ := s
      simp only at *
      have hk' : (1000000000000000 : Int) * (k : Int) ≤ 1000000000000000000 := by omega
      generalize (1000000000000000 : Int) * (k : Int) = K at *
      have Hx := Lib.hid hx
      have Hr := Lib.hid hr
      have Hs := Lib.hid hs
      have Hxk := Lib.hid hxk
      have Hsn := Lib.hid hsn
      clear hx hr hs hxk hsn
      go_wp2_with fail
      go_roundw
      case rel =>
        refine ⟨k + 1, by omega, by go_num, (set2_ext Hx.out (by omega) _ _).alloc _, alloc_heap (set2_other Hr.out (by omega) _ _) _, alloc_heap ?_ _⟩
        rw [Hsn.out]
        exact set2_box Hs.out _ _
      case measure => simp [intOf]; omega
    · obtain rfl : k = n := by omega
      have e : l.take k = l := by rw [List.take_of_length_le]; have := Hll.out; omega
      rw [e] at s0
      obtain ⟨⟨a0, a1⟩, hsu⟩ : ∃ s, spSum l = s := ⟨_, rfl⟩
      rw [hsu] at s0
      simp only at s0
      have Hr := Lib.hid hr
      have Hs := Lib.hid hs
      have Hx := Lib.hid hx
      clear hr hs hx
      go_wp2_with fail
      refine bodyPost_ret (results_cell_row rfl _ _ (w.heap.size) 27 #[.int .i64 a0, .int .i64 a1] (0, 0) _ rfl (set2_box Hr.out _ _) Tryz.underlying27 rfl (by kernel_rfl)) rfl ?_
      exact ⟨ret_val (by rw [hsu]; rfl), set2_ext Hx.out (Nat.le_refl _) _ _⟩
theorem plus2 {a b c d : Int} {w : World} {k : Nat} (hb : w.heap[k]? = some (.cells #[.int .i64 a, .int .i64 b, .int .i64 c, .int .i64 d] 27 (0, 0))) (h1 : -1000000000000000 ≤ a ∧ a ≤ 1000000000000000) (h2 : -1000000000000000 ≤ b ∧ b ≤ 1000000000000000) (h3 : -1000000000000000 ≤ c ∧ c ≤ 1000000000000000) (h4 : -1000000000000000 ≤ d ∧ d ≤ 1000000000000000) :
    Calls Tryz.prog 94 #[.slice (some ⟨k, 0, none⟩) 2 2] w fun e w' => e = .returned (.agg #[.int .i64 (a + c), .int .i64 (b + d)]) ∧ Ext w w' := by
  have := plus_any (some ⟨k, 0, none⟩) 2 2 [⟨a, b⟩, ⟨c, d⟩] w (spans_built (l := [⟨a, b⟩, ⟨c, d⟩]) hb) (by omega) (fun x hx => by
    simp at hx
    rcases hx with rfl | rfl
    · exact ⟨h1.1, h1.2, h2.1, h2.2⟩
    · exact ⟨h3.1, h3.2, h4.1, h4.2⟩)
  simpa [spSum, Span.val] using this
theorem plus3 {a b c d e f : Int} {w : World} {k : Nat} (hb : w.heap[k]? = some (.cells #[.int .i64 a, .int .i64 b, .int .i64 c, .int .i64 d, .int .i64 e, .int .i64 f] 27 (0, 0))) (h1 : -1000000000000000 ≤ a ∧ a ≤ 1000000000000000) (h2 : -1000000000000000 ≤ b ∧ b ≤ 1000000000000000) (h3 : -1000000000000000 ≤ c ∧ c ≤ 1000000000000000) (h4 : -1000000000000000 ≤ d ∧ d ≤ 1000000000000000) (h5 : -1000000000000000 ≤ e ∧ e ≤ 1000000000000000) (h6 : -1000000000000000 ≤ f ∧ f ≤ 1000000000000000) :
    Calls Tryz.prog 94 #[.slice (some ⟨k, 0, none⟩) 3 3] w fun z w' => z = .returned (.agg #[.int .i64 (a + c + e), .int .i64 (b + d + f)]) ∧ Ext w w' := by
  have := plus_any (some ⟨k, 0, none⟩) 3 3 [⟨a, b⟩, ⟨c, d⟩, ⟨e, f⟩] w (spans_built (l := [⟨a, b⟩, ⟨c, d⟩, ⟨e, f⟩]) hb) (by omega) (fun x hx => by
    simp at hx
    rcases hx with rfl | rfl | rfl
    · exact ⟨h1.1, h1.2, h2.1, h2.2⟩
    · exact ⟨h3.1, h3.2, h4.1, h4.2⟩
    · exact ⟨h5.1, h5.2, h6.1, h6.2⟩)
  simpa [spSum, Span.val] using this
end Go.Proofs.YtcoelhpmkhimpaaGreat

/- The rest of a function's code from a region on: so that a long walk is cut into declarations. -/
namespace Go.Proofs.YtcoelhpmkhimpaaGreat
def headIs (n : Nat) : Code → Bool
  | .region k _ _ => k == n
  | .seq a _ => headIs n a
  | _ => false
def fromRegion (n : Nat) : Code → Option Code
  | .seq a b => if headIs n a then some (.seq a b) else match fromRegion n a with
    | some c => some c
    | none => fromRegion n b
  | .loop c => fromRegion n c
  | .block _ c => fromRegion n c
  | .scope c => fromRegion n c
  | .cond _ a b => match fromRegion n a with
    | some c => some c
    | none => fromRegion n b
  | .region k o m => if k == n then some (.region k o m) else none
  | _ => none
noncomputable def restFrom (f : Func) (n : Nat) : Code := (f.body.bind (fromRegion n)).getD .skip
end Go.Proofs.YtcoelhpmkhimpaaGreat

/- The rest of a function's code from a loop on, named by the first region in it. -/
namespace Go.Proofs.YtcoelhpmkhimpaaGreat
def headIsB (n : Nat) : Code → Bool
  | .region k _ _ => k == n
  | .seq a _ => headIsB n a
  | .block _ c => headIsB n c
  | .loop c => headIsB n c
  | .scope c => headIsB n c
  | _ => false
def fromLoop (n : Nat) : Code → Option Code
  | .seq a b => if headIsB n a then some (.seq a b) else match fromLoop n a with
    | some c => some c
    | none => fromLoop n b
  | .loop c => if headIsB n c then some (.loop c) else fromLoop n c
  | .block k c => if headIsB n c then some (.block k c) else fromLoop n c
  | .scope c => if headIsB n c then some (.scope c) else fromLoop n c
  | .cond _ a b => match fromLoop n a with
    | some c => some c
    | none => fromLoop n b
  | .region k o m => if k == n then some (.region k o m) else none
  | _ => none
noncomputable def restLoop (f : Func) (n : Nat) : Code := (f.body.bind (fromLoop n)).getD .skip
end Go.Proofs.YtcoelhpmkhimpaaGreat

/- Contracts of layer 1: scaled. -/
namespace Go.Proofs.YtcoelhpmkhimpaaGreat
open Go.RowKit
set_option linter.unusedVariables false
set_option linter.unusedSimpArgs false
def prodTo (l : List Int) (x : Int) (k : Nat) : Int := (l.take k).foldl (· * ·) x
theorem prodTo_succ {l : List Int} {k : Nat} {y : Int} (h : l[k]? = some y) (x : Int) : prodTo l x (k + 1) = prodTo l x k * y := by
  unfold prodTo
  rw [List.take_add_one, h, Option.toList_some, List.foldl_append]
  rfl
set_option maxRecDepth 100000 in
set_option maxHeartbeats 4000000 in
theorem scaled_any (s : Span) (d : Int) (a : Option Addr) (n cap : Nat) (l : List Int) (w : World) (hl : IntsAt .i64 w a n l) (hn : n ≤ 1000) (hd : 0 < d ∧ d ≤ 1000000000)
    (hb : ∀ k, k ≤ n → 0 ≤ prodTo l s.lo k ∧ prodTo l s.lo k ≤ 1000000000000000000 ∧ 0 ≤ prodTo l s.hi k ∧ prodTo l s.hi k ≤ 1000000000000000000) :
    Calls Tryz.prog 95 #[s.val, .int .i64 d, .slice a n cap] w fun e w' => e = .returned (Span.val ⟨prodTo l s.lo n / d, upq (prodTo l s.hi n) d⟩) ∧ Ext w w' := by
  obtain ⟨x, y⟩ := s
  simp only at hb
  unfold Span.val
  simp only
  have hll := hl.1
  have hx0 : Ext w ((w.alloc (.cells #[.int .i64 x, .int .i64 y] 27)).alloc (.cells #[.int .i64 0, .int .i64 0] 27)) := ((Ext.refl _).alloc _).alloc _
  have hp0 := alloc_heap (heap_alloc_new w (.cells #[.int .i64 x, .int .i64 y] 27)) (.cells #[.int .i64 0, .int .i64 0] 27)
  have hr0 : ((w.alloc (.cells #[.int .i64 x, .int .i64 y] 27)).alloc (.cells #[.int .i64 0, .int .i64 0] 27)).heap[w.heap.size + 1]? = some (.cells #[.int .i64 0, .int .i64 0] 27 (0, 0)) := alloc_at _ _ _ (by simp)
  have Hl := Lib.hid hl
  have Hll := Lib.hid hll
  have Hb := Lib.hid hb
  have Hx0 := Lib.hid hx0
  have Hp0 := Lib.hid hp0
  have Hr0 := Lib.hid hr0
  clear hl hll hb hx0 hp0 hr0
  go_enter Tryz.func95, Tryz.ntmps95
  go_wp2_with fail
  go_loopw [11] (fun i wr => ∃ k : Nat, k ≤ n ∧ i = .int .i64 k ∧ Ext w wr ∧ wr.heap[w.heap.size]? = some (.cells #[.int .i64 (prodTo l x k), .int .i64 (prodTo l y k)] 27 (0, 0)) ∧ wr.heap[w.heap.size + 1]? = some (.cells #[.int .i64 0, .int .i64 0] 27 (0, 0))) (fun i _ => n - (intOf i).toNat)
  case atStart => exact ⟨0, Nat.zero_le _, rfl, Hx0.out, Hp0.out, Hr0.out⟩
  case round =>
    obtain ⟨k, hk, rfl, hx, hp, hr⟩ := hrel
    have hbk := Hb.out k hk
    obtain ⟨p0, p1⟩ := (Ext.refl wr).box hp
    have hpl := heap_lt hp
    by_cases hlt : k < n
    · obtain ⟨b, off, z, rfl, hzk, hb', c0⟩ := (Hl.out.ext hx).get k hlt
      have hbn := Hb.out (k + 1) hlt
      have hsx := prodTo_succ hzk x
      have hsy := prodTo_succ hzk y
      rw [hsx, hsy] at hbn
      generalize prodTo l x k = A at *
      generalize prodTo l y k = B at *
      obtain ⟨C, hC⟩ : ∃ C, A * z = C := ⟨_, rfl⟩
      obtain ⟨D, hD⟩ : ∃ D, B * z = D := ⟨_, rfl⟩
      rw [hC] at hbn hsx
      rw [hD] at hbn hsy
      have Hx := Lib.hid hx
      have Hp := Lib.hid hp
      have Hr := Lib.hid hr
      have Hzk := Lib.hid hzk
      have Hsx := Lib.hid hsx
      have Hsy := Lib.hid hsy
      clear hx hp hr hzk hsx hsy
      go_wp2_with fail
      go_roundw
      case rel =>
        refine ⟨k + 1, by omega, by go_num, set2_ext Hx.out (by omega) _ _, ?_, set2_other Hr.out (by omega) _ _⟩
        rw [Hsx.out, Hsy.out]
        exact set2_box Hp.out _ _
      case measure => simp [intOf]; omega
    · obtain rfl : k = n := by omega
      obtain ⟨A, hA⟩ : ∃ A, prodTo l x k = A := ⟨_, rfl⟩
      obtain ⟨B, hB⟩ : ∃ B, prodTo l y k = B := ⟨_, rfl⟩
      rw [hA, hB] at hbk hp
      rw [hA] at p0
      rw [hB] at p0
      have hdB : (d == 0) = false := by simp; omega
      have hce := fun W => ceil_any B d W ⟨hbk.2.2.1, hbk.2.2.2⟩ hd
      obtain ⟨C, hC⟩ : ∃ C, upq B d = C := ⟨_, rfl⟩
      rw [hC] at hce
      have Hp := Lib.hid hp
      have Hr := Lib.hid hr
      have Hx := Lib.hid hx
      have Hce := Lib.hid hce
      have HA := Lib.hid hA
      have HB := Lib.hid hB
      have HC := Lib.hid hC
      clear hp hr hx hce hA hB hC
      clear p0 p1
      go_upto_region 6 with fail
      refine wp_region_plan (.take [0, 1, 2, 3, 4, 5, 6] (.call 7 (.free [8] (.fin (.one 9 .done))))) [9] (Ext wr) _ (by kernel_rfl) (by kernel_rfl) rfl (EC.ext wr) ((Ext.refl _).drew) ?_
      simp only [planOf, treeOf, oneOp, twoOp, opsOf, consOp, callOC, oneOC, twoOC, List.getElem?_toArray, List.getElem?_cons_succ, List.getElem?_cons_zero]
      intro ι _ f hf
      have f0 := fun q => ((hf q).box Hp.out).1
      clear hf
      repeat (go_big_quiet_step (fail))
      refine wpQuiet_nil ?_
      clear f0
      refine wpOC_call (args := #[.int .i64 B, .int .i64 d]) (v := .int .i64 C) rfl rfl (enters_of Tryz.func116 (by kernel_rfl) rfl) (by kernel_rfl) (fun V hV => (Hce.out V).mono (by rintro e w' ⟨h1, rfl⟩; exact ⟨h1, Ext.refl _⟩)) ?_
      simp only [Act.put, List.setIfInBounds_toArray, List.set_cons_succ, List.set_cons_zero]
      refine wpOC_free ?_
      repeat (go_big_quiet_step (fail))
      refine wpQuiet_nil ?_
      intro W8 hx8
      have hr8 := hx8.heap Hr.out
      have hrl := heap_lt hr8
      obtain ⟨r0, r1⟩ := (Ext.refl W8).box hr8
      refine wpOT_one ?_
      go_wp2_with fail
      refine wpOT_done ?_
      go_wp2_with fail
      refine bodyPost_ret (results_cell_row rfl _ _ (w.heap.size + 1) 27 #[.int .i64 (A / d), .int .i64 C] (0, 0) _ rfl (set2_box hr8 _ _) Tryz.underlying27 rfl (by kernel_rfl)) rfl ?_
      exact ⟨ret_val (by rw [HA.out, HB.out, HC.out]), set2_ext (Hx.out.trans hx8) (by omega) _ _⟩
theorem scaled1 {a b d n : Int} {w : World} {k : Nat} (hb : w.heap[k]? = some (.cells #[.int .i64 n] 3 (0, 0))) (hd : 0 < d ∧ d ≤ 1000000000) (ha : 0 ≤ a ∧ a ≤ 1000000000000000000) (hb0 : 0 ≤ b ∧ b ≤ 1000000000000000000) (h1 : 0 ≤ a * n ∧ a * n ≤ 1000000000000000000) (h2 : 0 ≤ b * n ∧ b * n ≤ 1000000000000000000) :
    Calls Tryz.prog 95 #[.agg #[.int .i64 a, .int .i64 b], .int .i64 d, .slice (some ⟨k, 0, none⟩) 1 1] w fun e w' => e = .returned (.agg #[.int .i64 (a * n / d), .int .i64 (upq (b * n) d)]) ∧ Ext w w' := by
  have := scaled_any ⟨a, b⟩ d (some ⟨k, 0, none⟩) 1 1 [n] w (ints_built (l := [n]) hb) (by omega) hd (fun j hj => by
    match j, hj with
    | 0, _ => simpa [prodTo] using ⟨ha.1, ha.2, hb0.1, hb0.2⟩
    | 1, _ => simpa [prodTo] using ⟨h1.1, h1.2, h2.1, h2.2⟩)
  simpa [prodTo, Span.val] using this
theorem scaled2 {a b d n m : Int} {w : World} {k : Nat} (hb : w.heap[k]? = some (.cells #[.int .i64 n, .int .i64 m] 3 (0, 0))) (hd : 0 < d ∧ d ≤ 1000000000) (ha : 0 ≤ a ∧ a ≤ 1000000000000000000) (hb0 : 0 ≤ b ∧ b ≤ 1000000000000000000) (h1 : 0 ≤ a * n ∧ a * n ≤ 1000000000000000000) (h2 : 0 ≤ b * n ∧ b * n ≤ 1000000000000000000)
    (h3 : 0 ≤ a * n * m ∧ a * n * m ≤ 1000000000000000000) (h4 : 0 ≤ b * n * m ∧ b * n * m ≤ 1000000000000000000) :
    Calls Tryz.prog 95 #[.agg #[.int .i64 a, .int .i64 b], .int .i64 d, .slice (some ⟨k, 0, none⟩) 2 2] w fun e w' => e = .returned (.agg #[.int .i64 (a * n * m / d), .int .i64 (upq (b * n * m) d)]) ∧ Ext w w' := by
  have := scaled_any ⟨a, b⟩ d (some ⟨k, 0, none⟩) 2 2 [n, m] w (ints_built (l := [n, m]) hb) (by omega) hd (fun j hj => by
    match j, hj with
    | 0, _ => simpa [prodTo] using ⟨ha.1, ha.2, hb0.1, hb0.2⟩
    | 1, _ => simpa [prodTo] using ⟨h1.1, h1.2, h2.1, h2.2⟩
    | 2, _ => simpa [prodTo] using ⟨h3.1, h3.2, h4.1, h4.2⟩)
  simpa [prodTo, Span.val] using this
end Go.Proofs.YtcoelhpmkhimpaaGreat
