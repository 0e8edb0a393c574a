/- Contracts of layer 1: ceil, scaled, plus, rest. -/
import Derived.Test.YtcoelhpmkhimpaaGreatDoorFlow
import Derived.Test.YtcoelhpmkhimpaaGreatDoorRngB
import Derived.Test.YtcoelhpmkhimpaaGreatDoorData
import Derived.Test.YtcoelhpmkhimpaaGreatDoorFromTo
namespace Go.Proofs.YtcoelhpmkhimpaaGreatDoor
open Go.RowKit
set_option linter.unusedVariables false
set_option linter.unusedSimpArgs false
theorem set2_ext {w W : World} (hx : Ext w W) {b : Nat} (hb : w.heap.size ≤ b) (x y : Value) : Ext w ((W.setCell ⟨b, 0, none⟩ x).setCell ⟨b, 1, none⟩ y) := (hx.setCell (p := ⟨b, 0, none⟩) hb _).setCell (p := ⟨b, 1, none⟩) hb _
theorem set2_box {W : World} {b : Nat} {x0 y0 : Value} {T : TypeId} (h : W.heap[b]? = some (.cells #[x0, y0] T (0, 0))) (x y : Value) : ((W.setCell ⟨b, 0, none⟩ x).setCell ⟨b, 1, none⟩ y).heap[b]? = some (.cells #[x, y] T (0, 0)) := by
  rw [heap_setCell_box, heap_setCell_box, h]
  rfl
theorem set2_other {W : World} {b k : Nat} {o : Obj} (h : W.heap[k]? = some o) (hne : k ≠ b) (x y : Value) : ((W.setCell ⟨b, 0, none⟩ x).setCell ⟨b, 1, none⟩ y).heap[k]? = some o :=
  (Below.heap_setCell _ _ _ _ hne).trans ((Below.heap_setCell _ _ _ _ hne).trans h)
theorem alloc_heap {W : World} {k : Nat} {o : Obj} (h : W.heap[k]? = some o) (o' : Obj) : (W.alloc o').heap[k]? = some o := ((Ext.refl W).alloc o').heap h
theorem ret_val {a b : Value} (h : a = b) : Ending.returned a = .returned b := by rw [h]
theorem rest_any (n : Int) (s : Span) (w : World) (h1 : -1000000000000 ≤ n ∧ n ≤ 1000000000000) (h2 : -1000000000000 ≤ s.lo ∧ s.lo ≤ 1000000000000) (h3 : -1000000000000 ≤ s.hi ∧ s.hi ≤ 1000000000000) :
    Calls Tryz.prog 75 #[.int .i64 n, s.val] w fun e w' => e = .returned (Span.val ⟨n - s.hi, n - s.lo⟩) ∧ Ext w w' := by
  obtain ⟨a, b⟩ := s
  unfold Span.val
  simp only at *
  go_enter Tryz.func75, Tryz.ntmps75
  go_wp2_with fail
  refine bodyPost_ret (results_cell_row rfl _ _ (w.heap.size + 1) 23 #[.int .i64 (n - b), .int .i64 (n - a)] (0, 0) _ rfl (alloc_at _ _ _ (by simp)) Tryz.underlying23 rfl (by kernel_rfl)) rfl ?_
  exact ⟨rfl, (((Ext.refl _).alloc _).alloc _)⟩
theorem ceil_any (a b : Int) (w : World) (ha : 0 ≤ a ∧ a ≤ 1000000000000000000) (hb : 0 < b ∧ b ≤ 1000000000) : Calls Tryz.prog 70 #[.int .i64 a, .int .i64 b] w fun e w' => e = .returned (.int .i64 (upq a b)) ∧ w' = w := by
  have hb0 : (b == 0) = false := by simp; omega
  have hu : 0 ≤ upq a b ∧ upq a b ≤ 1000000000000000000 := by
    have h1 := upq_mul (a := a) (d := b) (by omega)
    have h2 : 0 ≤ upq a b := upq_nonneg (by omega) ha.1
    refine ⟨h2, ?_⟩
    have h3 : upq a b * 1 ≤ upq a b * b := Int.mul_le_mul_of_nonneg_left (by omega) h2
    rcases Int.lt_or_le 1000000000000000000 (upq a b) with h | h
    · have h4 : upq a b - 1 ≤ (upq a b - 1) * b := by
        have := Int.mul_le_mul_of_nonneg_left (show 1 ≤ b by omega) (show 0 ≤ upq a b - 1 by omega)
        omega
      rw [Int.sub_mul] at h4
      omega
    · exact h
  have hq : (a + b - 1) / b = upq a b := rfl
  go_enter Tryz.func70, Tryz.ntmps70
  go_wp2_with fail
  go_ret
  exact ⟨ret_int hq, rfl⟩
def spSum (l : List Span) : Span := l.foldl (fun s x => ⟨s.lo + x.lo, s.hi + x.hi⟩) ⟨0, 0⟩
theorem spSum_snoc {l : List Span} {k : Nat} {x : Span} (h : l[k]? = some x) : spSum (l.take (k + 1)) = ⟨(spSum (l.take k)).lo + x.lo, (spSum (l.take k)).hi + x.hi⟩ := by
  unfold spSum
  rw [List.take_add_one, h, Option.toList_some, List.foldl_append]
  rfl
theorem spSum_bd {l : List Span} {M : Int} (h : ∀ x ∈ l, -M ≤ x.lo ∧ x.lo ≤ M ∧ -M ≤ x.hi ∧ x.hi ≤ M) : ∀ k : Nat, k ≤ l.length → -(M * k) ≤ (spSum (l.take k)).lo ∧ (spSum (l.take k)).lo ≤ M * k ∧ -(M * k) ≤ (spSum (l.take k)).hi ∧ (spSum (l.take k)).hi ≤ M * k
  | 0, _ => by simp [spSum]
  | k + 1, hk => by
    have ih := spSum_bd h k (by omega)
    have hx : l[k]? = some l[k] := List.getElem?_eq_getElem _
    have hm := h _ (List.mem_of_getElem? hx)
    rw [spSum_snoc hx]
    simp only
    have : M * ((k + 1 : Nat) : Int) = M * k + M := by rw [Int.natCast_add, Int.mul_add]; simp
    omega
set_option maxHeartbeats 4000000 in
theorem plus_any (a : Option Addr) (n cap : Nat) (l : List Span) (w : World) (hl : SpansAt w a n l) (hn : n ≤ 1000) (hb : ∀ x ∈ l, -1000000000000000 ≤ x.lo ∧ x.lo ≤ 1000000000000000 ∧ -1000000000000000 ≤ x.hi ∧ x.hi ≤ 1000000000000000) :
    Calls Tryz.prog 73 #[.slice a n cap] w fun e w' => e = .returned (spSum l).val ∧ Ext w w' := by
  have hll := hl.1
  have hbd := spSum_bd hb
  have hx0 : Ext w ((w.alloc (.cells #[.int .i64 0, .int .i64 0] 23)).alloc (.cells #[.int .i64 0, .int .i64 0] 23)) := ((Ext.refl _).alloc _).alloc _
  have hr0 := ((Ext.refl _).alloc (.cells #[.int .i64 0, .int .i64 0] 23)).heap (heap_alloc_new w (.cells #[.int .i64 0, .int .i64 0] 23))
  have hs0 : ((w.alloc (.cells #[.int .i64 0, .int .i64 0] 23)).alloc (.cells #[.int .i64 0, .int .i64 0] 23)).heap[w.heap.size + 1]? = some (.cells #[.int .i64 0, .int .i64 0] 23 (0, 0)) := alloc_at _ _ _ (by simp)
  have Hl := Lib.hid hl
  have Hll := Lib.hid hll
  have Hb := Lib.hid hb
  have Hbd := Lib.hid hbd
  have Hx0 := Lib.hid hx0
  have Hr0 := Lib.hid hr0
  have Hs0 := Lib.hid hs0
  clear hl hll hb hbd hx0 hr0 hs0
  go_enter Tryz.func73, Tryz.ntmps73
  go_wp2_with fail
  go_loopw [8] (fun i wr => ∃ k : Nat, k ≤ n ∧ i = .int .i64 k ∧ Ext w wr ∧ wr.heap[w.heap.size]? = some (.cells #[.int .i64 0, .int .i64 0] 23 (0, 0)) ∧ wr.heap[w.heap.size + 1]? = some (.cells #[.int .i64 (spSum (l.take k)).lo, .int .i64 (spSum (l.take k)).hi] 23 (0, 0))) (fun i _ => n - (intOf i).toNat)
  case atStart => exact ⟨0, Nat.zero_le _, rfl, Hx0.out, Hr0.out, Hs0.out⟩
  case round =>
    obtain ⟨k, hk, rfl, hx, hr, hs⟩ := hrel
    have hbk := Hbd.out k (by have := Hll.out; omega)
    obtain ⟨s0, _⟩ := (Ext.refl wr).box hs
    obtain ⟨r0, _⟩ := (Ext.refl wr).box hr
    have hsl := heap_lt hs
    by_cases hlt : k < n
    · obtain ⟨b, off, x, rfl, hxk, hb', c0, c1⟩ := (Hl.out.ext hx).get k hlt
      have hsn := spSum_snoc hxk
      have hxb := Hb.out x (List.mem_of_getElem? hxk)
      obtain ⟨x0, x1⟩ := x
      generalize spSum (l.take k) = s at *
      obtain ⟨a0, a1⟩ := s
      simp only at *
      have hk' : (1000000000000000 : Int) * (k : Int) ≤ 1000000000000000000 := by omega
      generalize (1000000000000000 : Int) * (k : Int) = K at *
      have Hx := Lib.hid hx
      have Hr := Lib.hid hr
      have Hs := Lib.hid hs
      have Hxk := Lib.hid hxk
      have Hsn := Lib.hid hsn
      clear hx hr hs hxk hsn
      go_wp2_with fail
      go_roundw
      case rel =>
        refine ⟨k + 1, by omega, by go_num, (set2_ext Hx.out (by omega) _ _).alloc _, alloc_heap (set2_other Hr.out (by omega) _ _) _, alloc_heap ?_ _⟩
        rw [Hsn.out]
        exact set2_box Hs.out _ _
      case measure => simp [intOf]; omega
    · obtain rfl : k = n := by omega
      have e : l.take k = l := by rw [List.take_of_length_le]; have := Hll.out; omega
      rw [e] at s0
      obtain ⟨⟨a0, a1⟩, hsu⟩ : ∃ s, spSum l = s := ⟨_, rfl⟩
      rw [hsu] at s0
      simp only at s0
      have Hr := Lib.hid hr
      have Hs := Lib.hid hs
      have Hx := Lib.hid hx
      clear hr hs hx
      go_wp2_with fail
      refine bodyPost_ret (results_cell_row rfl _ _ (w.heap.size) 23 #[.int .i64 a0, .int .i64 a1] (0, 0) _ rfl (set2_box Hr.out _ _) Tryz.underlying23 rfl (by kernel_rfl)) rfl ?_
      exact ⟨ret_val (by rw [hsu]; rfl), set2_ext Hx.out (Nat.le_refl _) _ _⟩
theorem plus2 {a b c d : Int} {w : World} {k : Nat} (hb : w.heap[k]? = some (.cells #[.int .i64 a, .int .i64 b, .int .i64 c, .int .i64 d] 23 (0, 0))) (h1 : -1000000000000000 ≤ a ∧ a ≤ 1000000000000000) (h2 : -1000000000000000 ≤ b ∧ b ≤ 1000000000000000) (h3 : -1000000000000000 ≤ c ∧ c ≤ 1000000000000000) (h4 : -1000000000000000 ≤ d ∧ d ≤ 1000000000000000) :
    Calls Tryz.prog 73 #[.slice (some ⟨k, 0, none⟩) 2 2] w fun e w' => e = .returned (.agg #[.int .i64 (a + c), .int .i64 (b + d)]) ∧ Ext w w' := by
  have := plus_any (some ⟨k, 0, none⟩) 2 2 [⟨a, b⟩, ⟨c, d⟩] w (spans_built (l := [⟨a, b⟩, ⟨c, d⟩]) hb) (by omega) (fun x hx => by
    simp at hx
    rcases hx with rfl | rfl
    · exact ⟨h1.1, h1.2, h2.1, h2.2⟩
    · exact ⟨h3.1, h3.2, h4.1, h4.2⟩)
  simpa [spSum, Span.val] using this
theorem plus3 {a b c d e f : Int} {w : World} {k : Nat} (hb : w.heap[k]? = some (.cells #[.int .i64 a, .int .i64 b, .int .i64 c, .int .i64 d, .int .i64 e, .int .i64 f] 23 (0, 0))) (h1 : -1000000000000000 ≤ a ∧ a ≤ 1000000000000000) (h2 : -1000000000000000 ≤ b ∧ b ≤ 1000000000000000) (h3 : -1000000000000000 ≤ c ∧ c ≤ 1000000000000000) (h4 : -1000000000000000 ≤ d ∧ d ≤ 1000000000000000) (h5 : -1000000000000000 ≤ e ∧ e ≤ 1000000000000000) (h6 : -1000000000000000 ≤ f ∧ f ≤ 1000000000000000) :
    Calls Tryz.prog 73 #[.slice (some ⟨k, 0, none⟩) 3 3] w fun z w' => z = .returned (.agg #[.int .i64 (a + c + e), .int .i64 (b + d + f)]) ∧ Ext w w' := by
  have := plus_any (some ⟨k, 0, none⟩) 3 3 [⟨a, b⟩, ⟨c, d⟩, ⟨e, f⟩] w (spans_built (l := [⟨a, b⟩, ⟨c, d⟩, ⟨e, f⟩]) hb) (by omega) (fun x hx => by
    simp at hx
    rcases hx with rfl | rfl | rfl
    · exact ⟨h1.1, h1.2, h2.1, h2.2⟩
    · exact ⟨h3.1, h3.2, h4.1, h4.2⟩
    · exact ⟨h5.1, h5.2, h6.1, h6.2⟩)
  simpa [spSum, Span.val] using this
end Go.Proofs.YtcoelhpmkhimpaaGreatDoor
