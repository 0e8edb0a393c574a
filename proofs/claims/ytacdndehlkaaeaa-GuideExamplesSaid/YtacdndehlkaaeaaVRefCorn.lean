/- The reference: the list of corners. -/
import Derived.Test.YtacdndehlkaaeaaVGr3
import Derived.Test.YtacdndehlkaaeaaVRefHalv
import Derived.BigQuiet
namespace Go.Proofs.Ytacdndehlkaaeaa
open Go.RowKit
set_option linter.unusedVariables false
set_option linter.unusedSimpArgs false
def Corner.cells (c : Corner) : List Value := [.int .i64 c.x, .int .i64 c.y, .int .i64 c.d]
def zc : Corner := ⟨0, 0, 0⟩
def CornersAt (w : World) (a : Option Addr) (n : Nat) (l : List Corner) : Prop := l.length = n ∧ SlAt w 3 a n fun i => (l.getD i zc).cells
theorem CornersAt.ext {w w' : World} {a : Option Addr} {n : Nat} {l : List Corner} (h : CornersAt w a n l) (e : Ext w w') : CornersAt w' a n l := ⟨h.1, h.2.ext e⟩
theorem CornersAt.get {w : World} {a : Option Addr} {n : Nat} {l : List Corner} (h : CornersAt w a n l) (k : Nat) (hk : k < n) :
    ∃ b off x, a = some ⟨b, off, none⟩ ∧ l[k]? = some x ∧ b < w.heap.size ∧ w.cell? ⟨b, off + k * 3, none⟩ = some (.int .i64 x.x) ∧ w.cell? ⟨b, off + k * 3 + 1, none⟩ = some (.int .i64 x.y) ∧ w.cell? ⟨b, off + k * 3 + 2, none⟩ = some (.int .i64 x.d) := by
  obtain ⟨hl, h⟩ := h
  obtain ⟨b, off, ha, hc⟩ := h (by omega)
  have h0 := hc k hk 0 _ rfl
  simp only [Nat.add_zero] at h0
  exact ⟨b, off, _, ha, by simp [List.getD, hl, hk], block_lt_of_cell h0, h0, hc k hk 1 _ rfl, hc k hk 2 _ rfl⟩
def cornerRows (l : List Corner) : List (List Value) := l.map Corner.cells
theorem cornerRows_row (l : List Corner) : ∀ r ∈ cornerRows l, r.length = 3 ∧ ∀ u ∈ r, u.oneCell' = true := by
  intro r hr
  obtain ⟨x, _, rfl⟩ := List.mem_map.1 hr
  exact ⟨rfl, fun u hu => by simp [Corner.cells] at hu; rcases hu with rfl | rfl | rfl <;> rfl⟩
theorem cornerRows_append (l m : List Corner) : cornerRows (l ++ m) = cornerRows l ++ cornerRows m := by simp [cornerRows]
theorem corners_of_owns {w : World} {B : Nat} {e : TypeId} {v : Value} {l : List Corner} (h : Owns w B e 3 v (cornerRows l)) : ∃ a c, v = .slice a l.length c ∧ From B a ∧ l.length ≤ c ∧ c ≤ maxLen ∧ CornersAt w a l.length l := by
  obtain ⟨a, c, hv, h1, h2, h3, h4⟩ := h.slAt
  rw [show (cornerRows l).length = l.length by simp [cornerRows]] at hv h2 h4
  refine ⟨a, c, hv, h1, h2, h3, rfl, h4.congr fun i hi => ?_⟩
  simp [cornerRows, List.getD, List.getElem?_map, List.getElem?_eq_getElem hi]
theorem info113 : (Try.prog.info? 113).map (fun i => (i.zero, i.size, i.bytes)) = some (some (.agg #[.int .i64 0, .int .i64 0, .int .i64 0]), 3, 24) := by kernel_rfl
theorem elem102 : Elem Try.prog 102 113 3 := by
  obtain ⟨i, h1, h2, h3, h4⟩ := info_parts info113
  exact ⟨Try.underlying102, ⟨i, _, _, h1, h2, h3, h4, rfl, by decide⟩, by decide⟩
def CornersPost (l : List Half) (w : World) (e : Ending) (w' : World) : Prop := ∃ a c, e = .returned (.slice a (cornersOf l).length c) ∧ Ext w w' ∧ CornersAt w' a (cornersOf l).length (cornersOf l)
/-- the corners so far lie in memory of this call -/
def CSt (w : World) (l : List Half) (k m : Nat) (v : Value) (W : World) : Prop := Ext w W ∧ Owns W w.heap.size 113 3 v (cornerRows (cornersTo l k m))
theorem CSt.ext {w W W' : World} {l : List Half} {k m : Nat} {v : Value} (h : CSt w l k m v W) (hx : Ext W W') : CSt w l k m v W' := ⟨h.1.trans hx, h.2.ext hx⟩
theorem cornersTo_len (l : List Half) : ∀ k m, k < l.length → m ≤ k → (cornersTo l k m).length ≤ k * l.length + m := by
  intro k m hk hm
  have h1 : ∀ i, (cornersAt l i).length ≤ i := fun i => by
    unfold cornersAt
    refine Nat.le_trans (List.length_filter_le _ _) ?_
    simp only [List.length_map, List.length_take]
    omega
  have h2 : ∀ k, k ≤ l.length → ((List.range k).flatMap (cornersAt l)).length ≤ k * l.length := by
    intro k
    induction k with
    | zero => intro _; simp
    | succ k ih =>
      intro hk
      have := ih (by omega)
      have := h1 k
      simp only [List.range_succ, List.flatMap_append, List.length_append, List.flatMap_cons, List.flatMap_nil, List.append_nil, Nat.add_mul]
      omega
  unfold cornersTo
  rw [List.length_append]
  have e1 := h2 k (by omega)
  have e2 : (((l.take m).map (meet (l.getD k ⟨0, 0, 0⟩))).filter (okC l)).length ≤ m := by
    refine Nat.le_trans (List.length_filter_le _ _) ?_
    simp only [List.length_map, List.length_take]
    omega
  omega
theorem meet_rev {p q : Half} : (meet0 p q).d = -(meet0 q p).d := by simp only [meet0]; grind
/-- p at m, q at k -/
theorem cornersTo_meet {l : List Half} {k m : Nat} {p q : Half} (hp : l[m]? = some p) (hq : l[k]? = some q) : cornersTo l k (m + 1) = cornersTo l k m ++ if okC l (meet p q) then [meet p q] else [] := by
  have hqd : l.getD k ⟨0, 0, 0⟩ = q := by simp [List.getD, hq]
  rw [cornersTo_step hp, hqd]
  by_cases h : (meet0 p q).d = 0
  · have h1 : okC l (meet p q) = false := by
      rw [Bool.eq_false_iff]
      intro e
      exact meet_d.1 (okC_iff.1 e).1 h
    have h2 : okC l (meet q p) = false := by
      rw [Bool.eq_false_iff]
      intro e
      have := meet_d.1 (okC_iff.1 e).1
      rw [meet_rev] at this
      omega
    rw [h1, h2]
    rfl
  · rw [meet_comm h]
theorem all_take_succ {α : Type} {f : α → Bool} {l : List α} {j : Nat} {x : α} (h : l[j]? = some x) : (l.take (j + 1)).all f = ((l.take j).all f && f x) := by
  rw [List.take_add_one, h, Option.toList_some, List.all_append]
  simp
theorem all_take_false {α : Type} {f : α → Bool} {l : List α} {j : Nat} (h : (l.take j).all f = false) : l.all f = false := by
  rw [Bool.eq_false_iff] at h ⊢
  intro e
  exact h (List.all_eq_true.2 fun x hx => List.all_eq_true.1 e x (List.mem_of_mem_take hx))
set_option maxRecDepth 100000 in
set_option maxHeartbeats 8000000 in
theorem rcorners_any (a : Option Addr) (len cap : Nat) (l : List Half) (w : World) (hl : HalvesAt w a len l) (hh : ∀ h ∈ l, HalfIn h) (hlen : len ≤ 1000) : Calls Try.prog 55 #[.slice a len cap] w (CornersPost l w) := by
  have hll := hl.1
  have Hl := Lib.hid hl
  have Hh := Lib.hid hh
  have Hll := Lib.hid hll
  clear hl hh hll
  go_enter Try.func55, Try.ntmps55
  go_upto_region 3 with fail
  go_loopw [3, 4] (fun v i wr => ∃ k : Nat, k ≤ len ∧ i = .int .i64 k ∧ CSt w l k 0 v wr) (fun _ i _ => len - (intOf i).toNat)
  case atStart => exact ⟨0, Nat.zero_le _, rfl, Ext.refl _, Owns.nil _ _ _ _⟩
  case round =>
    obtain ⟨k, hk, rfl, hC⟩ := hrel
    by_cases hlt : k < len
    · have hltB : decide ((k : Int) < (len : Int)) = true := by simp; omega
      have HC := Lib.hid hC
      clear hC
      go_upto_region 6 with fail
      go_loopw [3, 5] (fun v i wr => ∃ m : Nat, m ≤ k ∧ i = .int .i64 m ∧ CSt w l k m v wr) (fun _ i _ => k - (intOf i).toNat)
      case atStart => exact ⟨0, Nat.zero_le _, rfl, HC.out⟩
      case round =>
        clear HC
        obtain ⟨m, hm, rfl, hC⟩ := hrel
        by_cases hltm : m < k
        · have hltmB : decide ((m : Int) < (k : Int)) = true := by simp; omega
          have hlw := Hl.out.ext hC.1
          obtain ⟨lb, lo, p, rfl, hp, hlb, c0, c1, c2⟩ := hlw.get m (by omega)
          obtain ⟨_, _, q, e, hq, _, d0, d1, d2⟩ := hlw.get k hlt
          cases e
          have hnext := cornersTo_meet hp hq
          have hpin := Hh.out p (List.mem_of_getElem? hp)
          have hqin := Hh.out q (List.mem_of_getElem? hq)
          have hcd := meet_bd hpin hqin
          have hclen := cornersTo_len l k m (by have := Hll.out; omega) (by omega)
          have hclen2 : k * l.length ≤ 1000 * 1000 := Nat.mul_le_mul (by omega) (by have := Hll.out; omega)
          have hokC : ∀ C, okC l C = (C.d != 0 && l.all fun h => inH h C) := fun C => rfl
          obtain ⟨a0, a1, b0, b1, _, g0, g1⟩ := hpin
          obtain ⟨i0, i1, j0, j1, _, n0, n1⟩ := hqin
          have m1 := mul_le (A := 100000000000) (B := 1000) g0 g1 j0 j1
          have m2 := mul_le (A := 100000000000) (B := 1000) n0 n1 b0 b1
          have m3 := mul_le (A := 1000) (B := 100000000000) a0 a1 n0 n1
          have m4 := mul_le (A := 1000) (B := 100000000000) i0 i1 g0 g1
          have m5 := mul_le (A := 1000) (B := 1000) a0 a1 j0 j1
          have m6 := mul_le (A := 1000) (B := 1000) i0 i1 b0 b1
          simp only [Int.reduceMul, Int.reduceNeg] at m1 m2 m3 m4 m5 m6
          have hm0 : meet0 p q = ⟨p.c * q.b - q.c * p.b, p.a * q.c - q.a * p.c, p.a * q.b - q.a * p.b⟩ := rfl
          obtain ⟨C, hCm⟩ : ∃ C, meet p q = C := ⟨_, rfl⟩
          rw [hCm] at hnext hcd
          unfold meet at hCm
          rw [hm0] at hCm
          simp only at hCm
          obtain ⟨P1, h1⟩ : ∃ P, p.c * q.b = P := ⟨_, rfl⟩
          obtain ⟨P2, h2⟩ : ∃ P, q.c * p.b = P := ⟨_, rfl⟩
          obtain ⟨P3, h3⟩ : ∃ P, p.a * q.c = P := ⟨_, rfl⟩
          obtain ⟨P4, h4⟩ : ∃ P, q.a * p.c = P := ⟨_, rfl⟩
          obtain ⟨P5, h5⟩ : ∃ P, p.a * q.b = P := ⟨_, rfl⟩
          obtain ⟨P6, h6⟩ : ∃ P, q.a * p.b = P := ⟨_, rfl⟩
          rw [h1] at m1 hCm
          rw [h2] at m2 hCm
          rw [h3] at m3 hCm
          rw [h4] at m4 hCm
          rw [h5] at m5 hCm
          rw [h6] at m6 hCm
          have hklen : (l.length : Int) = len := by have := Hll.out; omega
          have HC := Lib.hid hC
          have Hnext := Lib.hid hnext
          have Hcd := Lib.hid hcd
          have Hclen := Lib.hid hclen
          have Hclen2 := Lib.hid hclen2
          have HCm := Lib.hid hCm
          have HokC := Lib.hid hokC
          have Hlw := Lib.hid hlw
          clear hC hnext hcd hclen hclen2 hCm hokC hlw
          clear hp hq hm0 a0 a1 b0 b1 g0 g1 i0 i1 j0 j1 n0 n1
          go_upto_region 8 with fail
          refine wp_region_tree (.take [0, 1, 2, 3, 4, 5, 6, 7] (.two 8 (.one 9 (.one 10 (.one 11 .done))) 9 (.one 8 (.one 10 (.one 11 .done))))) (Ext wr) _ (by kernel_rfl) (by kernel_rfl) rfl ((Ext.refl _).drew) ?_
          intro ι _ f hf hs
          have f0 := fun q => (hf q).cell c0
          have f1 := fun q => (hf q).cell c1
          have f2 := fun q => (hf q).cell c2
          have f3 := fun q => (hf q).cell d0
          have f4 := fun q => (hf q).cell d1
          have f5 := fun q => (hf q).cell d2
          have HS := Lib.hid hs
          clear hf hs
          simp only [treeOf, oneOp, twoOp, opsOf, consOp, List.getElem?_toArray, List.getElem?_cons_succ, List.getElem?_cons_zero]
          refine wpOT_take ?_
          repeat (go_big_quiet_step (fail))
          refine wpQuiet_nil ?_
          clear f0 f1 f2 f3 f4 f5
          refine wpOT_both ?_
          apply join_two (F := fun p3 p4 W1 => Ext wr W1 ∧ W1.heap[p3]? = some (.cells #[.int .i64 p.a, .int .i64 p.b, .int .i64 p.c] 47 (0, 0)) ∧ W1.heap[p4]? = some (.cells #[.int .i64 q.a, .int .i64 q.b, .int .i64 q.c] 47 (0, 0)))
          · intro G
            go_wp2_with fail
            refine ⟨HS.out _ ((Ext.refl _).alloc _).drew, ?_⟩
            refine wpOT_one ?_
            go_wp2_with fail
            refine ⟨HS.out _ (((Ext.refl _).alloc _).alloc _).drew, ?_⟩
            refine wpOT_one ?_
            go_wp2_with fail
            refine ⟨HS.out _ (((Ext.refl _).alloc _).alloc _).drew, ?_⟩
            refine wpOT_one ?_
            go_wp2_with fail
            refine ⟨HS.out _ (((Ext.refl _).alloc _).alloc _).drew, ?_⟩
            refine wpOT_done ?_
            obtain ⟨hx1, hba, hbb⟩ := two_boxes wr #[Value.int IntKind.i64 p.a, Value.int IntKind.i64 p.b, Value.int IntKind.i64 p.c] #[Value.int IntKind.i64 q.a, Value.int IntKind.i64 q.b, Value.int IntKind.i64 q.c] 47 47
            generalize ((wr.alloc (Obj.cells #[Value.int IntKind.i64 p.a, Value.int IntKind.i64 p.b, Value.int IntKind.i64 p.c] 47)).alloc (Obj.cells #[Value.int IntKind.i64 q.a, Value.int IntKind.i64 q.b, Value.int IntKind.i64 q.c] 47)).drew = W1 at hx1 hba hbb ⊢
            generalize wr.heap.size + 1 = q1 at hbb ⊢
            generalize wr.heap.size = q2 at hba ⊢
            exact G _ _ _ ⟨hx1, hba, hbb⟩
          · intro G
            go_wp2_with fail
            refine ⟨HS.out _ ((Ext.refl _).alloc _).drew, ?_⟩
            refine wpOT_one ?_
            go_wp2_with fail
            refine ⟨HS.out _ (((Ext.refl _).alloc _).alloc _).drew, ?_⟩
            refine wpOT_one ?_
            go_wp2_with fail
            refine ⟨HS.out _ (((Ext.refl _).alloc _).alloc _).drew, ?_⟩
            refine wpOT_one ?_
            go_wp2_with fail
            refine ⟨HS.out _ (((Ext.refl _).alloc _).alloc _).drew, ?_⟩
            refine wpOT_done ?_
            obtain ⟨hx1, hba, hbb⟩ := two_boxes wr #[Value.int IntKind.i64 q.a, Value.int IntKind.i64 q.b, Value.int IntKind.i64 q.c] #[Value.int IntKind.i64 p.a, Value.int IntKind.i64 p.b, Value.int IntKind.i64 p.c] 47 47
            generalize ((wr.alloc (Obj.cells #[Value.int IntKind.i64 q.a, Value.int IntKind.i64 q.b, Value.int IntKind.i64 q.c] 47)).alloc (Obj.cells #[Value.int IntKind.i64 p.a, Value.int IntKind.i64 p.b, Value.int IntKind.i64 p.c] 47)).drew = W1 at hx1 hba hbb ⊢
            generalize wr.heap.size + 1 = q1 at hbb ⊢
            generalize wr.heap.size = q2 at hba ⊢
            exact G _ _ _ ⟨hx1, hbb, hba⟩
          rintro p3 p4 W1 ⟨hx1, hb3, hb4⟩
          obtain ⟨f3, _⟩ := (Ext.refl W1).box hb3
          obtain ⟨f4, _⟩ := (Ext.refl W1).box hb4
          have hC1 := HC.out.ext hx1
          have hl1 := Hlw.out.ext hx1
          have HC1 := Lib.hid hC1
          have Hl1 := Lib.hid hl1
          clear hC1 hl1
          clear HS HC Hlw hb3 hb4 hx1 c0 c1 c2 d0 d1 d2
          by_cases hd0 : P5 - P6 = 0
          · have hd0B : (P5 - P6 == 0) = true := by rw [hd0]; rfl
            have hno : okC l C = false := by
              rw [HokC.out]
              have e := HCm.out
              rw [hd0, if_neg (by omega)] at e
              rw [← e]
              rfl
            have hn2 := Hnext.out
            rw [hno] at hn2
            simp only [Bool.false_eq_true, if_false, List.append_nil] at hn2
            have Hn2 := Lib.hid hn2
            clear hn2
            go_wp2_with fail
            go_roundw
            case rel => exact ⟨m + 1, by omega, by go_num, by have := fun o => HC1.out.ext ((Ext.refl W1).alloc o); unfold CSt at this ⊢; rw [Hn2.out]; exact this _⟩
            case measure => simp [intOf]; omega
          · have hd0B : (P5 - P6 == 0) = false := by rw [beq_eq_false_iff_ne]; exact hd0
            by_cases hdl : P5 - P6 < 0
            · have hdB : decide (P5 - P6 < 0) = true := decide_eq_true hdl
              have hCe := HCm.out
              rw [if_pos hdl] at hCe
              go_upto_region 15 with fail
              have hx2 : Ext W1 (W1.alloc (.cells #[.int .i64 (-(P1 - P2)), .int .i64 (-(P3 - P4)), .int .i64 (-(P5 - P6))] 113)) := (Ext.refl _).alloc _
              have hcb0 := heap_alloc_new W1 (.cells #[.int .i64 (-(P1 - P2)), .int .i64 (-(P3 - P4)), .int .i64 (-(P5 - P6))] 113)
              generalize W1.alloc (.cells #[.int .i64 (-(P1 - P2)), .int .i64 (-(P3 - P4)), .int .i64 (-(P5 - P6))] 113) = W2 at hx2 hcb0 ⊢
              generalize W1.heap.size = cb at hcb0 ⊢
              clear f3 f4
              obtain ⟨cx, cy, cd⟩ := C
              simp only [Corner.mk.injEq] at hCe
              obtain ⟨ex, ey, ed⟩ := hCe
              have hdne : (cd != 0) = true := by rw [bne_iff_ne]; omega
              have hcb : W2.heap[cb]? = some (.cells #[.int .i64 cx, .int .i64 cy, .int .i64 cd] 113 (0, 0)) := by rw [← ex, ← ey, ← ed]; exact hcb0
              clear hcb0 ex ey ed
              have hC2 := HC1.out.ext hx2
              have hl2 := Hl1.out.ext hx2
              have hlc := HokC.out ⟨cx, cy, cd⟩
              rw [show (⟨cx, cy, cd⟩ : Corner).d = cd from rfl, hdne, Bool.true_and] at hlc
              obtain ⟨x0, x1, y0, y1, z0, z1⟩ := Hcd.out
              simp only at x0 x1 y0 y1 z0 z1
              have HC2 := Lib.hid hC2
              have Hl2 := Lib.hid hl2
              have Hcb := Lib.hid hcb
              have Hlc := Lib.hid hlc
              clear hC2 hl2 hcb hlc
              clear hx2 Hcd Hl1 HC1 HCm HokC
              go_loopw [9, 10] (fun v i wr => ∃ (j : Nat) (b : Bool), j ≤ len ∧ v = .bool b ∧ i = .int .i64 j ∧ Ext W2 wr ∧ b = (l.take j).all (fun h => inH h ⟨cx, cy, cd⟩)) (fun _ i _ => len - (intOf i).toNat)
              case atStart => exact ⟨0, true, Nat.zero_le _, rfl, rfl, Ext.refl _, rfl⟩
              case round =>
                obtain ⟨j, b, hj, rfl, rfl, hx, hb⟩ := hrel
                by_cases hjl : j < len
                · have hjlB : decide ((j : Int) < (len : Int)) = true := by simp; omega
                  cases b with
                  | true =>
                    obtain ⟨_, _, h, e, hhj, _, c0, c1, c2⟩ := (Hl2.out.ext hx).get j hjl
                    cases e
                    have hb' := all_take_succ (f := fun h => inH h ⟨cx, cy, cd⟩) hhj
                    rw [← hb, Bool.true_and] at hb'
                    obtain ⟨k0, k1, l0, l1, _, n0, n1⟩ := Hh.out h (List.mem_of_getElem? hhj)
                    have q1 := mul_le (A := 1000) (B := 200000000000000) k0 k1 x0 x1
                    have q2 := mul_le (A := 1000) (B := 200000000000000) l0 l1 y0 y1
                    have q3 := mul_le (A := 100000000000) (B := 2000000) n0 n1 (show -2000000 ≤ cd by omega) z1
                    simp only [Int.reduceMul, Int.reduceNeg] at q1 q2 q3
                    unfold inH at hb'
                    simp only at hb'
                    obtain ⟨T1, t1⟩ : ∃ P, h.a * cx = P := ⟨_, rfl⟩
                    obtain ⟨T2, t2⟩ : ∃ P, h.b * cy = P := ⟨_, rfl⟩
                    obtain ⟨T3, t3⟩ : ∃ P, h.c * cd = P := ⟨_, rfl⟩
                    rw [t1, t2, t3] at hb'
                    rw [t1] at q1
                    rw [t2] at q2
                    rw [t3] at q3
                    have hcw := hx.heap Hcb.out
                    have Hx := Lib.hid hx
                    have Hb' := Lib.hid hb'
                    clear hx hb'
                    clear hb hhj
                    go_upto_region 17 with fail
                    refine wp_region_ext (by kernel_rfl) (by kernel_rfl) (fun f hf hs => ?_)
                    have f0 := fun q => (hf q).cell c0
                    have f1 := fun q => (hf q).cell c1
                    have f2 := fun q => (hf q).cell c2
                    have f6 := fun q => ((hf q).box hcw).1
                    clear hf hs
                    repeat (go_big_quiet_step (fail))
                    refine wpQuiet_nil ?_
                    intro W8 hW8
                    clear f0 f1 f2 f6
                    go_wp2_with fail
                    go_roundw
                    case rel => exact ⟨j + 1, _, by omega, rfl, by go_num, Hx.out.trans hW8, Hb'.out.symm⟩
                    case measure => simp [intOf]; omega
                  | false =>
                    have hno := Hlc.out.trans (all_take_false hb.symm)
                    have hn2 := Hnext.out
                    rw [hno] at hn2
                    simp only [Bool.false_eq_true, if_false, List.append_nil] at hn2
                    have Hn2 := Lib.hid hn2
                    have Hx := Lib.hid hx
                    clear hn2 hx
                    clear hb hno
                    go_wp2_with fail
                    go_roundw
                    case rel => exact ⟨m + 1, by omega, by go_num, by have := HC2.out.ext Hx.out; unfold CSt at this ⊢; rw [Hn2.out]; exact this⟩
                    case measure => simp [intOf]; omega
                · have hjlB : decide ((j : Int) < (len : Int)) = false := by simp; omega
                  obtain rfl : j = len := by omega
                  rw [List.take_of_length_le (by have := Hll.out; omega), ← Hlc.out] at hb
                  cases b with
                  | false =>
                    have hn2 := Hnext.out
                    rw [← hb] at hn2
                    simp only [Bool.false_eq_true, if_false, List.append_nil] at hn2
                    have Hn2 := Lib.hid hn2
                    have Hx := Lib.hid hx
                    clear hn2 hx
                    clear hb
                    go_wp2_with fail
                    go_roundw
                    case rel => exact ⟨m + 1, by omega, by go_num, by have := HC2.out.ext Hx.out; unfold CSt at this ⊢; rw [Hn2.out]; exact this⟩
                    case measure => simp [intOf]; omega
                  | true =>
                    have hn2 := Hnext.out
                    rw [← hb] at hn2
                    simp only [if_true] at hn2
                    have hcw := hx.heap Hcb.out
                    obtain ⟨f6, _⟩ := (Ext.refl wr).box hcw
                    obtain ⟨hxo, hown⟩ := HC2.out.ext hx
                    obtain ⟨va, vc, hv, hvl⟩ := hown.slAt
                    obtain ⟨vn, hvn⟩ : ∃ vn, (cornerRows (cornersTo l k m)).length = vn := ⟨_, rfl⟩
                    rw [hvn] at hv
                    have hvle : vn ≤ 2000000 := by
                      have := Hclen.out
                      have := Hclen2.out
                      rw [← hvn]
                      simp only [cornerRows, List.length_map]
                      omega
                    clear hvl
                    subst hv
                    have Hn2 := Lib.hid hn2
                    have Hx := Lib.hid hx
                    have Hxo := Lib.hid hxo
                    have Hown := Lib.hid hown
                    have Hvn := Lib.hid hvn
                    clear hn2 hx hxo hown hvn
                    clear hb hcw
                    go_wp2_with (at_builtin; refine wpList_app elem102 _ rfl (.tmp 116) (.tmp 118) rfl w.heap.size _ (cornerRows (cornersTo l k m)) rfl (Hown.out.alloc _) (some ⟨wr.heap.size, 0, none⟩) 1 1 (cornerRows [⟨cx, cy, cd⟩]) rfl rfl (slAt_block (rows := cornerRows [⟨cx, cy, cd⟩]) (alloc_at _ _ _ rfl) (fun r hr => (cornerRows_row _ r hr).1)) (cornerRows_row _) ?_ ?_ ?_)
                    · rw [Hvn.out]
                      omega
                    · exact Nat.le_trans Hxo.out.size (by simp)
                    · intro v4 w4 ho4 hg4 _
                      rw [← cornerRows_append, ← Hn2.out] at ho4
                      have hx4 := (Hxo.out.alloc (.cells #[.int .i64 cx, .int .i64 cy, .int .i64 cd] 113)).app (Hown.out.alloc _) hg4
                      have Ho4 := Lib.hid ho4
                      have Hx4 := Lib.hid hx4
                      clear ho4 hx4
                      clear hg4
                      go_wp2_with fail
                      go_roundw
                      case rel => exact ⟨m + 1, by omega, by go_num, Hx4.out, Ho4.out⟩
                      case measure => simp [intOf]; omega
            · have hdB : decide (P5 - P6 < 0) = false := decide_eq_false hdl
              have hCe := HCm.out
              rw [if_neg hdl] at hCe
              go_upto_region 15 with fail
              have hx2 : Ext W1 (W1.alloc (.cells #[.int .i64 (P1 - P2), .int .i64 (P3 - P4), .int .i64 (P5 - P6)] 113)) := (Ext.refl _).alloc _
              have hcb0 := heap_alloc_new W1 (.cells #[.int .i64 (P1 - P2), .int .i64 (P3 - P4), .int .i64 (P5 - P6)] 113)
              generalize W1.alloc (.cells #[.int .i64 (P1 - P2), .int .i64 (P3 - P4), .int .i64 (P5 - P6)] 113) = W2 at hx2 hcb0 ⊢
              generalize W1.heap.size = cb at hcb0 ⊢
              clear f3 f4
              obtain ⟨cx, cy, cd⟩ := C
              simp only [Corner.mk.injEq] at hCe
              obtain ⟨ex, ey, ed⟩ := hCe
              have hdne : (cd != 0) = true := by rw [bne_iff_ne]; omega
              have hcb : W2.heap[cb]? = some (.cells #[.int .i64 cx, .int .i64 cy, .int .i64 cd] 113 (0, 0)) := by rw [← ex, ← ey, ← ed]; exact hcb0
              clear hcb0 ex ey ed
              have hC2 := HC1.out.ext hx2
              have hl2 := Hl1.out.ext hx2
              have hlc := HokC.out ⟨cx, cy, cd⟩
              rw [show (⟨cx, cy, cd⟩ : Corner).d = cd from rfl, hdne, Bool.true_and] at hlc
              obtain ⟨x0, x1, y0, y1, z0, z1⟩ := Hcd.out
              simp only at x0 x1 y0 y1 z0 z1
              have HC2 := Lib.hid hC2
              have Hl2 := Lib.hid hl2
              have Hcb := Lib.hid hcb
              have Hlc := Lib.hid hlc
              clear hC2 hl2 hcb hlc
              clear hx2 Hcd Hl1 HC1 HCm HokC
              go_loopw [9, 10] (fun v i wr => ∃ (j : Nat) (b : Bool), j ≤ len ∧ v = .bool b ∧ i = .int .i64 j ∧ Ext W2 wr ∧ b = (l.take j).all (fun h => inH h ⟨cx, cy, cd⟩)) (fun _ i _ => len - (intOf i).toNat)
              case atStart => exact ⟨0, true, Nat.zero_le _, rfl, rfl, Ext.refl _, rfl⟩
              case round =>
                obtain ⟨j, b, hj, rfl, rfl, hx, hb⟩ := hrel
                by_cases hjl : j < len
                · have hjlB : decide ((j : Int) < (len : Int)) = true := by simp; omega
                  cases b with
                  | true =>
                    obtain ⟨_, _, h, e, hhj, _, c0, c1, c2⟩ := (Hl2.out.ext hx).get j hjl
                    cases e
                    have hb' := all_take_succ (f := fun h => inH h ⟨cx, cy, cd⟩) hhj
                    rw [← hb, Bool.true_and] at hb'
                    obtain ⟨k0, k1, l0, l1, _, n0, n1⟩ := Hh.out h (List.mem_of_getElem? hhj)
                    have q1 := mul_le (A := 1000) (B := 200000000000000) k0 k1 x0 x1
                    have q2 := mul_le (A := 1000) (B := 200000000000000) l0 l1 y0 y1
                    have q3 := mul_le (A := 100000000000) (B := 2000000) n0 n1 (show -2000000 ≤ cd by omega) z1
                    simp only [Int.reduceMul, Int.reduceNeg] at q1 q2 q3
                    unfold inH at hb'
                    simp only at hb'
                    obtain ⟨T1, t1⟩ : ∃ P, h.a * cx = P := ⟨_, rfl⟩
                    obtain ⟨T2, t2⟩ : ∃ P, h.b * cy = P := ⟨_, rfl⟩
                    obtain ⟨T3, t3⟩ : ∃ P, h.c * cd = P := ⟨_, rfl⟩
                    rw [t1, t2, t3] at hb'
                    rw [t1] at q1
                    rw [t2] at q2
                    rw [t3] at q3
                    have hcw := hx.heap Hcb.out
                    have Hx := Lib.hid hx
                    have Hb' := Lib.hid hb'
                    clear hx hb'
                    clear hb hhj
                    go_upto_region 17 with fail
                    refine wp_region_ext (by kernel_rfl) (by kernel_rfl) (fun f hf hs => ?_)
                    have f0 := fun q => (hf q).cell c0
                    have f1 := fun q => (hf q).cell c1
                    have f2 := fun q => (hf q).cell c2
                    have f6 := fun q => ((hf q).box hcw).1
                    clear hf hs
                    repeat (go_big_quiet_step (fail))
                    refine wpQuiet_nil ?_
                    intro W8 hW8
                    clear f0 f1 f2 f6
                    go_wp2_with fail
                    go_roundw
                    case rel => exact ⟨j + 1, _, by omega, rfl, by go_num, Hx.out.trans hW8, Hb'.out.symm⟩
                    case measure => simp [intOf]; omega
                  | false =>
                    have hno := Hlc.out.trans (all_take_false hb.symm)
                    have hn2 := Hnext.out
                    rw [hno] at hn2
                    simp only [Bool.false_eq_true, if_false, List.append_nil] at hn2
                    have Hn2 := Lib.hid hn2
                    have Hx := Lib.hid hx
                    clear hn2 hx
                    clear hb hno
                    go_wp2_with fail
                    go_roundw
                    case rel => exact ⟨m + 1, by omega, by go_num, by have := HC2.out.ext Hx.out; unfold CSt at this ⊢; rw [Hn2.out]; exact this⟩
                    case measure => simp [intOf]; omega
                · have hjlB : decide ((j : Int) < (len : Int)) = false := by simp; omega
                  obtain rfl : j = len := by omega
                  rw [List.take_of_length_le (by have := Hll.out; omega), ← Hlc.out] at hb
                  cases b with
                  | false =>
                    have hn2 := Hnext.out
                    rw [← hb] at hn2
                    simp only [Bool.false_eq_true, if_false, List.append_nil] at hn2
                    have Hn2 := Lib.hid hn2
                    have Hx := Lib.hid hx
                    clear hn2 hx
                    clear hb
                    go_wp2_with fail
                    go_roundw
                    case rel => exact ⟨m + 1, by omega, by go_num, by have := HC2.out.ext Hx.out; unfold CSt at this ⊢; rw [Hn2.out]; exact this⟩
                    case measure => simp [intOf]; omega
                  | true =>
                    have hn2 := Hnext.out
                    rw [← hb] at hn2
                    simp only [if_true] at hn2
                    have hcw := hx.heap Hcb.out
                    obtain ⟨f6, _⟩ := (Ext.refl wr).box hcw
                    obtain ⟨hxo, hown⟩ := HC2.out.ext hx
                    obtain ⟨va, vc, hv, hvl⟩ := hown.slAt
                    obtain ⟨vn, hvn⟩ : ∃ vn, (cornerRows (cornersTo l k m)).length = vn := ⟨_, rfl⟩
                    rw [hvn] at hv
                    have hvle : vn ≤ 2000000 := by
                      have := Hclen.out
                      have := Hclen2.out
                      rw [← hvn]
                      simp only [cornerRows, List.length_map]
                      omega
                    clear hvl
                    subst hv
                    have Hn2 := Lib.hid hn2
                    have Hx := Lib.hid hx
                    have Hxo := Lib.hid hxo
                    have Hown := Lib.hid hown
                    have Hvn := Lib.hid hvn
                    clear hn2 hx hxo hown hvn
                    clear hb hcw
                    go_wp2_with (at_builtin; refine wpList_app elem102 _ rfl (.tmp 116) (.tmp 118) rfl w.heap.size _ (cornerRows (cornersTo l k m)) rfl (Hown.out.alloc _) (some ⟨wr.heap.size, 0, none⟩) 1 1 (cornerRows [⟨cx, cy, cd⟩]) rfl rfl (slAt_block (rows := cornerRows [⟨cx, cy, cd⟩]) (alloc_at _ _ _ rfl) (fun r hr => (cornerRows_row _ r hr).1)) (cornerRows_row _) ?_ ?_ ?_)
                    · rw [Hvn.out]
                      omega
                    · exact Nat.le_trans Hxo.out.size (by simp)
                    · intro v4 w4 ho4 hg4 _
                      rw [← cornerRows_append, ← Hn2.out] at ho4
                      have hx4 := (Hxo.out.alloc (.cells #[.int .i64 cx, .int .i64 cy, .int .i64 cd] 113)).app (Hown.out.alloc _) hg4
                      have Ho4 := Lib.hid ho4
                      have Hx4 := Lib.hid hx4
                      clear ho4 hx4
                      clear hg4
                      go_wp2_with fail
                      go_roundw
                      case rel => exact ⟨m + 1, by omega, by go_num, Hx4.out, Ho4.out⟩
                      case measure => simp [intOf]; omega
        · have hltmB : decide ((m : Int) < (k : Int)) = false := by simp; omega
          obtain rfl : m = k := by omega
          have hC' : CSt w l (m + 1) 0 u3 wr := by unfold CSt at hC ⊢; rw [cornersTo_next]; exact hC
          have HC' := Lib.hid hC'
          clear hC'
          clear hC
          go_wp2_with fail
          go_roundw
          case rel => exact ⟨m + 1, by omega, by go_num, HC'.out⟩
          case measure => simp [intOf]; omega
    · have hltB : decide ((k : Int) < (len : Int)) = false := by simp; omega
      obtain rfl : k = len := by omega
      obtain ⟨hx, ho⟩ := hC
      rw [show k = l.length from Hll.out.symm, cornersTo_all] at ho
      obtain ⟨ra, rc, rfl, _, _, _, hcs⟩ := corners_of_owns ho
      obtain ⟨N, hN⟩ : ∃ N, (cornersOf l).length = N := ⟨_, rfl⟩
      rw [hN] at hcs
      have Hx := Lib.hid hx
      have Hcs := Lib.hid hcs
      have HN := Lib.hid hN
      clear hx hcs hN
      clear ho
      go_wp2_with fail
      go_ret
      unfold CornersPost
      rw [HN.out]
      exact ⟨_, _, rfl, Hx.out, Hcs.out⟩
end Go.Proofs.Ytacdndehlkaaeaa
