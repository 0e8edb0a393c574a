/- The law GuideSharp: plain facts. -/
import Derived.Test.YtacdndehlkaaeaaVOrderP
import Derived.Test.YtacdndehlkaaeaaVBase
import Derived.Test.YtacdndehlkaaeaaVSteps
import Derived.Test.YtacdndehlkaaeaaVGr6
import Derived.Test.YtacdndehlkaaeaaVGr5
import Derived.Test.YtacdndehlkaaeaaVTake
import Derived.OpenShut
import Derived.ShutString
import Derived.ChangeOld
import Derived.Below
namespace Go.Proofs.Ytacdndehlkaaeaa
set_option linter.unusedVariables false
def sharpsOf (E N : Span) : List (Half × Bool) := [(⟨-1, 0, -(E.hi - 1)⟩, true), (⟨-1, 0, -(E.hi + 1)⟩, false), (⟨1, 0, E.lo + 1⟩, true), (⟨1, 0, E.lo - 1⟩, false),
  (⟨0, -1, -(N.hi - 1)⟩, true), (⟨0, -1, -(N.hi + 1)⟩, false), (⟨0, 1, N.lo + 1⟩, true), (⟨0, 1, N.lo - 1⟩, false)]
theorem one_in {l : List Half} {k : Half} {p : Corner} : In (l ++ [k]) p ↔ In l p ∧ k.a * p.x + k.b * p.y ≤ k.c * p.d := by
  rw [In.append]
  refine and_congr_right fun h => ?_
  unfold In
  simp [h.1]
theorem sharp_sem {l : List Half} {E N : Span} (h : IsB (In l) E N) : ∀ x ∈ sharpsOf E N, (∃ p, In (l ++ [x.1]) p) ↔ x.2 = true := by
  intro x hx
  simp only [sharpsOf, List.mem_cons, List.not_mem_nil, or_false] at hx
  obtain ⟨xl, xh, yl, yh, ⟨p1, a1, b1⟩, ⟨p2, a2, b2⟩, ⟨p3, a3, b3⟩, ⟨p4, a4, b4⟩⟩ := h
  have m1 := Int.sub_mul E.hi 1 p2.d
  have m2 := Int.add_mul E.lo 1 p1.d
  have m3 := Int.sub_mul N.hi 1 p4.d
  have m4 := Int.add_mul N.lo 1 p3.d
  rcases hx with rfl | rfl | rfl | rfl | rfl | rfl | rfl | rfl
  all_goals simp only [one_in, Bool.false_eq_true, iff_false, iff_true]
  · exact ⟨p2, a2, by rw [Int.neg_mul (E.hi - 1)]; omega⟩
  · rintro ⟨p, hp, e⟩
    have := xh p hp
    have := hp.1
    have := Int.add_mul E.hi 1 p.d
    rw [Int.neg_mul (E.hi + 1)] at e
    omega
  · exact ⟨p1, a1, by omega⟩
  · rintro ⟨p, hp, e⟩
    have := xl p hp
    have := hp.1
    have := Int.sub_mul E.lo 1 p.d
    omega
  · exact ⟨p4, a4, by rw [Int.neg_mul (N.hi - 1)]; omega⟩
  · rintro ⟨p, hp, e⟩
    have := yh p hp
    have := hp.1
    have := Int.add_mul N.hi 1 p.d
    rw [Int.neg_mul (N.hi + 1)] at e
    omega
  · exact ⟨p3, a3, by omega⟩
  · rintro ⟨p, hp, e⟩
    have := yl p hp
    have := hp.1
    have := Int.sub_mul N.lo 1 p.d
    omega
theorem sharp_half {E N : Span} : ∀ x ∈ sharpsOf E N, edgeOk x.1.c = true → HalfIn x.1 := by
  intro x hx hc
  simp only [edgeOk, inB, Bool.and_eq_true, decide_eq_true_eq] at hc
  simp only [sharpsOf, List.mem_cons, List.not_mem_nil, or_false] at hx
  unfold HalfIn
  rcases hx with rfl | rfl | rfl | rfl | rfl | rfl | rfl | rfl <;> simp only at hc ⊢ <;> omega
theorem sharp_is {l : List Half} {E N : Span} (h : AreaOk l) (hl : l.length < 40) (hb : IsB (In l) E N) : ∀ x ∈ sharpsOf E N, edgeOk x.1.c = true → ∃ E' N', boundsOf (l ++ [x.1]) = (E', N', if x.2 = true then 0 else 43) := by
  intro x hx hc
  have ha : AreaOk (l ++ [x.1]) := h.more (fun k hk => by rw [List.mem_singleton.1 hk]; exact sharp_half x hx hc) (by simp; omega)
  have hs := sharp_sem hb x hx
  rcases bounds_step ha with ⟨E', N', e, _, hp⟩ | ⟨e, hno⟩
  · rw [if_pos (hs.1 hp)]
    exact ⟨E', N', e⟩
  · rw [if_neg fun e' => by obtain ⟨p, hp⟩ := hs.2 e'; exact hno p hp]
    exact ⟨zs, zs, e⟩
theorem head_in {l : List Half} {i : Nat} {a b : Int} (h : AreaOk l) (hi : i < 4) (hab : isAB l i a b = true) : ∃ c : Int, -100000000000 ≤ c ∧ c ≤ 100000000000 ∧ ∀ p, In l p → a * p.x + b * p.y ≤ c * p.d := by
  obtain ⟨k, hk, rfl, rfl⟩ := isAB_mem (by have := h.len.1; omega) hab
  have := h.each k hk
  exact ⟨k.c, by omega, by omega, fun p hp => hp.2 k hk⟩
/-- bounds are no greater than edges -/
theorem bounds_edge {l : List Half} {E N : Span} (h : AreaOk l) (hb : IsB (In l) E N) : (-100000000000 ≤ E.lo ∧ E.lo ≤ E.hi ∧ E.hi ≤ 100000000000) ∧ (-100000000000 ≤ N.lo ∧ N.lo ≤ N.hi ∧ N.hi ≤ 100000000000) := by
  have h4 := h.ab
  simp only [head4, Bool.and_eq_true] at h4
  obtain ⟨⟨⟨e0, e1⟩, e2⟩, e3⟩ := h4
  obtain ⟨c0, c00, c01, f0⟩ := head_in h (by omega) e0
  obtain ⟨c1, c10, c11, f1⟩ := head_in h (by omega) e1
  obtain ⟨c2, c20, c21, f2⟩ := head_in h (by omega) e2
  obtain ⟨c3, c30, c31, f3⟩ := head_in h (by omega) e3
  obtain ⟨xl, xh, yl, yh, ⟨p1, a1, b1⟩, ⟨p2, a2, b2⟩, ⟨p3, a3, b3⟩, ⟨p4, a4, b4⟩⟩ := hb
  have lt : ∀ (a b d : Int), 0 < d → a * d < b * d → a < b := fun a b d hd h => Int.lt_of_mul_lt_mul_right h (Int.le_of_lt hd)
  have g1 := f1 p1 a1
  have g2 := f0 p2 a2
  have g3 := f3 p3 a3
  have g4 := f2 p4 a4
  have k1 := lt (-c1) (E.lo + 1) p1.d a1.1 (by have := Int.neg_mul c1 p1.d; omega)
  have k2 := lt (E.hi - 1) c0 p2.d a2.1 (by omega)
  have k3 := lt (-c3) (N.lo + 1) p3.d a3.1 (by have := Int.neg_mul c3 p3.d; omega)
  have k4 := lt (N.hi - 1) c2 p4.d a4.1 (by omega)
  have o1 : E.lo ≤ E.hi := Int.le_of_mul_le_mul_right (Int.le_trans (xl p1 a1) (xh p1 a1)) a1.1
  have o2 : N.lo ≤ N.hi := Int.le_of_mul_le_mul_right (Int.le_trans (yl p1 a1) (yh p1 a1)) a1.1
  omega
def sharpCells (x : Half × Bool) : List Value := [.int .i64 x.1.a, .int .i64 x.1.b, .int .i64 x.1.c, .bool x.2]
end Go.Proofs.Ytacdndehlkaaeaa

/- The law GuideSharp: its loop over eight halves. -/
namespace Go.Proofs.Ytacdndehlkaaeaa
open Go.RowKit
set_option linter.unusedVariables false
set_option linter.unusedSimpArgs false
theorem sharp_block {W : World} {b : Nat} {t : TypeId} (E N : Span) (hb : W.heap[b]? = some (.cells (((sharpsOf E N).map sharpCells).flatten).toArray t (0, 0))) : SlAt W 4 (some ⟨b, 0, none⟩) 8 (fun k => ((sharpsOf E N).map sharpCells).getD k []) := by
  have := slAt_block (sz := 4) hb (fun r hr => by
    obtain ⟨x, _, rfl⟩ := List.mem_map.1 hr
    rfl)
  exact this
theorem sharp_get {W : World} {b j : Nat} {E N : Span} (h : SlAt W 4 (some ⟨b, 0, none⟩) 8 (fun k => ((sharpsOf E N).map sharpCells).getD k [])) (hj : j < 8) : ∃ x ∈ sharpsOf E N, b < W.heap.size ∧ W.cell? ⟨b, j * 4, none⟩ = some (.int .i64 x.1.a) ∧ W.cell? ⟨b, j * 4 + 1, none⟩ = some (.int .i64 x.1.b) ∧ W.cell? ⟨b, j * 4 + 2, none⟩ = some (.int .i64 x.1.c) ∧ W.cell? ⟨b, j * 4 + 3, none⟩ = some (.bool x.2) := by
  obtain ⟨b', off, e, hc⟩ := h (by omega)
  cases e
  have hl : (sharpsOf E N).length = 8 := rfl
  have hx : (sharpsOf E N)[j]'(by omega) ∈ sharpsOf E N := List.getElem_mem _
  have hr : ((sharpsOf E N).map sharpCells).getD j [] = sharpCells ((sharpsOf E N)[j]'(by omega)) := by
    simp [List.getD, List.getElem?_map, List.getElem?_eq_getElem (show j < (sharpsOf E N).length by omega)]
  have hj' := hc j hj
  simp only [hr] at hj'
  have h0 := hj' 0 _ rfl
  simp only [Nat.add_zero, Nat.zero_add] at h0 hj'
  exact ⟨_, hx, block_lt_of_cell h0, h0, hj' 1 _ rfl, hj' 2 _ rfl, hj' 3 _ rfl⟩
theorem sharp_c {E N : Span} (hE : -100000000000 ≤ E.lo ∧ E.lo ≤ E.hi ∧ E.hi ≤ 100000000000) (hN : -100000000000 ≤ N.lo ∧ N.lo ≤ N.hi ∧ N.hi ≤ 100000000000) : ∀ x ∈ sharpsOf E N, -200000000000 ≤ x.1.c ∧ x.1.c ≤ 200000000000 := by
  intro x hx
  simp only [sharpsOf, List.mem_cons, List.not_mem_nil, or_false] at hx
  rcases hx with rfl | rfl | rfl | rfl | rfl | rfl | rfl | rfl <;> simp only <;> omega
theorem twinK_any (a : Option Addr) (len cap : Nat) (l : List Half) (w : World) (hl : HalvesAt w a len l) (hlen : len ≤ 100000) : Calls Try.prog 15 #[.agg #[.slice a len cap]] w fun e w' => ∃ b c, e = .returned (.agg #[.slice b len c]) ∧ Ext w w' ∧ Owns w' w.heap.size 47 3 (.slice b len c) (halfRows l) :=
  (twinO_any a len cap l w hl hlen).mono fun e w' h => by
    obtain ⟨v, rfl, hx, ho⟩ := h
    obtain ⟨b, c, rfl, _⟩ := halves_of_owns ho
    have hll := hl.1
    subst hll
    exact ⟨b, c, rfl, hx, ho⟩
theorem own_ne {a : Option Addr} {n c : Nat} {v : Value} {p q : Nat} (h : (Value.slice a n c).ownBlock = v.ownBlock ∨ (Value.slice a n c).ownBlock = some q) (hv : ∀ k, v.ownBlock = some k → k < p) (hq : p < q) : ∀ x, a = some x → x.block ≠ p := by
  rintro x rfl
  simp only [Value.ownBlock] at h
  rcases h with h | h
  · have := hv _ h.symm
    omega
  · cases h
    omega
set_option maxRecDepth 100000 in
set_option maxHeartbeats 8000000 in
theorem sharpTail {l : List Half} {E N : Span} {w W : World} {a : Option Addr} {len cap p1 p4 p5 : Nat} (hA : AreaOk l) (hn : len < 40) (hb : IsB (In l) E N)
    (h1 : W.heap[p1]? = some (.cells #[.slice a len cap] 24 (0, 0))) (h4 : W.heap[p4]? = some (.cells #[.int .i64 E.lo, .int .i64 E.hi] 28 (0, 0))) (h5 : W.heap[p5]? = some (.cells #[.int .i64 N.lo, .int .i64 N.hi] 28 (0, 0)))
    (hl : HalvesAt W a len l) (lc : len ≤ cap) (cm : cap ≤ maxLen) (hx : Ext w W) {u0 u2 u6 u7 u8 u9 u10 u11 u12 u13 u14 u15 u16 u17 u18 u19 u20 u21 u22 u23 u24 u25 u26 u27 u28 u29 u30 u31 u32 u33 u34 u35 u36 u37 u38 u39 u40 u41 u42 u43 u44 u45 u46 u47 u48 u49 u50 u51 u52 u53 u54 u55 u56 u57 u58 u59 u60 u61 u62 u63 u64 u65 u66 u67 u68 u69 u70 u71 u72 u73 u74 u75 u76 u77 u78 u79 u80 u81 u82 u83 u84 u85 u86 u87 u88 u89 u90 u91 u92 u93 u94 u95 u96 u97 u98 u99 u100 u101 u102 u103 u104 u105 u106 u107 u108 u109 u110 u111 u112 u113 u114 u115 u116 u117 u118 u119 u120 u121 u122 u123 u124 u125 u126 u127 u128 u129 u130 u131 u132 u133 u134 u135 u136 u137 u138 u139 u140 u141 u142 u143 u144 u145 u146 u147 u148 u149 : Value} :
    (restFrom Try.f8 11).wp Try.prog (bodyPost Try.prog Try.f8 fun e w' => e = .returned (.bool true) ∧ Ext w w')
      ⟨#[u0, .pointer (some ⟨p1, 0, none⟩), u2, .bool true, .pointer (some ⟨p4, 0, none⟩), .pointer (some ⟨p5, 0, none⟩), u6, u7, u8, u9, u10, u11, u12, u13, u14, u15, u16, u17, u18, u19, u20, u21, u22, u23, u24, u25, u26, u27, u28, u29, u30, u31, u32, u33, u34, u35, u36, u37, u38, u39, u40, u41, u42, u43, u44, u45, u46, u47, u48, u49, u50, u51, u52, u53, u54, u55, u56, u57, u58, u59, u60, u61, u62, u63, u64, u65, u66, u67, u68, u69, u70, u71, u72, u73, u74, u75, u76, u77, u78, u79, u80, u81, u82, u83, u84, u85, u86, u87, u88, u89, u90, u91, u92, u93, u94, u95, u96, u97, u98, u99, u100, u101, u102, u103, u104, u105, u106, u107, u108, u109, u110, u111, u112, u113, u114, u115, u116, u117, u118, u119, u120, u121, u122, u123, u124, u125, u126, u127, u128, u129, u130, u131, u132, u133, u134, u135, u136, u137, u138, u139, u140, u141, u142, u143, u144, u145, u146, u147, u148, u149], []⟩ W := by
  obtain ⟨hE, hN⟩ := bounds_edge hA hb
  have hll := hl.1
  have his := sharp_is hA (by omega) hb
  have hsc := sharp_c hE hN
  have htw := fun W' (hW : Ext W W') => twinK_any a len cap l W' (hl.ext hW) (by omega)
  have hget := fun W' b' j h hj => @sharp_get W' b' j E N h hj
  have hblk := fun W' b' t h => @sharp_block W' b' t E N h
  obtain ⟨e0, e1⟩ := E
  obtain ⟨n0, n1⟩ := N
  simp only at h4 h5 hE hN
  obtain ⟨z4, _⟩ := (Ext.refl W).box h4
  obtain ⟨z5, _⟩ := (Ext.refl W).box h5
  have H1 := Lib.hid h1
  have H4 := Lib.hid h4
  have H5 := Lib.hid h5
  have Hx := Lib.hid hx
  have Htw := Lib.hid htw
  have Hget := Lib.hid hget
  have Hblk := Lib.hid hblk
  have His := Lib.hid his
  have Hsc := Lib.hid hsc
  have Hll := Lib.hid hll
  clear h1 h4 h5 hx htw hget hblk his hsc hll
  have LC := Lib.hid (And.intro lc cm)
  have HN := Lib.hid hn
  clear lc cm hn hA hb
  conv => arg 2; whnf
  go_upto_region 12 with fail
  have hw2 := heap_alloc_new W (.cells #[.int .i64 (-1), .int .i64 0, .int .i64 (-(e1 - 1)), .bool true, .int .i64 (-1), .int .i64 0, .int .i64 (-(e1 + 1)), .bool false, .int .i64 1, .int .i64 0, .int .i64 (e0 + 1), .bool true, .int .i64 1, .int .i64 0, .int .i64 (e0 - 1), .bool false, .int .i64 0, .int .i64 (-1), .int .i64 (-(n1 - 1)), .bool true, .int .i64 0, .int .i64 (-1), .int .i64 (-(n1 + 1)), .bool false, .int .i64 0, .int .i64 1, .int .i64 (n0 + 1), .bool true, .int .i64 0, .int .i64 1, .int .i64 (n0 - 1), .bool false] 87)
  have hx2 := (Ext.refl W).alloc (.cells #[.int .i64 (-1), .int .i64 0, .int .i64 (-(e1 - 1)), .bool true, .int .i64 (-1), .int .i64 0, .int .i64 (-(e1 + 1)), .bool false, .int .i64 1, .int .i64 0, .int .i64 (e0 + 1), .bool true, .int .i64 1, .int .i64 0, .int .i64 (e0 - 1), .bool false, .int .i64 0, .int .i64 (-1), .int .i64 (-(n1 - 1)), .bool true, .int .i64 0, .int .i64 (-1), .int .i64 (-(n1 + 1)), .bool false, .int .i64 0, .int .i64 1, .int .i64 (n0 + 1), .bool true, .int .i64 0, .int .i64 1, .int .i64 (n0 - 1), .bool false] 87)
  have hbl := Hblk.out _ _ _ hw2
  generalize W.alloc (.cells #[.int .i64 (-1), .int .i64 0, .int .i64 (-(e1 - 1)), .bool true, .int .i64 (-1), .int .i64 0, .int .i64 (-(e1 + 1)), .bool false, .int .i64 1, .int .i64 0, .int .i64 (e0 + 1), .bool true, .int .i64 1, .int .i64 0, .int .i64 (e0 - 1), .bool false, .int .i64 0, .int .i64 (-1), .int .i64 (-(n1 - 1)), .bool true, .int .i64 0, .int .i64 (-1), .int .i64 (-(n1 + 1)), .bool false, .int .i64 0, .int .i64 1, .int .i64 (n0 + 1), .bool true, .int .i64 0, .int .i64 1, .int .i64 (n0 - 1), .bool false] 87) = W2 at *
  generalize W.heap.size = bs at *
  have Hx2 := Lib.hid hx2
  have Hbl := Lib.hid hbl
  clear hx2 hbl
  clear hw2 z4 z5 Hblk
  go_loopw [107] (fun i wr => ∃ j : Nat, j ≤ 8 ∧ i = .int .i64 j ∧ Ext W2 wr) (fun i _ => 8 - (intOf i).toNat)
  case atStart => exact ⟨0, by omega, rfl, Ext.refl _⟩
  case round =>
    obtain ⟨j, hj, rfl, hx⟩ := hrel
    by_cases hlt : j < 8
    · have hltB : decide ((j : Int) < 8) = true := by simp; omega
      obtain ⟨x, hxm, hbs, c0, c1, c2, c3⟩ := Hget.out wr bs j (Hbl.out.ext hx) hlt
      have hc := Hsc.out x hxm
      have hi := His.out x hxm
      obtain ⟨⟨xa, xb, xc⟩, xi⟩ := x
      simp only at c0 c1 c2 c3 hc hi
      have hmx : edgeOk xc = decide ((if xc < -xc then -xc else xc) ≤ 100000000000) := by
        rw [Bool.eq_iff_iff]
        simp only [edgeOk, inB, Bool.and_eq_true, decide_eq_true_eq]
        split <;> omega
      obtain ⟨M, hM⟩ : ∃ M, (if xc < -xc then -xc else xc) = M := ⟨_, rfl⟩
      rw [hM] at hmx
      obtain ⟨hc0, hc1⟩ := hc
      by_cases hgt : 100000000000 < M
      · have hgtB : decide (100000000000 < M) = true := decide_eq_true hgt
        have Hx := Lib.hid hx
        clear hx
        clear hi hmx hgt hxm
        go_wp2_with fail
        go_roundw
        case rel => exact ⟨j + 1, by omega, by go_num, Hx.out.alloc _⟩
        case measure => simp [intOf]; omega
      · have hgtB : decide (100000000000 < M) = false := decide_eq_false hgt
        obtain ⟨⟨r0, r1⟩, ⟨v0, v1⟩, hbo⟩ := hi (by rw [hmx]; exact decide_eq_true (by omega))
        obtain ⟨k, hk⟩ : ∃ k : Int, (if xi = true then (0 : Int) else 43) = k := ⟨_, rfl⟩
        rw [hk] at hbo
        have hxq := hx.alloc (.cells #[.int .i64 xa, .int .i64 xb, .int .i64 xc, .bool xi] 87)
        have hbq := heap_alloc_new wr (.cells #[.int .i64 xa, .int .i64 xb, .int .i64 xc, .bool xi] 87)
        go_upto_region 15 with fail
        generalize wr.alloc (.cells #[.int .i64 xa, .int .i64 xb, .int .i64 xc, .bool xi] 87) = Wq at *
        generalize wr.heap.size = i8 at *
        obtain ⟨z1, _⟩ := (Ext.refl Wq).box ((Hx2.out.trans hxq).heap H1.out)
        have htw := fun W' hW => Htw.out W' (Hx2.out.trans hW)
        have Hxq := Lib.hid hxq
        have Hbq := Lib.hid hbq
        have Hbo := Lib.hid hbo
        have Htw := Lib.hid htw
        clear hxq hbq hbo htw
        clear hi hmx hgt hxm hc0 hc1 hM hgtB c0 c1 c2 c3 hbs
        go_upto_region 16 with (go_at_call 15; refine (Htw.out _ Hxq.out).mono ?_; rintro e w6 ⟨b6, c6, rfl, hx6, ho6⟩)
        have hlt6 := ho6.lt
        have hq6 := hx6.size
        have ho7 := ho6.alloc (.cells #[.slice b6 len c6] 24)
        have hx7 := hx6.alloc (.cells #[.slice b6 len c6] 24)
        have hb7 := heap_alloc_new w6 (.cells #[.slice b6 len c6] 24)
        have hb8 := hx7.heap Hbq.out
        have hs7 : (w6.alloc (.cells #[.slice b6 len c6] 24)).heap.size = w6.heap.size + 1 := by simp
        generalize w6.alloc (.cells #[.slice b6 len c6] 24) = W7 at *
        generalize w6.heap.size = i9 at *
        obtain ⟨z7, z7'⟩ := (Ext.refl W7).box hb7
        obtain ⟨y7, _⟩ := (Ext.refl W7).box hb8
        have l7 := heap_lt hb7
        have hqs := hx7.size
        have Hlt6 := Lib.hid hlt6
        have Ho7 := Lib.hid ho7
        have Hx7 := Lib.hid hx7
        have Hb7 := Lib.hid hb7
        have Hs7 := Lib.hid hs7
        have Hqs := Lib.hid hqs
        have Hq6 := Lib.hid hq6
        clear hlt6 ho7 hx7 hb7 hs7 hqs hq6
        clear hx6 ho6 hb8
        go_upto_region 17 with (at_builtin; refine wpList_app elem22 _ rfl (.tmp 123) (.tmp 126) rfl Wq.heap.size _ (halfRows l) rfl (Ho7.out.alloc _) (some ⟨W7.heap.size, 0, none⟩) 1 1 (halfRows [⟨xa, xb, xc⟩]) rfl rfl (slAt_block (rows := halfRows [⟨xa, xb, xc⟩]) (alloc_at _ _ _ rfl) (fun r hr => (halfRows_row _ r hr).1)) (halfRows_row _) ?_ ?_ ?_)
        · have := Hll.out
          have := HN.out
          simp [halfRows]
          omega
        · have := Hqs.out
          simp
          omega
        · intro v4 w4 ho4 hg4 hor4
          rw [← halfRows_append] at ho4
          obtain ⟨a4, c4, rfl, _, m1, m2, hH4⟩ := halves_of_owns ho4
          have hx8 : Ext Wq w4 := (Hx7.out.alloc (.cells #[.int .i64 xa, .int .i64 xb, .int .i64 xc] 47)).app (Ho7.out.alloc _) hg4
          have hsz : (W7.alloc (.cells #[.int .i64 xa, .int .i64 xb, .int .i64 xc] 47)).heap.size = W7.heap.size + 1 := by simp
          have hs7 := Hs7.out
          have hne := own_ne hor4 (fun k hk => (Hlt6.out k hk).2) (by omega)
          have hb8 : w4.heap[i9]? = some (.cells #[.slice b6 len c6] 24 (0, 0)) := (hg4.block i9 (by omega) (fun e => by have := (Hlt6.out i9 e.symm).2; omega)).trans (((Ext.refl W7).alloc _).heap Hb7.out)
          obtain ⟨K, hK⟩ : ∃ K, (l ++ [(⟨xa, xb, xc⟩ : Half)]).length = K := ⟨_, rfl⟩
          rw [hK] at m1 hH4
          have hx9 := hx8.setCell (p := ⟨i9, 0, none⟩) (by exact Hq6.out) (.slice a4 K c4)
          have hb9 : (w4.setCell ⟨i9, 0, none⟩ (.slice a4 K c4)).heap[i9]? = some (.cells #[.slice a4 K c4] 24 (0, 0)) := by
            simp only [heap_setCell_box, hb8, Option.map_some, setIn_cells, List.setIfInBounds_toArray, List.set_cons_zero]
          have hH9 := hH4.same (w' := w4.setCell ⟨i9, 0, none⟩ (.slice a4 K c4)) fun X hX => Below.heap_setCell _ _ _ _ (hne X hX)
          obtain ⟨z8, z8'⟩ := (Ext.refl w4).box hb8
          have l8 := heap_lt hb8
          rw [hK]
          have Hx9 := Lib.hid hx9
          have Hb9 := Lib.hid hb9
          have HH9 := Lib.hid hH9
          have M1 := Lib.hid m1
          have M2 := Lib.hid m2
          clear hx9 hb9 hH9 m1 m2
          clear hx8 hb8 hH4 hg4 hor4 ho4 hne hsz hs7 Ho7 Hx7 Hlt6 Hs7 Hqs Hb7 z7 z7' y7 l7
          go_upto_region 17 with fail
          generalize w4.setCell ⟨i9, 0, none⟩ (.slice a4 K c4) = W9 at *
          obtain ⟨z9, _⟩ := (Ext.refl W9).box Hb9.out
          have hbd := boundsK_any (n := K) Hbo.out a4 c4 W9 HH9.out M1.out M2.out
          have Hbd := Lib.hid hbd
          clear hbd
          go_upto_region 18 with (go_at_call 24; refine Hbd.out.mono ?_; rintro e w10 ⟨rfl, hx10⟩)
          have hx11 := (Hx9.out.trans hx10).alloc (.cells #[.int .i64 r0, .int .i64 r1] 28)
          have hx12 := hx11.alloc (.cells #[.int .i64 v0, .int .i64 v1] 28)
          obtain ⟨z12, _⟩ := hx12.box Hbq.out
          have Hxf := Lib.hid (Hxq.out.trans hx12)
          clear hx10 hx11 hx12 z9 hK
          cases xi with
          | true =>
            rw [if_pos rfl] at hk
            subst hk
            go_wp2_with fail
            go_roundw
            case rel => exact ⟨j + 1, by omega, by go_num, Hxf.out⟩
            case measure => simp [intOf]; omega
          | false =>
            rw [if_neg (by simp)] at hk
            subst hk
            go_wp2_with fail
            go_roundw
            case rel => exact ⟨j + 1, by omega, by go_num, Hxf.out⟩
            case measure => simp [intOf]; omega
    · have hltB : decide ((j : Int) < 8) = false := by simp; omega
      have hxx := Hx.out
      have HX2 := Lib.hid hx
      clear hx
      go_wp2_with fail
      go_ret
      exact ⟨rfl, hxx.trans (Hx2.out.trans HX2.out)⟩
end Go.Proofs.Ytacdndehlkaaeaa

/- The law GuideSharp. -/
namespace Go.Proofs.Ytacdndehlkaaeaa
open Go.RowKit
set_option linter.unusedVariables false
set_option linter.unusedSimpArgs false
set_option maxRecDepth 100000 in
set_option maxHeartbeats 8000000 in
theorem lawSharp_any (a : Option Addr) (len cap : Nat) (l : List Half) (w : World) (hl : HalvesAt w a len l) (hc : len ≤ cap) (hm : cap ≤ maxLen) :
    Calls Try.prog 8 #[.agg #[.slice a len cap]] w fun e w' => e = .returned (.bool true) ∧ Ext w w' := by
  have hal := alive_any
  have hch := fun W (hW : Ext w W) => rcheckAny_any a len cap l W (hl.ext hW)
  unfold checkOf at hch
  have hll := hl.1
  have htail := fun E N W p1 p4 p5 hA hn hb h1 h4 h5 (hx : Ext w W) => @sharpTail l E N w W a len cap p1 p4 p5 hA hn hb h1 h4 h5 (hl.ext hx) hc hm hx
  have hbd := fun e0 e1 n0 n1 k (h : boundsOf l = (⟨e0, e1⟩, ⟨n0, n1⟩, k)) W (hW : Ext w W) => boundsK_any (n := len) h a cap W (hl.ext hW) hc hm
  have HT := Lib.hid htail
  obtain ⟨W0, hW0⟩ : ∃ W0, w.alloc (.cells #[.slice a len cap] 24) = W0 := ⟨_, rfl⟩
  have hx0 : Ext w W0 := by rw [← hW0]; exact (Ext.refl w).alloc _
  have ha0 : W0.heap[w.heap.size]? = some (.cells #[.slice a len cap] 24 (0, 0)) := by rw [← hW0]; exact heap_alloc_new w _
  have Hx0 := Lib.hid hx0
  have Ha0 := Lib.hid ha0
  have Hal := Lib.hid hal
  clear hx0 ha0 hal
  clear htail
  cases hao : areaOk l with
  | false =>
    rw [hao] at hch
    simp only [Bool.false_eq_true, if_false] at hch
    have Hch := Lib.hid hch
    clear hch
    clear hl hao HT hbd
    go_enter Try.func8, Try.ntmps8
    go_wp2_with
      (first
        | (go_at_call 34; refine (Hal.out _).mono ?_; rintro e w1 ⟨rfl, hx1⟩; obtain ⟨z1, _⟩ := (Ext.refl w1).box (hx1.heap Ha0.out); clear hW0)
        | (go_at_call 29; refine (Hch.out _ (Hx0.out.trans hx1)).mono ?_; rintro e w2 ⟨rfl, hx2⟩; have hx12 := hx1.trans hx2; have hxe := hx12; obtain ⟨z2, _⟩ := (Ext.refl w2).box (hx12.heap Ha0.out); clear z1)
        | (go_at_call 24; refine (Hbk.out _ (Hx0.out.trans hx12)).mono ?_; rintro e w3 ⟨rfl, hx3⟩; have hx13 := hx12.trans hx3; clear hxe; have hxe := hx13; clear z2))
    go_ret
    exact ⟨rfl, Hx0.out.trans hxe⟩
  | true =>
    rw [hao] at hch
    simp only [if_true] at hch
    have hA := areaOk_iff.1 hao
    by_cases h40 : len = 40
    · have h40B : ((len : Int) == 40) = true := by simp; omega
      have Hch := Lib.hid hch
      clear hch
      clear hl hao HT hbd hA h40 hll
      go_enter Try.func8, Try.ntmps8
      go_wp2_with
        (first
          | (go_at_call 34; refine (Hal.out _).mono ?_; rintro e w1 ⟨rfl, hx1⟩; obtain ⟨z1, _⟩ := (Ext.refl w1).box (hx1.heap Ha0.out); clear hW0)
          | (go_at_call 29; refine (Hch.out _ (Hx0.out.trans hx1)).mono ?_; rintro e w2 ⟨rfl, hx2⟩; have hx12 := hx1.trans hx2; have hxe := hx12; obtain ⟨z2, _⟩ := (Ext.refl w2).box (hx12.heap Ha0.out); clear z1)
          | (go_at_call 24; refine (Hbk.out _ (Hx0.out.trans hx12)).mono ?_; rintro e w3 ⟨rfl, hx3⟩; have hx13 := hx12.trans hx3; clear hxe; have hxe := hx13; clear z2))
      go_ret
      exact ⟨rfl, Hx0.out.trans hxe⟩
    · have h40B : ((len : Int) == 40) = false := by simp; omega
      rcases bounds_step hA with ⟨⟨e0, e1⟩, ⟨n0, n1⟩, hb, hB, _⟩ | ⟨hb, _⟩
      · have hbk := hbd _ _ _ _ _ hb
        have hn : len < 40 := by have := hA.len.2; omega
        obtain ⟨g1, g2⟩ := bounds_edge hA hB
        simp only at g1 g2
        have t1 : decide (e1 < e0) = false := decide_eq_false (by omega)
        have t2 : decide (n1 < n0) = false := decide_eq_false (by omega)
        have HF := Lib.hid (And.intro hA (And.intro hn hB))
        have Hch := Lib.hid hch
        have Hbk := Lib.hid hbk
        clear hch hbk
        clear hl hao hbd hA h40 hll hb hB hn g1 g2
        go_enter Try.func8, Try.ntmps8
        go_upto_region 9 with
          (first
            | (go_at_call 34; refine (Hal.out _).mono ?_; rintro e w1 ⟨rfl, hx1⟩; obtain ⟨z1, _⟩ := (Ext.refl w1).box (hx1.heap Ha0.out); clear hW0)
            | (go_at_call 29; refine (Hch.out _ (Hx0.out.trans hx1)).mono ?_; rintro e w2 ⟨rfl, hx2⟩; have hx12 := hx1.trans hx2; have hxe := hx12; obtain ⟨z2, _⟩ := (Ext.refl w2).box (hx12.heap Ha0.out); clear z1)
            | (go_at_call 24; refine (Hbk.out _ (Hx0.out.trans hx12)).mono ?_; rintro e w3 ⟨rfl, hx3⟩; have hx13 := hx12.trans hx3; clear hxe; have hxe := hx13; clear z2))
        have g4 := ((Ext.refl _).alloc (.cells #[.int .i64 n0, .int .i64 n1] 28)).heap (heap_alloc_new w3 (.cells #[.int .i64 e0, .int .i64 e1] 28))
        have g5 := alloc_at (w3.alloc (.cells #[.int .i64 e0, .int .i64 e1] 28)) (.cells #[.int .i64 n0, .int .i64 n1] 28) (w3.heap.size + 1) (by simp)
        have hx4 := (hx13.alloc (.cells #[.int .i64 e0, .int .i64 e1] 28)).alloc (.cells #[.int .i64 n0, .int .i64 n1] 28)
        generalize (w3.alloc (.cells #[.int .i64 e0, .int .i64 e1] 28)).alloc (.cells #[.int .i64 n0, .int .i64 n1] 28) = W4 at *
        generalize w3.heap.size + 1 = i5 at *
        generalize w3.heap.size = i4 at *
        obtain ⟨z4, _⟩ := (Ext.refl W4).box g4
        obtain ⟨z5, _⟩ := (Ext.refl W4).box g5
        clear hx13 hx12 hx1 hx2 hx3 hxe
        go_upto_if 60 with fail
        go_step
        go_step
        go_step
        go_step
        exact HT.out ⟨e0, e1⟩ ⟨n0, n1⟩ _ _ _ _ HF.out.1 HF.out.2.1 HF.out.2.2 (hx4.heap Ha0.out) g4 g5 (Hx0.out.trans hx4)
      · have hbk := hbd 0 0 0 0 43 hb
        have Hch := Lib.hid hch
        have Hbk := Lib.hid hbk
        clear hch hbk
        clear hl hao HT hbd hA h40 hll hb
        go_enter Try.func8, Try.ntmps8
        go_wp2_with
          (first
            | (go_at_call 34; refine (Hal.out _).mono ?_; rintro e w1 ⟨rfl, hx1⟩; obtain ⟨z1, _⟩ := (Ext.refl w1).box (hx1.heap Ha0.out); clear hW0)
            | (go_at_call 29; refine (Hch.out _ (Hx0.out.trans hx1)).mono ?_; rintro e w2 ⟨rfl, hx2⟩; have hx12 := hx1.trans hx2; have hxe := hx12; obtain ⟨z2, _⟩ := (Ext.refl w2).box (hx12.heap Ha0.out); clear z1)
            | (go_at_call 24; refine (Hbk.out _ (Hx0.out.trans hx12)).mono ?_; rintro e w3 ⟨rfl, hx3⟩; have hx13 := hx12.trans hx3; clear hxe; have hxe := hx13; clear z2))
        go_ret
        exact ⟨rfl, Hx0.out.trans ((hxe.alloc _).alloc _)⟩
end Go.Proofs.Ytacdndehlkaaeaa

/- It is proved that GuideSharp returns true whatever the input, and that the input reads as it did. No conditions. -/
namespace Go.Proofs.Ytacdndehlkaaeaa.guideSharpDone
open Go.ChangeShapes Go.WideShapes Go.ChangeAt Go.RowKit
open Go.ChangeMaps (open_string shut_string)
set_option linter.unusedVariables false

theorem own : ownKnob Try.prog.godebug = none := by kernel_rfl
theorem laidOut : laidOutB Try.prog = true := by kernel_rfl

set_option maxRecDepth 100000 in
theorem lifted (os : Os) (started : os.Started) (H : Type) (enc : TypeId × Value → H) :
    ReturnsInHanded {} Try.checked os 8 .any (Rows.guideSharpSpec.pre6 enc Try.prog Try.f8 Rows.guideSharpRow.domain false) (Rows.guideSharpSpec.post enc Try.prog Try.f8 false true false false) := by
  refine returnsInHanded_of_change (C := Try.checked) own started (by kernel_rfl) Try.func8
    (ChangeSpec.witness6 (enc := enc) (C := Try.checked) false ⟨#[], #[.agg #[.slice none 0 0]], []⟩ 8 (by kernel_rfl) (by kernel_rfl) (by kernel_rfl) (by kernel_rfl)) ?_
  intro W base args ds gs before hval0 hW hcnd _
  have hval : ∀ (j : Nat) t v, Try.f8.params[j]? = some t → args[j]? = some v → Value.okWide Try.prog W .any base t v := hval0
  have hW' := hW
  obtain ⟨p, q, hA0, hV, rfl, hfz, hnd⟩ := hW
  have hA : DataW.TrodAll enc Try.prog W 0 (fun _ => true) true Try.f8.params.toList args.toList ds p := hA0
  rw [Try.params8] at hA hval
  obtain ⟨v0, vs0, d0, ds0, p0, q0, hargs, rfl, rfl, h0, r0⟩ := trodAll_cons hA
  obtain ⟨rfl, rfl, rfl⟩ := trodAll_nil r0
  obtain rfl : args = #[v0] := by cases args; simp_all
  obtain ⟨rfl, rfl⟩ := trodVars_none hV
  obtain ⟨cs0, rfl, hz0⟩ := okWide_struct Try.underlying24 (hval 0 24 v0 rfl rfl)
  have k0 := h0
  have lt0 : ∀ x ∈ p0, x.block < W.heap.size := by obtain ⟨m, hm⟩ := k0; exact DataW.trod_lt m _ _ _ hm
  obtain ⟨a0, len0, cap0, l0, rfl, lc0, cm0, w0⟩ : ∃ a n c l, cs0 = #[.slice a n c] ∧ n ≤ c ∧ c ≤ maxLen ∧ HalvesAt W a n l := by
    obtain ⟨fuel, hf⟩ := h0
    exact take_area (hz0.trans (by kernel_rfl)) hf
  clear hA0 hval0
  refine (lawSharp_any a0 len0 cap0 l0 W w0 lc0 cm0).mono fun e W' ⟨he, bel⟩ => ?_
  subst he
  exact ⟨_, rfl, _, _, _, [], _, [], hW', trodAll_mk1 (shut_bool Try.underlying4 _), (trodAll_cons_mk (Below.trod laidOut (by kernel_rfl) (of_decide_eq_true (by kernel_rfl)) k0 bel lt0) trodAll_mk0), rfl, bel.frame _, fun h => by cases h⟩

theorem over : Rows.guideSharpRow.holds Try.pinned (OpenSpec.ofChange Rows.guideSharpSpec) :=
  OpenClaim.holds_of_wide 8 Try.f8 rfl rfl rfl rfl rfl rfl rfl ⟨rfl, rfl, rfl, rfl, rfl⟩ rfl rfl rfl rfl rfl (by kernel_rfl) Try.func8 (by kernel_rfl)
    (of_decide_eq_true (by kernel_rfl)) (by unfold Func.isWrapper; first | (rw [if_pos (by decide +kernel)]; kernel_rfl) | (rw [if_neg (by decide +kernel)]; exact ⟨rfl, rfl⟩))
    (fun os started H enc _ => lifted os started H enc)

theorem proved : Rows.GuideSharpSaid := over
#print axioms proved
end Go.Proofs.Ytacdndehlkaaeaa.guideSharpDone
