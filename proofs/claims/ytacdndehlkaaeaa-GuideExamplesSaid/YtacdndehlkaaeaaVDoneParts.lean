/- The law GuideParts: its end, from the guard of the days more on. -/
import Derived.Test.YtacdndehlkaaeaaVSteps
import Derived.Test.YtacdndehlkaaeaaVGr6
import Derived.Test.YtacdndehlkaaeaaVGr1
import Derived.Test.YtacdndehlkaaeaaVRefHalv
namespace Go.Proofs.Ytacdndehlkaaeaa
open Go.RowKit
set_option linter.unusedVariables false
set_option linter.unusedSimpArgs false
theorem six_at {W : World} {g : Nat} {a b c d e f a' b' c' d' e' f' : Value} {T : TypeId} (h : W.heap[g]? = some (.cells #[a, b, c, d, e, f] T (0, 0))) :
    ((((((W.setCell ⟨g, 0, none⟩ a').setCell ⟨g, 1, none⟩ b').setCell ⟨g, 2, none⟩ c').setCell ⟨g, 3, none⟩ d').setCell ⟨g, 4, none⟩ e').setCell ⟨g, 5, none⟩ f').heap[g]? = some (.cells #[a', b', c', d', e', f'] T (0, 0)) := by
  simp only [heap_setCell_box, h, Option.map_some, setIn_cells, List.setIfInBounds_toArray, List.set_cons_zero, List.set_cons_succ]
theorem six_other {W : World} {g k : Nat} {a' b' c' d' e' f' : Value} (h : k ≠ g) :
    ((((((W.setCell ⟨g, 0, none⟩ a').setCell ⟨g, 1, none⟩ b').setCell ⟨g, 2, none⟩ c').setCell ⟨g, 3, none⟩ d').setCell ⟨g, 4, none⟩ e').setCell ⟨g, 5, none⟩ f').heap[k]? = W.heap[k]? := by
  rw [Below.heap_setCell _ _ _ _ (by simp only; omega), Below.heap_setCell _ _ _ _ (by simp only; omega), Below.heap_setCell _ _ _ _ (by simp only; omega), Below.heap_setCell _ _ _ _ (by simp only; omega), Below.heap_setCell _ _ _ _ (by simp only; omega), Below.heap_setCell _ _ _ _ (by simp only; omega)]
theorem six_ext {w W : World} {g : Nat} {a' b' c' d' e' f' : Value} (h : Ext w W) (hg : w.heap.size ≤ g) :
    Ext w ((((((W.setCell ⟨g, 0, none⟩ a').setCell ⟨g, 1, none⟩ b').setCell ⟨g, 2, none⟩ c').setCell ⟨g, 3, none⟩ d').setCell ⟨g, 4, none⟩ e').setCell ⟨g, 5, none⟩ f') :=
  (((((h.setCell (by exact hg) _).setCell (by exact hg) _).setCell (by exact hg) _).setCell (by exact hg) _).setCell (by exact hg) _).setCell (by exact hg) _
theorem two_six {W : World} {g k : Nat} {a b c d e f a' b' c' d' e' f' : Value} {v0 v1 v2 v3 v4 v5 : Value} {T : TypeId} (h : W.heap[g]? = some (.cells #[a, b, c, d, e, f] T (0, 0))) (h' : W.heap[k]? = some (.cells #[a', b', c', d', e', f'] T (0, 0))) (hne : g ≠ k) {X : World}
    (hX : X = ((((((((((((W.setCell ⟨g, 0, none⟩ v0).setCell ⟨g, 1, none⟩ v1).setCell ⟨g, 2, none⟩ v2).setCell ⟨g, 3, none⟩ v3).setCell ⟨g, 4, none⟩ v4).setCell ⟨g, 5, none⟩ v5).setCell ⟨k, 0, none⟩ v0).setCell ⟨k, 1, none⟩ v1).setCell ⟨k, 2, none⟩ v2).setCell ⟨k, 3, none⟩ v3).setCell ⟨k, 4, none⟩ v4).setCell ⟨k, 5, none⟩ v5)) :
    X.heap[g]? = some (.cells #[v0, v1, v2, v3, v4, v5] T (0, 0)) ∧ X.heap[k]? = some (.cells #[v0, v1, v2, v3, v4, v5] T (0, 0)) := by
  subst hX
  exact ⟨(six_other hne).trans (six_at h), six_at ((six_other (Ne.symm hne)).trans h')⟩
set_option maxRecDepth 100000 in
set_option maxHeartbeats 8000000 in
theorem partsTail {l : List Half} {t : Trek} {m : Span} {w W : World} {a b : Option Addr} {len cap k c p4 p5 p6 p10 : Nat} (hA : AreaOk l) (ht : trekOk t = true) (hmo : marchOf l t = (movedOf l t, 0))
    (h4 : W.heap[p4]? = some (.cells #[.slice a len cap] 24 (0, 0))) (h5 : W.heap[p5]? = some (.cells #[.int .i64 t.d.lo, .int .i64 t.d.hi, .int .i64 t.e.lo, .int .i64 t.e.hi, .int .i64 t.n.lo, .int .i64 t.n.hi] 63 (0, 0)))
    (h6 : W.heap[p6]? = some (.cells #[.int .i64 m.lo, .int .i64 m.hi] 28 (0, 0))) (h10 : W.heap[p10]? = some (.cells #[.slice b k c] 24 (0, 0)))
    (hl : HalvesAt W a len l) (lc : len ≤ cap) (cm : cap ≤ maxLen) (hM : HalvesAt W b k (movedOf l t)) (kc : k ≤ c) (ckm : c ≤ maxLen) (hx : Ext w W) {u0 u1 u2 u3 u7 u8 u11 u12 u13 u14 u15 u16 u17 u18 u19 u20 u21 u22 u23 u24 u25 u26 u27 u28 u29 u30 u31 u32 u33 u34 u35 u36 u37 u38 u39 u40 u41 u42 u43 u44 u45 u46 u47 u48 u49 u50 u51 u52 u53 u54 u55 u56 u57 u58 u59 u60 u61 u62 u63 u64 u65 u66 u67 u68 u69 u70 u71 u72 u73 u74 u75 u76 u77 u78 u79 u80 u81 u82 u83 u84 u85 u86 u87 u88 u89 u90 u91 u92 u93 u94 u95 u96 u97 u98 u99 u100 u101 u102 u103 u104 u105 u106 u107 u108 u109 u110 u111 u112 u113 u114 u115 u116 u117 u118 u119 u120 u121 u122 u123 u124 u125 u126 u127 u128 u129 u130 u131 u132 u133 u134 u135 u136 u137 u138 u139 u140 u141 u142 u143 u144 u145 u146 u147 u148 u149 u150 u151 u152 u153 u154 u155 u156 u157 u158 u159 u160 u161 u162 u163 u164 u165 u166 u167 u168 u169 u170 u171 u172 u173 u174 u175 u176 u177 u178 u179 u180 u181 u182 u183 u184 u185 u186 u187 u188 u189 u190 u191 u192 u193 u194 u195 u196 : Value} :
    (restFrom Try.f12 18).wp Try.prog (bodyPost Try.prog Try.f12 fun e w' => e = .returned (.bool true) ∧ Ext w w')
      ⟨#[u0, u1, u2, u3, .pointer (some ⟨p4, 0, none⟩), .pointer (some ⟨p5, 0, none⟩), .pointer (some ⟨p6, 0, none⟩), u7, u8, .bool true, .pointer (some ⟨p10, 0, none⟩), u11, u12, u13, u14, u15, u16, u17, u18, u19, u20, u21, u22, u23, u24, u25, u26, u27, u28, u29, u30, u31, u32, u33, u34, u35, u36, u37, u38, u39, u40, u41, u42, u43, u44, u45, u46, u47, u48, u49, u50, u51, u52, u53, u54, u55, u56, u57, u58, u59, u60, u61, u62, u63, u64, u65, u66, u67, u68, u69, u70, u71, u72, u73, u74, u75, u76, u77, u78, u79, u80, u81, u82, u83, u84, u85, u86, u87, u88, u89, u90, u91, u92, u93, u94, u95, u96, u97, u98, u99, u100, u101, u102, u103, u104, u105, u106, u107, u108, u109, u110, u111, u112, u113, u114, u115, u116, u117, u118, u119, u120, u121, u122, u123, u124, u125, u126, u127, u128, u129, u130, u131, u132, u133, u134, u135, u136, u137, u138, u139, u140, u141, u142, u143, u144, u145, u146, u147, u148, u149, u150, u151, u152, u153, u154, u155, u156, u157, u158, u159, u160, u161, u162, u163, u164, u165, u166, u167, u168, u169, u170, u171, u172, u173, u174, u175, u176, u177, u178, u179, u180, u181, u182, u183, u184, u185, u186, u187, u188, u189, u190, u191, u192, u193, u194, u195, u196], []⟩ W := by
  obtain ⟨t1, t2, t3⟩ := trek_of ht
  have hwh := fun m0 m1 m2 => whole_is (m := m) hA ht hmo m0 m1 m2
  obtain ⟨L, hL⟩ : ∃ L, movedOf l t = L := ⟨_, rfl⟩
  rw [hL] at hM
  have hkl := hM.1
  have hma := fun (r : Trek) (A : List Half) (d : Int) (n : Nat) (h : marchOf L r = (A, d)) (hn : A.length = n) W' (hW : Ext W W') => marchEither_any h hn b c W' (hM.ext hW) kc ckm
  have hmb := fun (r : Trek) (A : List Half) (d : Int) (n : Nat) (h : marchOf l r = (A, d)) (hn : A.length = n) W' (hW : Ext W W') => marchEither_any h hn a cap W' (hl.ext hW) lc cm
  have hsp := span_any
  have hsame := sameArea_any
  obtain ⟨⟨d0, d1⟩, ⟨e0, e1⟩, ⟨n0, n1⟩⟩ := t
  obtain ⟨m0, m1⟩ := m
  simp only at t1 t2 t3 h5 h6 hwh
  obtain ⟨z5, _⟩ := (Ext.refl W).box h5
  obtain ⟨z6, _⟩ := (Ext.refl W).box h6
  have H4 := Lib.hid h4
  have H5 := Lib.hid h5
  have H6 := Lib.hid h6
  have H10 := Lib.hid h10
  have Hx := Lib.hid hx
  have Hsp := Lib.hid hsp
  have Hsame := Lib.hid hsame
  clear h4 h5 h6 h10 hx hsp hsame
  conv => arg 2; whnf
  by_cases g0 : m0 < 0
  · have g0B : decide (m0 < 0) = true := decide_eq_true g0
    clear hwh hma hmb hl hM
    go_wp2_with fail
    go_ret
    exact ⟨rfl, Hx.out⟩
  · have g0B : decide (m0 < 0) = false := decide_eq_false g0
    by_cases g1 : m1 < m0
    · have g1B : decide (m1 < m0) = true := decide_eq_true g1
      clear hwh hma hmb hl hM
      go_wp2_with fail
      go_ret
      exact ⟨rfl, Hx.out⟩
    · have g1B : decide (m1 < m0) = false := decide_eq_false g1
      by_cases g2 : 60 - d1 < m1
      · have g2B : decide (60 - d1 < m1) = true := decide_eq_true g2
        clear hwh hma hmb hl hM
        go_wp2_with fail
        go_ret
        exact ⟨rfl, Hx.out⟩
      · have g2B : decide (60 - d1 < m1) = false := decide_eq_false g2
        have hwi := hwh (by omega) (by omega) (by omega)
        clear hwh
        obtain ⟨A, B, p, q, hA1, hB1, hpq⟩ : ∃ A B p q, marchOf L ⟨⟨m0, m1⟩, ⟨e0, e1⟩, ⟨n0, n1⟩⟩ = (A, p) ∧ marchOf l ⟨⟨d0 + m0, d1 + m1⟩, ⟨e0, e1⟩, ⟨n0, n1⟩⟩ = (B, q) ∧ ((p = 0 ∧ q = 0 ∧ A = B) ∨ ((p = 0 ∨ p = 9) ∧ (q = 0 ∨ q = 9) ∧ (p = 9 ∨ q = 9))) := by
          cases hwi with
          | not c d A B x1 x2 x3 x4 x5 x6 x7 => rw [hL] at x1; exact ⟨A, B, c, d, x1, x2, .inr ⟨x5, x6, x7⟩⟩
          | both A x1 x2 => rw [hL] at x1; exact ⟨A, A, 0, 0, x1, x2, .inl ⟨rfl, rfl, rfl⟩⟩
        obtain ⟨kA, hkA⟩ : ∃ k, A.length = k := ⟨_, rfl⟩
        obtain ⟨kB, hkB⟩ : ∃ k, B.length = k := ⟨_, rfl⟩
        have hm1 := hma _ A p kA hA1 hkA
        have hm2 := hmb _ B q kB hB1 hkB
        have hal := (march_ok hA ht).2.2.2 (by rw [hmo])
        have hAl : kA ≤ 100000 := by
          rcases Nat.lt_or_ge 100000 kA with h | h
          · exfalso
            unfold marchOf at hA1
            split at hA1
            · cases hA1; simp at hkA; omega
            · split at hA1
              · cases hA1; simp at hkA; omega
              · split at hA1
                · cases hA1; simp at hkA; omega
                · split at hA1
                  · cases hA1; simp at hkA; omega
                  · cases hA1
                    rw [moved_len, ← hL, moved_len] at hkA
                    have := hA.len
                    omega
          · exact h
        unfold EitherPost Trek.val at hm1 hm2
        simp only at hm1 hm2
        have Hpq := Lib.hid hpq
        have Hm1 := Lib.hid hm1
        have Hm2 := Lib.hid hm2
        clear hm1 hm2
        have hd : d0 + m0 ≤ 60 ∧ d1 + m1 ≤ 60 ∧ 0 ≤ d0 + m0 ∧ 0 ≤ d1 + m1 := by omega
        clear hwi hma hmb hl hM hA ht hmo hal hA1 hB1 hpq hkl hL
        go_upto_region 20 with fail
        clear z6
        clear g0 g1 g2
        obtain ⟨B, hB⟩ : ∃ B, W.heap.size = B := ⟨_, rfl⟩
        have HB := Lib.hid hB
        clear hB
        refine wp_region_tree (.take [0, 1] (.two 2 (.one 3 (.one 4 (.one 5 .done))) 3 (.one 2 (.one 4 (.one 5 .done))))) (Ext W) _ (by kernel_rfl) (by kernel_rfl) rfl ((Ext.refl _).drew) ?_
        intro ι _ f hf hs
        have f0 := fun q => ((hf q).box H5.out).1
        have Hs := Lib.hid hs
        clear hf hs z5
        simp only [treeOf, oneOp, twoOp, opsOf, consOp, List.getElem?_toArray, List.getElem?_cons_succ, List.getElem?_cons_zero]
        refine wpOT_take ?_
        repeat (go_big_quiet_step (fail))
        refine wpQuiet_nil ?_
        clear f0
        refine wpOT_both ?_
        apply join_two (F := fun p21 p22 W' => Ext W W' ∧ B ≤ p21 ∧ B ≤ p22 ∧ p21 ≠ p22 ∧ W'.heap[p21]? = some (.cells #[.int .i64 d0, .int .i64 d1, .int .i64 e0, .int .i64 e1, .int .i64 n0, .int .i64 n1] 63 (0, 0)) ∧ W'.heap[p22]? = some (.cells #[.int .i64 d0, .int .i64 d1, .int .i64 e0, .int .i64 e1, .int .i64 n0, .int .i64 n1] 63 (0, 0)))
        · intro G
          go_wp2_with fail
          refine ⟨Hs.out _ ((Ext.refl _).alloc _).drew, ?_⟩
          refine wpOT_one ?_
          go_wp2_with fail
          refine ⟨Hs.out _ (((Ext.refl _).alloc _).alloc _).drew, ?_⟩
          refine wpOT_one ?_
          go_wp2_with fail
          refine ⟨Hs.out _ (((Ext.refl _).alloc _).alloc _).drew, ?_⟩
          refine wpOT_one ?_
          go_wp2_with fail
          refine ⟨Hs.out _ (((Ext.refl _).alloc _).alloc _).drew, ?_⟩
          refine wpOT_done ?_
          obtain ⟨hx1, hba, hbb⟩ := two_boxes W #[Value.int IntKind.i64 d0, Value.int IntKind.i64 d1, Value.int IntKind.i64 e0, Value.int IntKind.i64 e1, Value.int IntKind.i64 n0, Value.int IntKind.i64 n1] #[Value.int IntKind.i64 d0, Value.int IntKind.i64 d1, Value.int IntKind.i64 e0, Value.int IntKind.i64 e1, Value.int IntKind.i64 n0, Value.int IntKind.i64 n1] 63 63
          have hq := hx1.size
          generalize ((W.alloc (Obj.cells #[Value.int IntKind.i64 d0, Value.int IntKind.i64 d1, Value.int IntKind.i64 e0, Value.int IntKind.i64 e1, Value.int IntKind.i64 n0, Value.int IntKind.i64 n1] 63)).alloc (Obj.cells #[Value.int IntKind.i64 d0, Value.int IntKind.i64 d1, Value.int IntKind.i64 e0, Value.int IntKind.i64 e1, Value.int IntKind.i64 n0, Value.int IntKind.i64 n1] 63)).drew = W1 at hx1 hba hbb ⊢
          have hB := HB.out
          have q0 : B ≤ W.heap.size := by omega
          have q1 : B ≤ W.heap.size + 1 := by omega
          have q2 : W.heap.size ≠ W.heap.size + 1 := by omega
          generalize W.heap.size + 1 = i1 at hbb q1 q2 ⊢
          generalize W.heap.size = i0 at hba q0 q2 ⊢
          exact G _ _ _ ⟨hx1, q0, q1, q2, hba, hbb⟩
        · intro G
          go_wp2_with fail
          refine ⟨Hs.out _ ((Ext.refl _).alloc _).drew, ?_⟩
          refine wpOT_one ?_
          go_wp2_with fail
          refine ⟨Hs.out _ (((Ext.refl _).alloc _).alloc _).drew, ?_⟩
          refine wpOT_one ?_
          go_wp2_with fail
          refine ⟨Hs.out _ (((Ext.refl _).alloc _).alloc _).drew, ?_⟩
          refine wpOT_one ?_
          go_wp2_with fail
          refine ⟨Hs.out _ (((Ext.refl _).alloc _).alloc _).drew, ?_⟩
          refine wpOT_done ?_
          obtain ⟨hx1, hba, hbb⟩ := two_boxes W #[Value.int IntKind.i64 d0, Value.int IntKind.i64 d1, Value.int IntKind.i64 e0, Value.int IntKind.i64 e1, Value.int IntKind.i64 n0, Value.int IntKind.i64 n1] #[Value.int IntKind.i64 d0, Value.int IntKind.i64 d1, Value.int IntKind.i64 e0, Value.int IntKind.i64 e1, Value.int IntKind.i64 n0, Value.int IntKind.i64 n1] 63 63
          have hq := hx1.size
          generalize ((W.alloc (Obj.cells #[Value.int IntKind.i64 d0, Value.int IntKind.i64 d1, Value.int IntKind.i64 e0, Value.int IntKind.i64 e1, Value.int IntKind.i64 n0, Value.int IntKind.i64 n1] 63)).alloc (Obj.cells #[Value.int IntKind.i64 d0, Value.int IntKind.i64 d1, Value.int IntKind.i64 e0, Value.int IntKind.i64 e1, Value.int IntKind.i64 n0, Value.int IntKind.i64 n1] 63)).drew = W1 at hx1 hba hbb ⊢
          have hB := HB.out
          have q0 : B ≤ W.heap.size := by omega
          have q1 : B ≤ W.heap.size + 1 := by omega
          have q2 : W.heap.size ≠ W.heap.size + 1 := by omega
          generalize W.heap.size + 1 = i1 at hbb q1 q2 ⊢
          generalize W.heap.size = i0 at hba q0 q2 ⊢
          exact G _ _ _ ⟨hx1, q1, q0, Ne.symm q2, hbb, hba⟩
        rintro p21 p22 W2 ⟨hx2, hp21, hp22, hne, hb21, hb22⟩
        have hB := HB.out
        subst hB
        clear HB
        obtain ⟨z2, _⟩ := (Ext.refl W2).box (hx2.heap H6.out)
        obtain ⟨y2, y2'⟩ := (Ext.refl W2).box hb21
        have l21 := heap_lt hb21
        go_upto_region 22 with fail
        have hx3 := set2_ext (a := .int .i64 m0) (b := .int .i64 m1) hx2 hp21
        have hb21' : ((W2.setCell ⟨p21, 0, none⟩ (.int .i64 m0)).setCell ⟨p21, 1, none⟩ (.int .i64 m1)).heap[p21]? = some (.cells #[.int .i64 m0, .int .i64 m1, .int .i64 e0, .int .i64 e1, .int .i64 n0, .int .i64 n1] 63 (0, 0)) := by
          simp only [heap_setCell_box, hb21, Option.map_some, setIn_cells, List.setIfInBounds_toArray, List.set_cons_zero, List.set_cons_succ]
        have hb22' := (set2_other (a := .int .i64 m0) (b := .int .i64 m1) (Ne.symm hne)).trans hb22
        clear hx2 hb21 hb22 z2 y2 y2' l21
        generalize (W2.setCell ⟨p21, 0, none⟩ (.int .i64 m0)).setCell ⟨p21, 1, none⟩ (.int .i64 m1) = W3 at *
        obtain ⟨z3, _⟩ := (Ext.refl W3).box (hx3.heap H5.out)
        obtain ⟨y3, _⟩ := (Ext.refl W3).box (hx3.heap H6.out)
        go_upto_region 23 with (go_at_call 38; refine (Hsp.out _ _ _).mono ?_; rintro e w4 ⟨rfl, hx4⟩; have hb4 := hx4.heap hb22'; obtain ⟨z4, z4'⟩ := (Ext.refl w4).box hb4; have l4 := heap_lt hb4)
        have hx5 := set2_ext (a := .int .i64 (d0 + m0)) (b := .int .i64 (d1 + m1)) (hx3.trans hx4) hp22
        have hb22'' : ((w4.setCell ⟨p22, 0, none⟩ (.int .i64 (d0 + m0))).setCell ⟨p22, 1, none⟩ (.int .i64 (d1 + m1))).heap[p22]? = some (.cells #[.int .i64 (d0 + m0), .int .i64 (d1 + m1), .int .i64 e0, .int .i64 e1, .int .i64 n0, .int .i64 n1] 63 (0, 0)) := by
          simp only [heap_setCell_box, hb4, Option.map_some, setIn_cells, List.setIfInBounds_toArray, List.set_cons_zero, List.set_cons_succ]
        have hb21'' := (set2_other (a := .int .i64 (d0 + m0)) (b := .int .i64 (d1 + m1)) hne).trans (hx4.heap hb21')
        clear hx3 hx4 hb4 z4 z4' l4 hb21' hb22' z3 y3
        generalize (w4.setCell ⟨p22, 0, none⟩ (.int .i64 (d0 + m0))).setCell ⟨p22, 1, none⟩ (.int .i64 (d1 + m1)) = W5 at *
        obtain ⟨z5, _⟩ := (Ext.refl W5).box (hx5.heap H10.out)
        obtain ⟨y5, _⟩ := (Ext.refl W5).box hb21''
        go_upto_region 25 with (go_at_call 30; first
          | (have q := hx56; clear q; refine (Hm2.out _ (hx56.alloc _)).mono ?_; rintro e w7 ⟨b7, c7, rfl, s7, t7, hx7, hH7, _⟩)
          | (refine (Hm1.out _ hx5).mono ?_; rintro e w6 ⟨b6, c6, rfl, s6, t6, hx6, hH6, _⟩; have hx56 := hx5.trans hx6; obtain ⟨z6, _⟩ := (Ext.refl w6).box (hx56.heap H4.out); obtain ⟨y6, _⟩ := (Ext.refl w6).box (hx6.heap hb22''); have l6 := heap_lt (hx56.heap H4.out); have m6 := heap_lt (hx6.heap hb22'')))
        have hx8 := ((hx56.alloc _).trans hx7).alloc (.cells #[.slice b7 kB c7] 24)
        have hb8 := (hx7.alloc (.cells #[.slice b7 kB c7] 24)).heap (heap_alloc_new w6 (.cells #[.slice b6 kA c6] 24))
        have hb9 := heap_alloc_new w7 (.cells #[.slice b7 kB c7] 24)
        have hH6' := hH6.ext (((Ext.refl w6).alloc (.cells #[.slice b6 kA c6] 24)).trans (hx7.alloc (.cells #[.slice b7 kB c7] 24)))
        have hH7' := hH7.ext ((Ext.refl w7).alloc (.cells #[.slice b7 kB c7] 24))
        generalize w7.alloc (.cells #[.slice b7 kB c7] 24) = W8 at *
        generalize w6.heap.size = i23 at *
        generalize w7.heap.size = i25 at *
        obtain ⟨z8, _⟩ := (Ext.refl W8).box hb8
        obtain ⟨z9, _⟩ := (Ext.refl W8).box hb9
        clear hx5 hx6 hx7 hx56 hb21'' hb22'' hH6 hH7 hb8 hb9 z5 y5 z6 y6 l6 m6
        have Hx8 := Lib.hid (Hx.out.trans hx8)
        have Hs := Lib.hid (fun W' hW => Hsame.out b6 b7 kA kB c6 c7 A B W' (hH6'.ext hW) (hH7'.ext hW) hAl)
        clear hx8 hH6' hH7' Hsame
        rcases Hpq.out with ⟨rfl, rfl, rfl⟩ | ⟨hp, hq, hpq⟩
        · clear Hpq
          go_wp2_with (go_at_call 20; refine (Hs.out _ (Ext.refl _)).mono ?_; rintro e w9 ⟨rfl, hx9⟩)
          go_ret
          exact ⟨ret_bool (by simp), Hx8.out.trans hx9⟩
        · clear Hpq Hs
          rcases hp with rfl | rfl
          all_goals rcases hq with rfl | rfl
          all_goals first
            | (exfalso; omega)
            | (clear hpq; go_wp2_with fail; go_ret; exact ⟨rfl, Hx8.out⟩)
end Go.Proofs.Ytacdndehlkaaeaa

/- The law GuideParts: what is known better. -/
namespace Go.Proofs.Ytacdndehlkaaeaa
open Go.RowKit
set_option linter.unusedVariables false
set_option linter.unusedSimpArgs false
theorem atLit_any (a : Option Addr) (n c : Nat) (l : List Int) (i : Int) (k : Nat) (hk : i = k) (w : World) (hl : IntsAt .u32 w a n l) (hn : n ≤ maxLen) (hi : k ≤ 1000000) : Calls Try.prog 44 #[.slice a n c, .int .i64 i] w fun e w' => e = .returned (.int .u32 (drawAt l k)) ∧ Ext w w' := by
  subst hk
  refine (at_any a n c l k w hl hn hi).mono ?_
  rintro e w' ⟨rfl, rfl⟩
  exact ⟨rfl, Ext.refl _⟩
theorem partK_any {s u : Span} {k k' : Int} (hu : partOf s k k' = u) (w : World) (h0 : -100000000 ≤ s.lo) (h1 : s.lo ≤ s.hi) (h2 : s.hi ≤ 100000000) (k0 : 0 ≤ k ∧ k ≤ 4294967295) (k2 : 0 ≤ k' ∧ k' ≤ 4294967295) : Calls Try.prog 49 #[.agg #[.int .i64 s.lo, .int .i64 s.hi], .int .u32 k, .int .u32 k'] w fun e w' => e = .returned (.agg #[.int .i64 u.lo, .int .i64 u.hi]) ∧ Ext w w' := by
  subst hu
  exact part_any s k k' w h0 h1 h2 k0.1 k0.2 k2.1 k2.2
set_option maxRecDepth 100000 in
set_option maxHeartbeats 8000000 in
theorem partsMid {l : List Half} {t : Trek} {m : Span} {by' : List Int} {w W : World} {a b ya : Option Addr} {len cap k c yn yc p4 p5 p6 p10 : Nat} (hA : AreaOk l) (ht : trekOk t = true) (hmo : marchOf l t = (movedOf l t, 0))
    (h4 : W.heap[p4]? = some (.cells #[.slice a len cap] 24 (0, 0))) (h5 : W.heap[p5]? = some (.cells #[.int .i64 t.d.lo, .int .i64 t.d.hi, .int .i64 t.e.lo, .int .i64 t.e.hi, .int .i64 t.n.lo, .int .i64 t.n.hi] 63 (0, 0)))
    (h6 : W.heap[p6]? = some (.cells #[.int .i64 m.lo, .int .i64 m.hi] 28 (0, 0))) (h10 : W.heap[p10]? = some (.cells #[.slice b k c] 24 (0, 0)))
    (hl : HalvesAt W a len l) (lc : len ≤ cap) (cm : cap ≤ maxLen) (hM : HalvesAt W b k (movedOf l t)) (kc : k ≤ c) (ckm : c ≤ maxLen) (hy : IntsAt .u32 W ya yn by') (hyn : yn ≤ maxLen) (hdr : drawOk by') (hx : Ext w W) {u0 u1 u2 u7 u8 u11 u12 u13 u14 u15 u16 u17 u18 u19 u20 u21 u22 u23 u24 u25 u26 u27 u28 u29 u30 u31 u32 u33 u34 u35 u36 u37 u38 u39 u40 u41 u42 u43 u44 u45 u46 u47 u48 u49 u50 u51 u52 u53 u54 u55 u56 u57 u58 u59 u60 u61 u62 u63 u64 u65 u66 u67 u68 u69 u70 u71 u72 u73 u74 u75 u76 u77 u78 u79 u80 u81 u82 u83 u84 u85 u86 u87 u88 u89 u90 u91 u92 u93 u94 u95 u96 u97 u98 u99 u100 u101 u102 u103 u104 u105 u106 u107 u108 u109 u110 u111 u112 u113 u114 u115 u116 u117 u118 u119 u120 u121 u122 u123 u124 u125 u126 u127 u128 u129 u130 u131 u132 u133 u134 u135 u136 u137 u138 u139 u140 u141 u142 u143 u144 u145 u146 u147 u148 u149 u150 u151 u152 u153 u154 u155 u156 u157 u158 u159 u160 u161 u162 u163 u164 u165 u166 u167 u168 u169 u170 u171 u172 u173 u174 u175 u176 u177 u178 u179 u180 u181 u182 u183 u184 u185 u186 u187 u188 u189 u190 u191 u192 u193 u194 u195 u196 : Value} :
    (restFrom Try.f12 9).wp Try.prog (bodyPost Try.prog Try.f12 fun e w' => e = .returned (.bool true) ∧ Ext w w')
      ⟨#[u0, u1, u2, .slice ya yn yc, .pointer (some ⟨p4, 0, none⟩), .pointer (some ⟨p5, 0, none⟩), .pointer (some ⟨p6, 0, none⟩), u7, u8, .bool true, .pointer (some ⟨p10, 0, none⟩), u11, u12, u13, u14, u15, u16, u17, u18, u19, u20, u21, u22, u23, u24, u25, u26, u27, u28, u29, u30, u31, u32, u33, u34, u35, u36, u37, u38, u39, u40, u41, u42, u43, u44, u45, u46, u47, u48, u49, u50, u51, u52, u53, u54, u55, u56, u57, u58, u59, u60, u61, u62, u63, u64, u65, u66, u67, u68, u69, u70, u71, u72, u73, u74, u75, u76, u77, u78, u79, u80, u81, u82, u83, u84, u85, u86, u87, u88, u89, u90, u91, u92, u93, u94, u95, u96, u97, u98, u99, u100, u101, u102, u103, u104, u105, u106, u107, u108, u109, u110, u111, u112, u113, u114, u115, u116, u117, u118, u119, u120, u121, u122, u123, u124, u125, u126, u127, u128, u129, u130, u131, u132, u133, u134, u135, u136, u137, u138, u139, u140, u141, u142, u143, u144, u145, u146, u147, u148, u149, u150, u151, u152, u153, u154, u155, u156, u157, u158, u159, u160, u161, u162, u163, u164, u165, u166, u167, u168, u169, u170, u171, u172, u173, u174, u175, u176, u177, u178, u179, u180, u181, u182, u183, u184, u185, u186, u187, u188, u189, u190, u191, u192, u193, u194, u195, u196], []⟩ W := by
  obtain ⟨t1, t2, t3⟩ := trek_of ht
  have hat0 := fun W' (hW : Ext W W') => atLit_any ya yn yc by' 0 0 rfl W' (hy.ext hW) hyn (by omega)
  have hat1 := fun W' (hW : Ext W W') => atLit_any ya yn yc by' 1 1 rfl W' (hy.ext hW) hyn (by omega)
  have hat2 := fun W' (hW : Ext W W') => atLit_any ya yn yc by' 2 2 rfl W' (hy.ext hW) hyn (by omega)
  have hat3 := fun W' (hW : Ext W W') => atLit_any ya yn yc by' 3 3 rfl W' (hy.ext hW) hyn (by omega)
  have hat4 := fun W' (hW : Ext W W') => atLit_any ya yn yc by' 4 4 rfl W' (hy.ext hW) hyn (by omega)
  have hat5 := fun W' (hW : Ext W W') => atLit_any ya yn yc by' 5 5 rfl W' (hy.ext hW) hyn (by omega)
  have hd0 := hdr 0
  have hd1 := hdr 1
  have hd2 := hdr 2
  have hd3 := hdr 3
  have hd4 := hdr 4
  have hd5 := hdr 5
  generalize drawAt by' 0 = k0 at *
  generalize drawAt by' 1 = k1 at *
  generalize drawAt by' 2 = k2 at *
  generalize drawAt by' 3 = k3 at *
  generalize drawAt by' 4 = k4 at *
  generalize drawAt by' 5 = k5 at *
  obtain ⟨D, hD⟩ : ∃ s, partOf t.d k0 k1 = s := ⟨_, rfl⟩
  obtain ⟨E, hE⟩ : ∃ s, partOf t.e k2 k3 = s := ⟨_, rfl⟩
  obtain ⟨N, hN⟩ : ∃ s, partOf t.n k4 k5 = s := ⟨_, rfl⟩
  have iD := part_in t1.2.1 hd0.1 hd1.1
  have iE := part_in t2.2.1 hd2.1 hd3.1
  have iN := part_in t3.2.1 hd4.1 hd5.1
  rw [hD] at iD
  rw [hE] at iE
  rw [hN] at iN
  have hpD := fun W' => partK_any hD W' (by omega) (by omega) (by omega) hd0 hd1
  have hpE := fun W' => partK_any hE W' (by omega) (by omega) (by omega) hd2 hd3
  have hpN := fun W' => partK_any hN W' (by omega) (by omega) (by omega) hd4 hd5
  have htk : trekOk ⟨D, E, N⟩ = true := of_trek (by
    obtain ⟨⟨x1, x2⟩, x3⟩ := iD
    obtain ⟨⟨y1, y2⟩, y3⟩ := iE
    obtain ⟨⟨z1, z2⟩, z3⟩ := iN
    simp only
    omega)
  have hkn := known_is hA ht htk iD.1 iE.1 iN.1
  have tail := fun (W' : World) (hW : Ext W W') => @partsTail l t m w W' a b len cap k c p4 p5 p6 p10 hA ht hmo (hW.heap h4) (hW.heap h5) (hW.heap h6) (hW.heap h10) (hl.ext hW) lc cm (hM.ext hW) kc ckm (hx.trans hW)
  have hm1 := fun (A : List Half) (d : Int) (n : Nat) (h : marchOf l ⟨D, E, N⟩ = (A, d)) (hn : A.length = n) W' (hW : Ext W W') => marchEither_any h hn a cap W' (hl.ext hW) lc cm
  have hbd := fun e0 e1 n0 n1 (h : boundsOf (movedOf l t) = (⟨e0, e1⟩, ⟨n0, n1⟩, 0)) W' (hW : Ext W W') => boundsK_any (n := k) h b c W' (hM.ext hW) kc ckm
  have hbd2 := fun e0 e1 n0 n1 n (h : boundsOf (movedOf l ⟨D, E, N⟩) = (⟨e0, e1⟩, ⟨n0, n1⟩, 0)) b' c' W' hL k1 k2 => boundsK_any (n := n) h b' c' W' hL k1 k2
  have HT := Lib.hid tail
  obtain ⟨⟨d0, d1⟩, ⟨e0, e1⟩, ⟨n0, n1⟩⟩ := t
  obtain ⟨dl, dh⟩ := D
  obtain ⟨el, eh⟩ := E
  obtain ⟨nl, nh⟩ := N
  simp only at h5 hpD hpE hpN
  unfold EitherPost Trek.val at hm1
  simp only at hm1
  have Hkn := Lib.hid hkn
  have Hmo := Lib.hid hmo
  clear iD iE iN hD hE hN t1 t2 t3 hd0 hd1 hd2 hd3 hd4 hd5 tail hdr hA ht htk hmo hkn hM hl hy h6
  have Hat0 := Lib.hid hat0
  have Hat1 := Lib.hid hat1
  have Hat2 := Lib.hid hat2
  have Hat3 := Lib.hid hat3
  have Hat4 := Lib.hid hat4
  have Hat5 := Lib.hid hat5
  have HpD := Lib.hid hpD
  have HpE := Lib.hid hpE
  have HpN := Lib.hid hpN
  have H4 := Lib.hid h4
  have H5 := Lib.hid h5
  have H10 := Lib.hid h10
  have Hx := Lib.hid hx
  have Hm1 := Lib.hid hm1
  have Hbd := Lib.hid hbd
  have Hbd2 := Lib.hid hbd2
  clear hat0 hat1 hat2 hat3 hat4 hat5 hpD hpE hpN h4 h5 h10 hx hm1 hbd hbd2
  conv => arg 2; whnf
  go_upto_region 9 with fail
  refine wp_region_plan (.take [0, 1, 2, 4, 7, 8, 9, 11, 14, 15, 16, 18] (.call 3 (.call 5 (.call 6 (.call 10 (.call 12 (.call 13 (.call 17 (.call 19 (.call 20 (.free [21] (.one 22 (.fin (.one 23 .done)))))))))))))) [23] (Ext W) _ (by kernel_rfl) (by kernel_rfl) rfl (EC.ext W) ((Ext.refl _).drew) ?_
  simp only [planOf, treeOf, oneOp, twoOp, opsOf, consOp, callOC, oneOC, twoOC, List.getElem?_toArray, List.getElem?_cons_succ, List.getElem?_cons_zero]
  intro ι _ f hf
  have f0 := fun q => ((hf q).box H5.out).1
  clear hf
  repeat (go_big_quiet_step (fail))
  refine wpQuiet_nil ?_
  clear f0
  refine wpOC_call (args := #[.slice ya yn yc, .int .i64 0]) (v := .int .u32 k0) rfl rfl (enters_of Try.func44 (by kernel_rfl) rfl) (by kernel_rfl) (fun V hV => Hat0.out V hV) ?_
  simp only [Act.put, List.setIfInBounds_toArray, List.set_cons_succ, List.set_cons_zero]
  refine wpOC_call (args := #[.slice ya yn yc, .int .i64 1]) (v := .int .u32 k1) rfl rfl (enters_of Try.func44 (by kernel_rfl) rfl) (by kernel_rfl) (fun V hV => Hat1.out V hV) ?_
  simp only [Act.put, List.setIfInBounds_toArray, List.set_cons_succ, List.set_cons_zero]
  refine wpOC_call (args := #[.agg #[.int .i64 d0, .int .i64 d1], .int .u32 k0, .int .u32 k1]) (v := .agg #[.int .i64 dl, .int .i64 dh]) rfl rfl (enters_of Try.func49 (by kernel_rfl) rfl) (by kernel_rfl) (fun V hV => HpD.out V) ?_
  simp only [Act.put, List.setIfInBounds_toArray, List.set_cons_succ, List.set_cons_zero]
  refine wpOC_call (args := #[.slice ya yn yc, .int .i64 2]) (v := .int .u32 k2) rfl rfl (enters_of Try.func44 (by kernel_rfl) rfl) (by kernel_rfl) (fun V hV => Hat2.out V hV) ?_
  simp only [Act.put, List.setIfInBounds_toArray, List.set_cons_succ, List.set_cons_zero]
  refine wpOC_call (args := #[.slice ya yn yc, .int .i64 3]) (v := .int .u32 k3) rfl rfl (enters_of Try.func44 (by kernel_rfl) rfl) (by kernel_rfl) (fun V hV => Hat3.out V hV) ?_
  simp only [Act.put, List.setIfInBounds_toArray, List.set_cons_succ, List.set_cons_zero]
  refine wpOC_call (args := #[.agg #[.int .i64 e0, .int .i64 e1], .int .u32 k2, .int .u32 k3]) (v := .agg #[.int .i64 el, .int .i64 eh]) rfl rfl (enters_of Try.func49 (by kernel_rfl) rfl) (by kernel_rfl) (fun V hV => HpE.out V) ?_
  simp only [Act.put, List.setIfInBounds_toArray, List.set_cons_succ, List.set_cons_zero]
  refine wpOC_call (args := #[.slice ya yn yc, .int .i64 4]) (v := .int .u32 k4) rfl rfl (enters_of Try.func44 (by kernel_rfl) rfl) (by kernel_rfl) (fun V hV => Hat4.out V hV) ?_
  simp only [Act.put, List.setIfInBounds_toArray, List.set_cons_succ, List.set_cons_zero]
  refine wpOC_call (args := #[.slice ya yn yc, .int .i64 5]) (v := .int .u32 k5) rfl rfl (enters_of Try.func44 (by kernel_rfl) rfl) (by kernel_rfl) (fun V hV => Hat5.out V hV) ?_
  simp only [Act.put, List.setIfInBounds_toArray, List.set_cons_succ, List.set_cons_zero]
  refine wpOC_call (args := #[.agg #[.int .i64 n0, .int .i64 n1], .int .u32 k4, .int .u32 k5]) (v := .agg #[.int .i64 nl, .int .i64 nh]) rfl rfl (enters_of Try.func49 (by kernel_rfl) rfl) (by kernel_rfl) (fun V hV => HpN.out V) ?_
  simp only [Act.put, List.setIfInBounds_toArray, List.set_cons_succ, List.set_cons_zero]
  refine wpOC_free ?_
  repeat (go_big_quiet_step (fail))
  refine wpQuiet_nil ?_
  intro Wa hxa
  go_wp2_with fail
  have hpa := hxa.size
  have haa := heap_alloc_new Wa (.cells #[.int .i64 0, .int .i64 0, .int .i64 0, .int .i64 0, .int .i64 0, .int .i64 0] 63)
  have hxa' := hxa.alloc (.cells #[.int .i64 0, .int .i64 0, .int .i64 0, .int .i64 0, .int .i64 0, .int .i64 0] 63)
  generalize Wa.alloc (.cells #[.int .i64 0, .int .i64 0, .int .i64 0, .int .i64 0, .int .i64 0, .int .i64 0] 63) = Wa' at *
  generalize Wa.heap.size = pa at *
  refine ⟨fun V => Ext W V ∧ V.heap[pa]? = some (.cells #[.int .i64 0, .int .i64 0, .int .i64 0, .int .i64 0, .int .i64 0, .int .i64 0] 63 (0, 0)), (EC.ext W).and (EC.heap pa _), fun _ h => h.1, ⟨hxa', haa⟩, ?_⟩
  clear hxa hxa' haa Wa Wa'
  rintro Wb ⟨hxb, hab⟩
  refine wpOT_one ?_
  obtain ⟨j0, j1⟩ := (Ext.refl Wb).box hab
  have hlb := heap_lt hab
  go_wp2_with fail
  refine wpOT_done ?_
  have hx2 := six_ext (a' := .int .i64 dl) (b' := .int .i64 dh) (c' := .int .i64 el) (d' := .int .i64 eh) (e' := .int .i64 nl) (f' := .int .i64 nh) hxb hpa
  have hb2 := six_at (a' := .int .i64 dl) (b' := .int .i64 dh) (c' := .int .i64 el) (d' := .int .i64 eh) (e' := .int .i64 nl) (f' := .int .i64 nh) hab
  generalize (((((Wb.setCell ⟨pa, 0, none⟩ (.int .i64 dl)).setCell ⟨pa, 1, none⟩ (.int .i64 dh)).setCell ⟨pa, 2, none⟩ (.int .i64 el)).setCell ⟨pa, 3, none⟩ (.int .i64 eh)).setCell ⟨pa, 4, none⟩ (.int .i64 nl)).setCell ⟨pa, 5, none⟩ (.int .i64 nh) = W2 at *
  clear hab j0 j1 hlb hxb
  obtain ⟨z2, _⟩ := (Ext.refl W2).box (hx2.heap H4.out)
  obtain ⟨y2, _⟩ := (Ext.refl W2).box hb2
  clear Hat0 Hat1 Hat2 Hat3 Hat4 Hat5 HpD HpE HpN
  obtain ⟨A, d, hA, hcase⟩ : ∃ A d, marchOf l ⟨⟨dl, dh⟩, ⟨el, eh⟩, ⟨nl, nh⟩⟩ = (A, d) ∧ (d = 9 ∨ d = 0 ∧ ∃ E N E' N' : Span, boundsOf (movedOf l ⟨⟨d0, d1⟩, ⟨e0, e1⟩, ⟨n0, n1⟩⟩) = (E, N, 0) ∧ A = movedOf l ⟨⟨dl, dh⟩, ⟨el, eh⟩, ⟨nl, nh⟩⟩ ∧ boundsOf (movedOf l ⟨⟨dl, dh⟩, ⟨el, eh⟩, ⟨nl, nh⟩⟩) = (E', N', 0) ∧ E'.inner E ∧ N'.inner N) := by
    cases Hkn.out with
    | none c hc h => exact absurd (congrArg Prod.snd (h.symm.trans Hmo.out)) (by rcases hc with rfl | rfl <;> simp)
    | full h h2 => exact ⟨[], 9, h2, .inl rfl⟩
    | some E N E' N' h h2 hb hb' he hn => exact ⟨_, 0, h2, .inr ⟨rfl, E, N, E', N', hb, rfl, hb', he, hn⟩⟩
  obtain ⟨n, hn⟩ : ∃ n, A.length = n := ⟨_, rfl⟩
  have hm := Hm1.out A d n hA hn
  have Hm := Lib.hid hm
  clear hm
  clear Hm1
  go_upto_region 11 with (go_at_call 30; refine (Hm.out _ hx2).mono ?_; rintro e w3 ⟨b3, c3, rfl, s3, t3, hx3, hH3, _⟩)
  rcases hcase with rfl | ⟨rfl, E, N, E', N', hE, rfl, hE', iE, iN⟩
  · have hx4 := (hx2.trans hx3).alloc (.cells #[.slice b3 n c3] 24)
    go_upto_if 117 with fail
    go_step
    go_step
    go_step
    go_step
    exact HT.out _ hx4
  · obtain ⟨p0, p1⟩ := E
    obtain ⟨q0, q1⟩ := N
    obtain ⟨r0, r1⟩ := E'
    obtain ⟨v0, v1⟩ := N'
    have hb1 := Hbd.out _ _ _ _ hE
    have hb2 := fun W' hL => Hbd2.out _ _ _ _ _ hE' b3 c3 W' hL s3 t3
    have hin1 := innerYes_any iE
    have hin2 := innerYes_any iN
    simp only at hin1 hin2
    have hx4 := (hx2.trans hx3).alloc (.cells #[.slice b3 n c3] 24)
    have hH4 := hH3.ext ((Ext.refl w3).alloc (.cells #[.slice b3 n c3] 24))
    have hb4 := heap_alloc_new w3 (.cells #[.slice b3 n c3] 24)
    generalize w3.alloc (.cells #[.slice b3 n c3] 24) = W4 at *
    generalize w3.heap.size = i13 at *
    obtain ⟨z4, _⟩ := (Ext.refl W4).box (hx4.heap H10.out)
    have Hb1 := Lib.hid hb1
    have Hb2 := Lib.hid hb2
    have Hin1 := Lib.hid hin1
    have Hin2 := Lib.hid hin2
    have HH4 := Lib.hid hH4
    have Hb4 := Lib.hid hb4
    clear hb1 hb2 hin1 hin2 hH4 hb4
    clear hx2 hx3 hH3 y2 z2 hE hE' hA hn Hbd Hbd2
    go_upto_region 14 with (go_at_call 24; first
      | (have q := hx5; clear q; refine (Hb2.out _ (HH4.out.ext ((hx5.alloc _).alloc _))).mono ?_; rintro e w6 ⟨rfl, hx6⟩)
      | (refine (Hb1.out _ hx4).mono ?_; rintro e w5 ⟨rfl, hx5⟩; obtain ⟨z5, _⟩ := (Ext.refl w5).box (hx5.heap Hb4.out); have l5 := heap_lt (hx5.heap Hb4.out)))
    have hx67 := ((Ext.refl w6).alloc (.cells #[.int .i64 r0, .int .i64 r1] 28)).alloc (.cells #[.int .i64 v0, .int .i64 v1] 28)
    have g15 := hx67.heap (hx6.heap (((Ext.refl _).alloc _).heap (heap_alloc_new w5 (.cells #[.int .i64 p0, .int .i64 p1] 28))))
    have g16 := hx67.heap (hx6.heap (alloc_at (w5.alloc (.cells #[.int .i64 p0, .int .i64 p1] 28)) (.cells #[.int .i64 q0, .int .i64 q1] 28) (w5.heap.size + 1) (by simp)))
    have g18 := ((Ext.refl _).alloc (.cells #[.int .i64 v0, .int .i64 v1] 28)).heap (heap_alloc_new w6 (.cells #[.int .i64 r0, .int .i64 r1] 28))
    have g19 := alloc_at (w6.alloc (.cells #[.int .i64 r0, .int .i64 r1] 28)) (.cells #[.int .i64 v0, .int .i64 v1] 28) (w6.heap.size + 1) (by simp)
    have hx8 := ((hx4.trans ((hx5.alloc _).alloc _)).trans hx6).trans hx67
    generalize (w6.alloc (.cells #[.int .i64 r0, .int .i64 r1] 28)).alloc (.cells #[.int .i64 v0, .int .i64 v1] 28) = W8 at *
    generalize w6.heap.size = i18 at *
    generalize w5.heap.size = i15 at *
    generalize i18 + 1 = i19 at *
    generalize i15 + 1 = i16 at *
    obtain ⟨z8, _⟩ := (Ext.refl W8).box g15
    obtain ⟨y8, _⟩ := (Ext.refl W8).box g18
    clear hx4 hx5 hx6 hx67 z5 l5 z4
    go_upto_if 115 with (go_at_call 47; first
      | (have q := hx9; clear q; refine (Hin2.out _).mono ?_; rintro e w10 ⟨rfl, hx10⟩)
      | (refine (Hin1.out _).mono ?_; rintro e w9 ⟨rfl, hx9⟩; obtain ⟨z9, _⟩ := (Ext.refl w9).box (hx9.heap g19); obtain ⟨y9, _⟩ := (Ext.refl w9).box (hx9.heap g16); clear z8 y8))
    go_step
    go_step
    go_step
    go_step
    exact HT.out _ ((hx8.trans hx9).trans hx10)
end Go.Proofs.Ytacdndehlkaaeaa
