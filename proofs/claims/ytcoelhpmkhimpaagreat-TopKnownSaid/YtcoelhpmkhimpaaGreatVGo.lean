/- What is known of whether a place is near. -/
import Derived.Test.YtcoelhpmkhimpaaGreatVGn
import Derived.RangeFuncWrites
import Derived.Test.YtcoelhpmkhimpaaGreatVGm
import Derived.Test.YtcoelhpmkhimpaaGreatVGb
namespace Go.Proofs.YtcoelhpmkhimpaaGreat
open Go.RowKit
set_option linter.unusedVariables false
set_option linter.unusedSimpArgs false
attribute [local go_sem] Oper.semAt_some

structure NearOk (x y far : Int) : Prop where
  x0 : -10000000 ≤ x
  x1 : x ≤ 10000000
  y0 : -10000000 ≤ y
  y1 : y ≤ 10000000
  f0 : 0 ≤ far
  f1 : far ≤ 10000000
theorem nearOk_of {x y far : Int} (h : (placeOk x && placeOk y && inB far 0 10000000) = true) : NearOk x y far := by
  simp only [placeOk, inB, Bool.and_eq_true, decide_eq_true_eq] at h
  exact ⟨h.1.1.1, h.1.1.2, h.1.2.1, h.1.2.2, h.2.1, h.2.2⟩
theorem NearOk.halves {x y far : Int} (h : NearOk x y far) : ∀ k ∈ around x y far, HalfIn k := by
  refine around_ok ?_
  simp only [placeOk, inB, Bool.and_eq_true, decide_eq_true_eq]
  obtain ⟨a, b, c, d, e, f⟩ := h
  exact ⟨⟨⟨a, b⟩, c, d⟩, e, f⟩
theorem around_any (x y far : Int) (w : World) (h : NearOk x y far) : Calls Tryz.prog 57 #[.int .i64 x, .int .i64 y, .int .i64 far] w (NewHalves (around x y far) w) := by
  obtain ⟨x0, x1, y0, y1, f0, f1⟩ := h
  have hb := box_any ⟨x - far, x + far⟩ ⟨y - far, y + far⟩ w ⟨by simp only; omega, by simp only; omega⟩ ⟨by simp only; omega, by simp only; omega⟩ ⟨by simp only; omega, by simp only; omega⟩ ⟨by simp only; omega, by simp only; omega⟩
  unfold Span.val at hb
  simp only at hb
  have e : around x y far = box ⟨x - far, x + far⟩ ⟨y - far, y + far⟩ := rfl
  rw [← e] at hb
  have Hb := Lib.hid hb
  clear hb
  clear e
  go_enter Tryz.func57, Tryz.ntmps57
  go_wp2_with (go_at_call 44; refine Hb.out.mono ?_; rintro e w1 ⟨b, rfl, h1, h2, h3⟩)
  go_ret
  exact ⟨b, rfl, h1, h2, h3⟩
/-- two lists that have just been built into a slice -/
theorem lists2 {w : World} {b : Nat} {a a' : Option Addr} {n n' c c' : Nat} {l m : List Half} (hb : w.heap[b]? = some (.cells #[.slice a n c, .slice a' n' c'] 22 (0, 0))) (h1 : HalvesAt w a n l) (h2 : HalvesAt w a' n' m) (hc1 : n ≤ c) (hm1 : c ≤ maxLen) (hc2 : n' ≤ c') (hm2 : c' ≤ maxLen) : ListsAt w (some ⟨b, 0, none⟩) 2 [l, m] := by
  refine ⟨rfl, fun _ => ⟨b, 0, rfl, fun k r hk => ?_⟩⟩
  match k, hk with
  | 0, hk =>
    cases hk
    exact ⟨a, n, c, fun j v hv => by
      match j, hv with
      | 0, hv => cases hv; rw [cell_of_row w b _ _ 22 (0, 0) hb]; rfl, hc1, hm1, h1⟩
  | 1, hk =>
    cases hk
    exact ⟨a', n', c', fun j v hv => by
      match j, hv with
      | 0, hv => cases hv; rw [cell_of_row w b _ _ 22 (0, 0) hb]; rfl, hc2, hm2, h2⟩
def AllIn (A : List Half) (pre : List GC) : Prop := ∀ c ∈ vals pre, (A.all fun h => inH h c) = true
def OutOf (A : List Half) (pre : List GC) : Prop := ∃ c ∈ vals pre, (A.all fun h => inH h c) = false
theorem Ext.keeps {A B : World} (h : Ext A B) (n : Nat) : KeepsFrom n A B := ⟨h.size, fun k o _ hk _ => h.heap hk⟩
set_option maxRecDepth 100000 in
set_option maxHeartbeats 4000000 in
theorem near_any (a : Option Addr) (len cap : Nat) (l : List Half) (x y far : Int) (w : World) (hl : HalvesAt w a len l) (hl0 : 0 < len) (hlen : len ≤ 900) (hcap : len ≤ cap) (hcm : cap ≤ maxLen) (hh : ∀ h ∈ l, HalfIn h) (hn : NearOk x y far) :
    Calls Tryz.prog 37 #[.slice a len cap, .int .i64 x, .int .i64 y, .int .i64 far] w fun e w' => e = .returned (.int .u8 (knownOf l x y far)) ∧ Ext w w' := by
  have har := around_any x y far w hn
  have hah := hn.halves
  have hal : (around x y far).length = 4 := rfl
  have hk : knownOf l x y far = if someB (l ++ around x y far) = false then 0 else if (cornersOf l).all (fun c => (around x y far).all fun h => inH h c) then 2 else 1 := rfl
  have hll := hl.1
  obtain ⟨lb, lo, _, rfl, _, hbl, _⟩ := hl.get 0 hl0
  generalize around x y far = A at *
  have hso := fun W b (hx : Ext w W) (cb : Nat) (hA : HalvesAt W (some ⟨cb, 0, none⟩) 4 A) (hb : W.heap[b]? = some (.cells #[.slice (some ⟨lb, lo, none⟩) len cap, .slice (some ⟨cb, 0, none⟩) 4 4] 22 (0, 0))) => some_any (some ⟨b, 0, none⟩) 2 2 [l, A] W (lists2 hb (hl.ext hx) hA hcap hcm (by omega) (by unfold maxLen; omega)) (by omega) (by simp; omega) (fun h hh' => by
    simp only [List.flatten_cons, List.flatten_nil, List.append_nil] at hh'
    rcases List.mem_append.1 hh' with h1 | h1
    · exact hh h h1
    · exact hah h h1)
  simp only [List.flatten_cons, List.flatten_nil, List.append_nil] at hso
  cases hs : someB (l ++ A) with
  | false =>
    rw [hs] at hso
    rw [hk, if_pos hs]
    have Har := Lib.hid har
    have Hso := Lib.hid hso
    clear har hso
    clear hl hh hah hk
    go_enter Tryz.func37, Tryz.ntmps37
    go_wp2_with fail
    go_step3
    go_wp2_with (first | (go_at_call 57; refine Har.out.mono ?_; rintro e w1 ⟨cb, rfl, hcb, hx1, hb1⟩; rw [hal]; have hA1 := halves_block A hb1; rw [hal] at hA1) | (go_at_call 47; refine (Hso.out _ _ ((hx1.alloc _).alloc _) cb (hA1.ext (((Ext.refl _).alloc _).alloc _)) (alloc_at _ _ _ (by simp))).mono ?_; rintro e w2 ⟨rfl, hx2⟩))
    try rw [Exit.noGoto_ret]
    go_ret
    exact ⟨rfl, ((hx1.alloc _).alloc _).trans hx2⟩
  | true =>
    rw [hs] at hso
    rw [hk, if_neg (by rw [hs]; simp)]
    have Har := Lib.hid har
    have Hso := Lib.hid hso
    have Hl := Lib.hid hl
    have Hh := Lib.hid hh
    have Hah := Lib.hid hah
    have Hll := Lib.hid hll
    clear har hso hl hh hah hll
    clear hk hs
    refine (callsIn_wide (n := 3)).1 ?_
    refine callsIn_of_wp_marks Tryz.func37 rfl trivial ?_ rfl
    simp only [Tryz.ntmps37, List.size_toArray, List.length_cons, List.length_nil, Nat.reduceAdd, Nat.reduceSub, Array.replicate_succ, Array.replicate_zero, List.push_toArray, List.append_toArray, List.nil_append, List.cons_append]
    gi_wp2
    refine wpIn_wide.2 (wp_scope_straight (wpIn_wide (n := 3).1 ?_))
    gi_wp2_with (first | (refine ⟨trivial, ?_⟩; gi_at_call 57; refine (callsIn_wide.2 Har.out).mono ?_; rintro e w1 ⟨cb, rfl, hcb, hx1, hb1⟩; rw [hal]; have hA1 := halves_block A hb1; rw [hal] at hA1) | (refine ⟨trivial, ?_⟩; gi_at_call 47; refine (callsIn_wide.2 (Hso.out _ _ ((hx1.alloc _).alloc _) cb (hA1.ext (((Ext.refl _).alloc _).alloc _)) (alloc_at _ _ _ (by simp)))).mono ?_; rintro e w2 ⟨rfl, hx2⟩))
    refine wpIn_label ?_
    have hx2' : Ext w w2 := (((hx1.alloc _).alloc _).trans hx2)
    have hx12 : Ext w1 w2 := (((Ext.refl w1).alloc _).alloc _).trans hx2
    have hA2 := hA1.ext hx12
    have hclo : w2.heap[w1.heap.size]? = some (.cells #[.slice (some ⟨cb, 0, none⟩) 4 4] 22 (0, 0)) := hx2.heap (((Ext.refl _).alloc _).heap (heap_alloc_new w1 _))
    have hsz12 : w1.heap.size < w2.heap.size := heap_lt hclo
    have hcbl : cb < w1.heap.size := heap_lt hb1
    gi_wp2_with (refine ⟨trivial, ?_⟩; gi_at_call 58; refine (callsIn_wide.2 (corners_any _ _ _ _)).mono ?_; rintro e w3 ⟨rfl, rfl⟩)
    obtain ⟨W0, hW0⟩ : ∃ W0, (w2.alloc (.cells #[.int .u8 2] 5)).alloc (.cells #[.slice (some ⟨lb, lo, none⟩) len cap] 22) = W0 := ⟨_, rfl⟩
    have hx20 : Ext w2 W0 := by rw [← hW0]; exact ((Ext.refl _).alloc _).alloc _
    have hkb0 : W0.heap[w2.heap.size]? = some (.cells #[.int .u8 2] 5 (0, 0)) := by rw [← hW0]; exact ((Ext.refl _).alloc _).heap (heap_alloc_new w2 _)
    have hcp0 : W0.heap[w2.heap.size + 1]? = some (.cells #[.slice (some ⟨lb, lo, none⟩) len cap] 22 (0, 0)) := by rw [← hW0]; exact alloc_at _ _ _ (by simp)
    have hclo0 := hx20.heap hclo
    have hA0 := hA2.ext hx20
    have hx0 := hx2'.trans hx20
    have hl0' := Hl.out.ext hx0
    have hkbl : w2.heap.size < W0.heap.size := heap_lt hkb0
    have hwl : w.heap.size ≤ w1.heap.size := hx1.size
    rw [hW0]
    clear hW0
    refine wpIn_rangeFunc_ownH rfl (by omega) (gf := 85) (lb := #[.pointer (some ⟨w2.heap.size + 1, 0, none⟩)]) rfl trivial (enters_of Tryz.func85 (by kernel_rfl) rfl)
      (corners_stops _ (w2.heap.size + 1) (some ⟨lb, lo, none⟩) len cap l (fun b => b = w2.heap.size) W0 hcp0 hl0' Hh.out (by omega) hcap hcm (by omega) (fun x hx => by cases hx; simp only; omega) (fun b hb => by omega)) kpO_t kpO_b (Below.refl _ _) (fun _ => rfl)
      (fun pre W => AllIn A pre ∧ Ext W0 W)
      (fun c pre W => c = .exit 0 ∧ OutOf A pre ∧ W.heap[w2.heap.size]? = some (.cells #[.int .u8 1] 5 (0, 0)) ∧ Ext w W)
      (fun s A' B row hs hg hr => ⟨hs.1, ext_own (Nat.le_refl _) s A' B row hs.2 hg hr⟩)
      (fun c s A' B row hs hg hr => ⟨hs.1, hs.2.1, heap_own hs.2.2.1 hg hr, ext_own hx0.size s A' B row hs.2.2.2 hg hr⟩)
      ⟨fun c hc => (by cases hc), Ext.refl _⟩
      (fun q a' W => ∃ Bx, W0.heap.size ≤ Bx ∧ W.heap[Bx]? = some (.cells #[.int .i64 q.1.x, .int .i64 q.1.y, .int .i64 q.1.d] 122 (0, 0)) ∧ a' = { tmps := #[.slice (some ⟨lb, lo, none⟩) len cap, .int .i64 x, .int .i64 y, .int .i64 far, undef, undef, undef, undef, .int .u8 0, .pointer (some ⟨w1.heap.size, 0, none⟩), .pointer (some ⟨w2.heap.size, 0, none⟩), .pointer (some ⟨Bx, 0, none⟩), undef, undef, .int .i64 x, .int .i64 y, .int .i64 far, .slice (some ⟨cb, 0, none⟩) 4 4, .slice (some ⟨lb, lo, none⟩) len cap, .slice (some ⟨cb, 0, none⟩) 4 4, .slice (some ⟨w1.heap.size + 1, 0, none⟩) 2 2, .bool true, .bool false, .slice (some ⟨lb, lo, none⟩) len cap, .func (.func 85) #[] #[.pointer (some ⟨w2.heap.size + 1, 0, none⟩)], q.1.val, undef, undef, undef, undef, undef, undef, undef, undef, undef, undef, undef, undef, undef, undef, undef, undef, undef, undef, undef, undef, undef, undef, undef, undef, undef], defers := [] })
      (fun q a' s A' B row hs hg hr => let ⟨Bx, h1, h2, h3⟩ := hs; ⟨Bx, h1, heap_own h2 hg hr, h3⟩) ?assign ?body ?done ?stop
    case assign =>
      intro l' pre q W K hI hK
      obtain ⟨⟨cx, cy, cd⟩, hq⟩ := q
      simp only [Corner.val]
      gi_wp2
      have hxa : Ext W (W.alloc (.cells #[.int .i64 cx, .int .i64 cy, .int .i64 cd] 122)) := (Ext.refl _).alloc _
      exact hK _ _ (hxa.keeps _) (hxa.kpO _) ⟨hI.1, hI.2.trans hxa⟩ ⟨W.heap.size, hI.2.size, heap_alloc_new _ _, rfl⟩
    case body =>
      rintro l' pre q a' W hl' hr' ⟨hall, hxw⟩ ⟨Bx, hBx, hbx, rfl⟩ hN
      obtain ⟨⟨cx, cy, cd⟩, hci, hcd⟩ := q
      obtain ⟨x0, x1, y0, y1, d0, d1⟩ := hci
      simp only at x0 x1 y0 y1 d0 d1 hcd hbx
      have hclo1 := hxw.heap hclo0
      have hkb1 := hxw.heap hkb0
      have hA1' := hA0.ext hxw
      have hBl : Bx < W.heap.size := heap_lt hbx
      obtain ⟨f0, _⟩ := (Ext.refl W).box hclo1
      have hx0w := hx0.trans hxw
      have Hall := Lib.hid hall
      have Hxw := Lib.hid hxw
      have Hkb1 := Lib.hid hkb1
      have HA1' := Lib.hid hA1'
      have Hx0w := Lib.hid hx0w
      have Hbx := Lib.hid hbx
      clear hall hxw hkb1 hA1' hx0w hbx
      simp only [Corner.val]
      gi_wp2
      gi_loopw [28] (fun i wi => ∃ k : Nat, k ≤ 4 ∧ i = .int .i64 k ∧ Ext W wi ∧ ∀ (j : Nat) (h : Half), j < k → A[j]? = some h → inH h ⟨cx, cy, cd⟩ = true) (fun i _ => 4 - (intOf i).toNat)
      case atStart => exact ⟨0, Nat.zero_le _, rfl, Ext.refl _, fun j h hj => by omega⟩
      case round =>
        obtain ⟨k, hk, rfl, hxi, hin⟩ := hrel
        by_cases hlt : k < 4
        · have hltB : decide ((k : Int) < 4) = true := by simp; omega
          obtain ⟨hb', ho', h, e, hhk, _, c0, c1, c2⟩ := (HA1'.out.ext hxi).get k hlt
          cases e
          simp only [Nat.zero_add] at c0 c1 c2
          obtain ⟨a0, a1, b0, b1, _, e0, e1⟩ := Hah.out h (List.mem_of_getElem? hhk)
          have m1 := mul_le (A := 1000) (B := 200000000000000) a0 a1 x0 x1
          have m2 := mul_le (A := 1000) (B := 200000000000000) b0 b1 y0 y1
          have m3 := mul_le (A := 100000000000) (B := 2000000) e0 e1 (show -2000000 ≤ cd by omega) d1
          simp only [Int.reduceMul, Int.reduceNeg] at m1 m2 m3
          obtain ⟨P1, p1⟩ : ∃ P, h.a * cx = P := ⟨_, rfl⟩
          obtain ⟨P2, p2⟩ : ∃ P, h.b * cy = P := ⟨_, rfl⟩
          obtain ⟨P3, p3⟩ : ∃ P, h.c * cd = P := ⟨_, rfl⟩
          have hinq : inH h ⟨cx, cy, cd⟩ = decide (P1 + P2 ≤ P3) := by unfold inH; simp only [p1, p2, p3]
          rw [p1] at m1
          rw [p2] at m2
          rw [p3] at m3
          obtain ⟨g0, _⟩ := hxi.box Hbx.out
          have hBl2 : Bx < wr.heap.size := Nat.lt_of_lt_of_le hBl hxi.size
          obtain ⟨k0, k1⟩ := hxi.box Hkb1.out
          have hkl2 : w2.heap.size < wr.heap.size := heap_lt (hxi.heap Hkb1.out)
          by_cases hle : P1 + P2 ≤ P3
          · have hB : decide (P3 < P1 + P2) = false := decide_eq_false (by omega)
            rw [decide_eq_true hle] at hinq
            have Hinq := Lib.hid hinq
            have Hxi := Lib.hid hxi
            have Hin := Lib.hid hin
            have Hhk := Lib.hid hhk
            clear hinq hxi hin hhk
            gi_wp2
            go_roundw
            case rel => exact ⟨k + 1, by omega, by go_num, Hxi.out.alloc _, fun j g hj hg => by
              rcases Nat.lt_or_ge j k with h' | h'
              · exact Hin.out j g h' hg
              · obtain rfl : j = k := by omega
                rw [Hhk.out] at hg
                cases hg
                exact Hinq.out⟩
            case measure => simp [intOf]; omega
          · have hB : decide (P3 < P1 + P2) = true := decide_eq_true (by omega)
            rw [decide_eq_false hle] at hinq
            have hbad : (A.all fun g => inH g ⟨cx, cy, cd⟩) = false := by
              rw [List.all_eq_false]
              exact ⟨h, List.mem_of_getElem? hhk, by rw [hinq]; simp⟩
            have hxa := hxi
            have hka := hxa.heap Hkb1.out
            have hx0a := Hx0w.out.trans hxa
            have Hbad := Lib.hid hbad
            have Hxa := Lib.hid hxa
            have Hka := Lib.hid hka
            have Hx0a := Lib.hid hx0a
            clear hbad hxa hka hx0a
            clear hinq hxi hin hhk
            gi_wp2
            show KeepsFrom _ _ _ ∧ (Code.exit 0 = Code.exit 0) ∧ OutOf A _ ∧ _ ∧ Ext w _
            refine ⟨?_, rfl, ⟨⟨cx, cy, cd⟩, by rw [vals_snoc]; simp, Hbad.out⟩, ?_, ?_⟩
            · exact ((Hxa.out.keeps W0.heap.size).trans ((KeepsOthers.setCell _ ⟨w2.heap.size, 0, none⟩ _).from _)).trans ((KeepsOthers.alloc _ _).from _)
            · exact ((Ext.refl _).alloc _).heap (by rw [heap_setCell_box, Hka.out]; rfl)
            · exact (Hx0a.out.setCell (p := ⟨w2.heap.size, 0, none⟩) hx2'.size _).alloc _
        · have hltB : decide ((k : Int) < 4) = false := by simp; omega
          obtain rfl : k = 4 := by omega
          have hgood : (A.all fun g => inH g ⟨cx, cy, cd⟩) = true := by
            rw [List.all_eq_true]
            intro g hg
            obtain ⟨j, hj⟩ := List.mem_iff_getElem?.1 hg
            have := (List.getElem?_eq_some_iff.1 hj).1
            exact hin j g (by omega) hj
          have Hgood := Lib.hid hgood
          have Hxi := Lib.hid hxi
          clear hgood hxi
          clear hin
          rw [show ((4 : Nat) : Int) = 4 from rfl]
          gi_wp2
          refine ⟨Hxi.out.keeps _, Hxi.out.kpO _, fun c hc => ?_, Hxw.out.trans Hxi.out⟩
          rw [vals_snoc] at hc
          rcases List.mem_append.1 hc with hc | hc
          · exact Hall.out c hc
          · rw [List.mem_singleton.1 hc]
            exact Hgood.out
    case done =>
      rintro D qs W hD hqs ⟨hall, hxw⟩ hK
      have hkn : ((cornersOf l).all fun c => A.all fun h => inH h c) = true := by
        rw [← hqs, List.all_eq_true]
        exact hall
      obtain ⟨f0, _⟩ := hxw.box hkb0
      have hx0w := hx0.trans hxw
      have Hx0w := Lib.hid hx0w
      clear hx0w
      gi_wp2
      rw [Exit.noGoto_ret]
      refine ⟨by simp, .inl ⟨_, _, rfl, run_takeDeferred hK, ?_⟩⟩
      refine ⟨.int .u8 2, ?_, by rw [if_pos hkn], ext_taken Hx0w.out (by omega)⟩
      simp [results, Tryz.f37, go_sem]
    case stop =>
      rintro D c pre W hD hpre ⟨rfl, ⟨c, hc, hcb⟩, hr, hxw⟩ hK
      have hkn : ((cornersOf l).all fun c => A.all fun h => inH h c) = false := by
        rw [List.all_eq_false]
        exact ⟨c, hpre.subset hc, by rw [hcb]; simp⟩
      obtain ⟨f0, _⟩ := (Ext.refl W).box hr
      have Hxw := Lib.hid hxw
      clear hxw
      gi_wp2
      rw [Exit.noGoto_ret]
      refine ⟨by simp, .inl ⟨_, _, rfl, run_takeDeferred hK, ?_⟩⟩
      refine ⟨.int .u8 1, ?_, by rw [if_neg (by rw [hkn]; simp)], ext_taken Hxw.out (by have := hx0.size; omega)⟩
      simp [results, Tryz.f37, go_sem]
end Go.Proofs.YtcoelhpmkhimpaaGreat

/- Whether an area is valid. -/
namespace Go.Proofs.YtcoelhpmkhimpaaGreat
open Go.RowKit
set_option linter.unusedVariables false
set_option linter.unusedSimpArgs false

def bx0 : List Half := box zs zs
def abAt (l : List Half) (j : Nat) : Bool := isAB l j (bx0.getD j zh).a (bx0.getD j zh).b
theorem head4_all {l : List Half} (h : ∀ j, j < 4 → abAt l j = true) : head4 l = true := by
  have h0 := h 0 (by omega)
  have h1 := h 1 (by omega)
  have h2 := h 2 (by omega)
  have h3 := h 3 (by omega)
  unfold head4
  simp only [abAt, bx0, box, List.getD_cons_zero, List.getD_cons_succ] at h0 h1 h2 h3
  rw [h0, h1, h2, h3]
  rfl
theorem head4_not {l : List Half} {j : Nat} (hj : j < 4) (h : abAt l j = false) : head4 l = false := by
  unfold head4
  match j, hj with
  | 0, _ => simp only [abAt, bx0, box, List.getD_cons_zero, List.getD_cons_succ] at h; rw [h]; simp
  | 1, _ => simp only [abAt, bx0, box, List.getD_cons_zero, List.getD_cons_succ] at h; rw [h]; simp
  | 2, _ => simp only [abAt, bx0, box, List.getD_cons_zero, List.getD_cons_succ] at h; rw [h]; simp
  | 3, _ => simp only [abAt, bx0, box, List.getD_cons_zero, List.getD_cons_succ] at h; rw [h]; simp
theorem heap_lt' {w : World} {b : Nat} {o : Obj} (h : w.heap[b]? = some o) : b < w.heap.size := (Array.getElem?_eq_some_iff.1 h).1
set_option maxRecDepth 100000 in
set_option maxHeartbeats 4000000 in
theorem gcheck_any (a : Option Addr) (len cap : Nat) (l : List Half) (w : World) (hl : HalvesAt w a len l) (hlen : len ≤ 9223372036854775807) :
    Calls Tryz.prog 45 #[.agg #[.slice a len cap]] w fun e w' => e = .returned (.int .i64 (checkOf l)) ∧ Ext w w' := by
  have hll := hl.1
  have hf1 := fun W k hb => from1 4 40 len W k hb
  have hx1 : Ext w (w.alloc (.cells #[.slice a len cap] 24)) := (Ext.refl _).alloc _
  have hb1 := heap_alloc_new w (.cells #[.slice a len cap] 24)
  by_cases hr : 4 ≤ len ∧ len ≤ 40
  case neg =>
    have hin : inB (len : Int) 4 40 = false := by simp [inB]; omega
    have hc : checkOf l = 40 := by
      unfold checkOf areaOk
      rw [if_neg]
      simp only [Bool.and_eq_true, decide_eq_true_eq, not_and]
      omega
    rw [hin] at hf1
    rw [hc]
    have Hf1 := Lib.hid hf1
    have Hx1 := Lib.hid hx1
    clear hf1 hx1
    clear hl hll hin hc hb1
    go_enter Tryz.func45, Tryz.ntmps45
    go_wp2_with (go_at_call 54; refine (Hf1.out _ _ (alloc_at _ _ _ (by simp))).mono ?_; rintro e w1 ⟨rfl, hx2⟩)
    go_ret
    exact ⟨rfl, (Hx1.out.alloc _).trans hx2⟩
  case pos =>
    have hin : inB (len : Int) 4 40 = true := by simp [inB]; omega
    rw [hin] at hf1
    have hbox := fun W => box_any zs zs W ⟨by decide, by decide⟩ ⟨by decide, by decide⟩ ⟨by decide, by decide⟩ ⟨by decide, by decide⟩
    have hev := fun W (hW : Ext w W) => every_half0 72 (enters_of Tryz.func72 (by kernel_rfl) rfl) a len cap l halfOk W (hl.ext hW) (by omega) (fun o _ W' _ => half_any o W')
    have hc : checkOf l = if head4 l && l.all halfOk then 0 else 40 := by
      unfold checkOf areaOk
      rw [show decide (4 ≤ l.length) = true from decide_eq_true (by omega), show decide (l.length ≤ 40) = true from decide_eq_true (by omega)]
      rfl
    obtain ⟨R, hR⟩ : ∃ R, (if head4 l && l.all halfOk then (0 : Int) else 40) = R := ⟨_, rfl⟩
    rw [hc, hR]
    obtain ⟨lb, lo, _, rfl, _, _, _⟩ := hl.get 0 (by omega)
    have e0 : Span.val zs = .agg #[.int .i64 0, .int .i64 0] := rfl
    rw [e0] at hbox
    have hbl : (box zs zs).length = 4 := rfl
    have Hf1 := Lib.hid hf1
    have Hx1 := Lib.hid hx1
    have Hbox := Lib.hid hbox
    have Hev := Lib.hid hev
    have Hl := Lib.hid hl
    have Hll := Lib.hid hll
    have Hb1 := Lib.hid hb1
    have HR := Lib.hid hR
    clear hf1 hx1 hbox hev hl hll hb1 hR
    clear hin hc e0
    go_enter Tryz.func45, Tryz.ntmps45
    go_upto_region 4 with (first | (go_at_call 54; refine (Hf1.out _ _ (alloc_at _ _ _ (by simp))).mono ?_; rintro e w1 ⟨rfl, hx2⟩; have hx3 := (Hx1.out.alloc (.cells #[.int .i64 len] 3)).trans hx2; have hb3 := (((Ext.refl _).alloc _).trans hx2).heap Hb1.out; clear Hf1) | (go_at_call 44; refine (Hbox.out _).mono ?_; rintro e w2 ⟨bb, rfl, hbb, hx4, hh4⟩))
    have hx5 := hx3.trans hx4
    have hb5 := hx4.heap hb3
    have hbh := halves_block _ hh4
    rw [hbl] at hbh
    have Hx5 := Lib.hid hx5
    have Hb5 := Lib.hid hb5
    have Hbh := Lib.hid hbh
    clear hx5 hb5 hbh
    clear hx2 hx3 hb3 hx4 hh4 hbb
    go_loopw [16] (fun i wr => ∃ k : Nat, k ≤ 4 ∧ i = .int .i64 k ∧ Ext w2 wr ∧ ∀ j, j < k → abAt l j = true) (fun i _ => 4 - (intOf i).toNat)
    case atStart => exact ⟨0, Nat.zero_le _, rfl, Ext.refl _, fun j hj => by omega⟩
    case round =>
      obtain ⟨k, hk, rfl, hx, hall⟩ := hrel
      by_cases hlt : k < 4
      · have hltB : decide ((k : Int) < 4) = true := by simp; omega
        obtain ⟨_, _, h, e, hhk, _, c0, c1, c2⟩ := (Hbh.out.ext hx).get k hlt
        cases e
        simp only [Nat.zero_add] at c0 c1 c2
        obtain ⟨_, _, g, e, hgk, _, d0, d1, d2⟩ := (Hl.out.ext (Hx5.out.trans hx)).get k (by omega)
        cases e
        have hab : abAt l k = (g.a == h.a && g.b == h.b) := by
          have e1 : bx0.getD k zh = h := by unfold bx0; simp [List.getD, hhk]
          have e2 : l.getD k zh = g := by simp [List.getD, hgk]
          unfold abAt isAB
          rw [e1, e2]
        have hb6 := hx.heap Hb5.out
        have hx6 : Ext wr (wr.alloc (.cells #[.int .i64 h.a, .int .i64 h.b, .int .i64 h.c] 79)) := (Ext.refl _).alloc _
        have hn6 := heap_alloc_new wr (.cells #[.int .i64 h.a, .int .i64 h.b, .int .i64 h.c] 79)
        have hb7 := hx6.heap hb6
        have d0 := hx6.cell d0
        have d1 := hx6.cell d1
        have Hx := Lib.hid hx
        have Hall := Lib.hid hall
        have Hx6 := Lib.hid hx6
        clear hx hall hx6
        clear hhk hgk
        go_upto_region 6 with fail
        clear c0 c1 c2
        generalize wr.alloc (.cells #[.int .i64 h.a, .int .i64 h.b, .int .i64 h.c] 79) = W1 at *
        by_cases hA : h.a = g.a
        · have hAB : (h.a != g.a) = false := by rw [bne_eq_false_iff_eq]; exact hA
          by_cases hB : h.b = g.b
          · have hBB : (h.b != g.b) = false := by rw [bne_eq_false_iff_eq]; exact hB
            have hab' : abAt l k = true := by rw [hab, hA, hB]; simp
            have Hab' := Lib.hid hab'
            clear hab'
            clear hab hA hB
            refine wp_region_ext (by kernel_rfl) (by kernel_rfl) (fun f hf hs => ?_)
            have f0 := fun q => ((hf q).box hn6).1
            have f1 := fun q => ((hf q).box hb7).1
            have f2 := fun q => (hf q).cell d0
            have f3 := fun q => (hf q).cell d1
            clear hf hs
            repeat (go_big_quiet_step (fail))
            refine wpQuiet_nil ?_
            intro W8 hW8
            clear f0 f1 f2 f3
            go_wp2_with fail
            go_roundw
            case rel => exact ⟨k + 1, by omega, by go_num, (Hx.out.trans Hx6.out).trans hW8, fun j hj => by
              rcases Nat.lt_or_ge j k with h' | h'
              · exact Hall.out j h'
              · obtain rfl : j = k := by omega
                exact Hab'.out⟩
            case measure => simp [intOf]; omega
          · have hBB : (h.b != g.b) = true := by rw [bne_iff_ne]; exact hB
            have hab' : head4 l = false := head4_not hlt (by rw [hab]; simp; exact fun _ e => hB e.symm)
            have Hab' := Lib.hid hab'
            clear hab'
            clear hab hA hB
            refine wp_region_ext (by kernel_rfl) (by kernel_rfl) (fun f hf hs => ?_)
            have f0 := fun q => ((hf q).box hn6).1
            have f1 := fun q => ((hf q).box hb7).1
            have f2 := fun q => (hf q).cell d0
            have f3 := fun q => (hf q).cell d1
            clear hf hs
            repeat (go_big_quiet_step (fail))
            refine wpQuiet_nil ?_
            intro W8 hW8
            clear f0 f1 f2 f3
            go_wp2_with fail
            go_ret
            exact ⟨ret_int (by rw [← HR.out, Hab'.out]; rfl), ((Hx5.out.trans Hx.out).trans Hx6.out).trans hW8⟩
        · have hAB : (h.a != g.a) = true := by rw [bne_iff_ne]; exact hA
          have hab' : head4 l = false := head4_not hlt (by rw [hab]; simp; exact fun e _ => hA e.symm)
          have Hab' := Lib.hid hab'
          clear hab'
          clear hab hA
          refine wp_region_ext (by kernel_rfl) (by kernel_rfl) (fun f hf hs => ?_)
          have f0 := fun q => ((hf q).box hn6).1
          have f1 := fun q => ((hf q).box hb7).1
          have f2 := fun q => (hf q).cell d0
          have f3 := fun q => (hf q).cell d1
          clear hf hs
          repeat (go_big_quiet_step (fail))
          refine wpQuiet_nil ?_
          intro W8 hW8
          clear f0 f1 f2 f3
          go_wp2_with fail
          go_ret
          exact ⟨ret_int (by rw [← HR.out, Hab'.out]; rfl), ((Hx5.out.trans Hx.out).trans Hx6.out).trans hW8⟩
      · have hltB : decide ((k : Int) < 4) = false := by simp; omega
        obtain rfl : k = 4 := by omega
        have hh4 := head4_all hall
        have hb6 := hx.heap Hb5.out
        obtain ⟨f0, _⟩ := (Ext.refl wr).box hb6
        have hx7 := Hx5.out.trans hx
        have hev' := Hev.out wr hx7
        rw [show ((4 : Nat) : Int) = 4 from rfl]
        have Hx7 := Lib.hid hx7
        have Hh4 := Lib.hid hh4
        clear hx7 hh4
        clear hall Hev hx
        cases hal : l.all halfOk with
        | true =>
          rw [hal] at hev'
          have Hev' := Lib.hid hev'
          have Hal := Lib.hid hal
          clear hev' hal
          go_wp2_with (go_at_call 61; refine Hev'.out.mono ?_; rintro e w9 ⟨rfl, hx9⟩)
          go_ret
          exact ⟨ret_int (by rw [← HR.out, Hh4.out, Hal.out]; rfl), Hx7.out.trans hx9⟩
        | false =>
          rw [hal] at hev'
          have Hev' := Lib.hid hev'
          have Hal := Lib.hid hal
          clear hev' hal
          go_wp2_with (go_at_call 61; refine Hev'.out.mono ?_; rintro e w9 ⟨rfl, hx9⟩)
          go_ret
          exact ⟨ret_int (by rw [← HR.out, Hh4.out, Hal.out]; rfl), Hx7.out.trans hx9⟩
end Go.Proofs.YtcoelhpmkhimpaaGreat

/- What Finds notes after each trek. -/
namespace Go.Proofs.YtcoelhpmkhimpaaGreat
open Go.RowKit
set_option linter.unusedVariables false
set_option linter.unusedSimpArgs false
def NoteRel (B bF : Nat) (w w' : World) : Prop := Below B w w' ∧ ∀ b o, b ≠ bF → w.heap[b]? = some o → w'.heap[b]? = some o
theorem NoteRel.set {B bF : Nat} {w w' : World} (h : NoteRel B bF w w') (hB : B ≤ bF) (i : Nat) (u : Value) : NoteRel B bF w (w'.setCell ⟨bF, i, none⟩ u) :=
  ⟨h.1.setCell (p := ⟨bF, i, none⟩) hB u, fun b o hb hw => (Below.heap_setCell _ _ _ _ (by simp only; exact hb)).trans (h.2 b o hb hw)⟩
theorem NoteRel.trans {B bF : Nat} {w w' w'' : World} (h : NoteRel B bF w w') (k : NoteRel B bF w' w'') : NoteRel B bF w w'' :=
  ⟨h.1.trans k.1, fun b o hb hw => k.2 b o hb (h.2 b o hb hw)⟩
theorem noteRel_ext {B bF : Nat} {w w' : World} (h : Ext w w') (hB : B ≤ w.heap.size) : NoteRel B bF w w' := ⟨Below.mono h hB, fun b o _ hw => h.heap hw⟩
theorem known_012 (l : List Half) (x y far : Int) : knownOf l x y far = 0 ∨ knownOf l x y far = 1 ∨ knownOf l x y far = 2 := by
  unfold knownOf
  split
  · exact .inl rfl
  · split
    · exact .inr (.inr rfl)
    · exact .inr (.inl rfl)
set_option maxRecDepth 100000 in
set_option maxHeartbeats 4000000 in
theorem note_any (B n bn bx by' bf bF : Nat) (a : Option Addr) (len cap : Nat) (l : List Half) (x y far may sure : Int) (w : World) (hl : HalvesAt w a len l) (hl0 : 0 < len) (hlen : len ≤ 900) (hcap : len ≤ cap) (hcm : cap ≤ maxLen) (hh : ∀ h ∈ l, HalfIn h) (hn : NearOk x y far)
    (hb1 : w.heap[bn]? = some (.cells #[.slice a len cap] 22 (0, 0))) (hb2 : w.heap[bx]? = some (.cells #[.int .i64 x] 3 (0, 0))) (hb3 : w.heap[by']? = some (.cells #[.int .i64 y] 3 (0, 0))) (hb4 : w.heap[bf]? = some (.cells #[.int .i64 far] 3 (0, 0))) (hb5 : w.heap[bF]? = some (.cells #[.int .i64 0, .int .i64 may, .int .i64 sure] 86 (0, 0))) (hB : B ≤ bF) :
    Calls Tryz.prog 36 #[.int .i64 n, .pointer (some ⟨bn, 0, none⟩), .pointer (some ⟨bx, 0, none⟩), .pointer (some ⟨by', 0, none⟩), .pointer (some ⟨bf, 0, none⟩), .pointer (some ⟨bF, 0, none⟩)] w fun e w' => e = .returned (.tuple #[]) ∧ NoteRel B bF w w' ∧ w'.heap[bF]? = some (.cells #[.int .i64 0, .int .i64 (noteMay may (knownOf l x y far) n), .int .i64 (noteSure sure (knownOf l x y far) n)] 86 (0, 0)) := by
  have hnr := near_any a len cap l x y far w hl hl0 hlen hcap hcm hh hn
  have hk := known_012 l x y far
  generalize knownOf l x y far = k at *
  obtain ⟨K, rfl⟩ : ∃ K : Nat, k = K := ⟨k.toNat, by omega⟩
  have hK : K ≤ 2 := by omega
  obtain ⟨M, hM⟩ : ∃ M, noteMay may K n = M := ⟨_, rfl⟩
  obtain ⟨S, hS⟩ : ∃ S, noteSure sure K n = S := ⟨_, rfl⟩
  rw [hM, hS]
  obtain ⟨z1, _⟩ := (Ext.refl w).box hb1
  obtain ⟨z2, _⟩ := (Ext.refl w).box hb2
  obtain ⟨z3, _⟩ := (Ext.refl w).box hb3
  obtain ⟨z4, _⟩ := (Ext.refl w).box hb4
  have hsz := heap_lt hb5
  have Hnr := Lib.hid hnr
  have Hb5 := Lib.hid hb5
  clear hnr hb5
  clear hl hh hk
  go_enter Tryz.func36, Tryz.ntmps36
  go_upto_region 1 with (go_at_call 37; refine (Hnr.out).mono ?_; rintro e w1 ⟨rfl, hx1⟩)
  have hr1 : NoteRel B bF w w1 := noteRel_ext hx1 (by omega)
  have hb51 := hx1.heap Hb5.out
  clear Hnr hb1 hb2 hb3 hb4 z1 z2 z3 z4 hx1
  go_loopw [7] (fun v wr => ∃ (j : Nat) (m s : Int), j ≤ 2 ∧ v = .int .u8 j ∧ NoteRel B bF w wr ∧ wr.heap[bF]? = some (.cells #[.int .i64 0, .int .i64 m, .int .i64 s] 86 (0, 0)) ∧ noteMay m j n = M ∧ noteSure s j n = S) (fun v _ => (intOf v).toNat)
  case atStart => exact ⟨K, may, sure, hK, rfl, hr1, hb51, hM, hS⟩
  case round =>
    obtain ⟨j, m, s, hj, rfl, hr, hb, hm, hs⟩ := hrel
    obtain ⟨z5, z5'⟩ := (Ext.refl wr).box hb
    match j, hj with
    | 0, _ =>
      obtain rfl : m = M := by rw [← hm]; simp [noteMay]
      obtain rfl : s = S := by rw [← hs]; simp [noteSure]
      have Hr := Lib.hid hr
      have Hb := Lib.hid hb
      clear hr hb
      go_wp2_with fail
      go_end0
      exact ⟨rfl, Hr.out, Hb.out⟩
    | 1, _ =>
      by_cases h0 : m < 0
      · have h0B : decide (m < 0) = true := decide_eq_true h0
        have hm' : noteMay n 0 n = M := by rw [← hm]; simp only [noteMay]; (repeat' split) <;> omega
        have hs' : noteSure s 0 n = S := by rw [← hs]; simp only [noteSure]; (repeat' split) <;> omega
        have Hr := Lib.hid hr
        have Hb := Lib.hid hb
        have Hm' := Lib.hid hm'
        have Hs' := Lib.hid hs'
        clear hr hb hm' hs'
        clear hm hs
        go_wp2_with fail
        go_roundw
        case rel => exact ⟨0, n, s, by omega, by go_num, Hr.out.set hB _ _, by rw [heap_setCell_box, Hb.out]; rfl, Hm'.out, Hs'.out⟩
        case measure => simp [intOf]
      · have h0B : decide (m < 0) = false := decide_eq_false h0
        have hm' : noteMay m 0 n = M := by rw [← hm]; simp only [noteMay]; (repeat' split) <;> omega
        have hs' : noteSure s 0 n = S := by rw [← hs]; simp only [noteSure]; (repeat' split) <;> omega
        have Hr := Lib.hid hr
        have Hb := Lib.hid hb
        have Hm' := Lib.hid hm'
        have Hs' := Lib.hid hs'
        clear hr hb hm' hs'
        clear hm hs
        go_wp2_with fail
        go_roundw
        case rel => exact ⟨0, m, s, by omega, by go_num, Hr.out, Hb.out, Hm'.out, Hs'.out⟩
        case measure => simp [intOf]
    | 2, _ =>
      by_cases h0 : s < 0
      · have h0B : decide (s < 0) = true := decide_eq_true h0
        have hm' : noteMay m 1 n = M := by rw [← hm]; simp only [noteMay]; (repeat' split) <;> omega
        have hs' : noteSure n 1 n = S := by rw [← hs]; simp only [noteSure]; (repeat' split) <;> omega
        have Hr := Lib.hid hr
        have Hb := Lib.hid hb
        have Hm' := Lib.hid hm'
        have Hs' := Lib.hid hs'
        clear hr hb hm' hs'
        clear hm hs
        go_wp2_with fail
        go_roundw
        case rel => exact ⟨1, m, n, by omega, by go_num, Hr.out.set hB _ _, by rw [heap_setCell_box, Hb.out]; rfl, Hm'.out, Hs'.out⟩
        case measure => simp [intOf]
      · have h0B : decide (s < 0) = false := decide_eq_false h0
        have hm' : noteMay m 1 n = M := by rw [← hm]; simp only [noteMay]; (repeat' split) <;> omega
        have hs' : noteSure s 1 n = S := by rw [← hs]; simp only [noteSure]; (repeat' split) <;> omega
        have Hr := Lib.hid hr
        have Hb := Lib.hid hb
        have Hm' := Lib.hid hm'
        have Hs' := Lib.hid hs'
        clear hr hb hm' hs'
        clear hm hs
        go_wp2_with fail
        go_roundw
        case rel => exact ⟨1, m, s, by omega, by go_num, Hr.out, Hb.out, Hm'.out, Hs'.out⟩
        case measure => simp [intOf]
end Go.Proofs.YtcoelhpmkhimpaaGreat
