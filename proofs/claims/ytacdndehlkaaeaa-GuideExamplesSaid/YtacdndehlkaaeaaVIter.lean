/- The iterator over corners: its contract. -/
import Derived.RangeFuncBox
import Derived.RangeFuncLeaves
import Derived.RangeFuncNested
import Derived.OwnWalkIn
import Derived.TacticsInMore
import Derived.LoopNIn
import Derived.LoopIn
import Derived.Test.YtacdndehlkaaeaaVGr2
namespace Go.Proofs.Ytacdndehlkaaeaa
open Go.RowKit
set_option linter.unusedVariables false
set_option linter.unusedSimpArgs false
attribute [local go_sem] Oper.semAt_some

theorem heap_lt {w : World} {b : Nat} {o : Obj} (h : w.heap[b]? = some o) : b < w.heap.size := (Array.getElem?_eq_some_iff.1 h).1
/-- whatever cells are not in O's blocks lie as they lay -/
structure KpO (O : Nat → Prop) (W W' : World) : Prop where
  size : W.heap.size ≤ W'.heap.size
  block : ∀ b o, W.heap[b]? = some o → o.isCells = true → ¬O b → W'.heap[b]? = some o
theorem KpO.refl (O : Nat → Prop) (W : World) : KpO O W W := ⟨Nat.le_refl _, fun _ _ h _ _ => h⟩
theorem KpO.trans {O : Nat → Prop} {A B C : World} (h : KpO O A B) (k : KpO O B C) : KpO O A C := ⟨Nat.le_trans h.size k.size, fun b o hb hc hn => k.block b o (h.block b o hb hc hn) hc hn⟩
theorem Ext.kpO {A B : World} (h : Ext A B) (O : Nat → Prop) : KpO O A B := ⟨h.size, fun b o hb _ _ => h.heap hb⟩
theorem KpO.cells {O : Nat → Prop} {A B : World} (h : KpO O A B) {b : Nat} {cs : Array Value} {t : TypeId} {f : Nat × Nat} (hb : A.heap[b]? = some (.cells cs t f)) (hn : ¬O b) : B.heap[b]? = some (.cells cs t f) := h.block b _ hb rfl hn
theorem isCells_of_cell {w : World} {a : Addr} {v : Value} (h : w.cell? a = some v) : ∃ o, w.heap[a.block]? = some o ∧ o.isCells = true := by
  unfold World.cell? at h
  split at h
  · rename_i hb
    exact ⟨_, hb, rfl⟩
  · cases h
theorem KpO.cell {O : Nat → Prop} {A B : World} (h : KpO O A B) {a : Addr} {v : Value} (hc : A.cell? a = some v) (hn : ¬O a.block) : B.cell? a = some v := by
  obtain ⟨o, ho, hoc⟩ := isCells_of_cell hc
  exact (World.cell?_of_block ((h.block _ o ho hoc hn).trans ho.symm)).trans hc
theorem HalvesAt.kpO {O : Nat → Prop} {A B : World} {a : Option Addr} {n : Nat} {l : List Half} (h : HalvesAt A a n l) (k : KpO O A B) (hn : ∀ x, a = some x → ¬O x.block) : HalvesAt B a n l :=
  ⟨h.1, fun h0 => by
    obtain ⟨b, off, ha, hc⟩ := h.2 h0
    exact ⟨b, off, ha, fun i hi j v hv => k.cell (hc i hi j v hv) (show ¬O b from hn _ ha)⟩⟩
/-- a corner that may be handed to a loop's body -/
abbrev GC := { c : Corner // CornerIn c ∧ 0 < c.d }
def vals (l : List GC) : List Corner := l.map (·.1)
theorem vals_snoc (l : List GC) (x : GC) : vals (l ++ [x]) = vals l ++ [x.1] := by simp [vals]
/-- the corners of the first i halves, and of half i with the first j -/
def cornersTo (l : List Half) (i j : Nat) : List Corner := (List.range i).flatMap (cornersAt l) ++ ((l.take j).map (meet (l.getD i ⟨0, 0, 0⟩))).filter (okC l)
theorem cornersTo_next (l : List Half) (i : Nat) : cornersTo l (i + 1) 0 = cornersTo l i i := by
  simp only [cornersTo, List.take_zero, List.map_nil, List.filter_nil, List.append_nil, List.range_succ, List.flatMap_append, List.flatMap_cons, List.flatMap_nil]
  rfl
theorem cornersTo_step {l : List Half} {i j : Nat} {q : Half} (hq : l[j]? = some q) : cornersTo l i (j + 1) = cornersTo l i j ++ if okC l (meet (l.getD i ⟨0, 0, 0⟩) q) then [meet (l.getD i ⟨0, 0, 0⟩) q] else [] := by
  simp only [cornersTo, List.take_add_one, hq, Option.toList_some, List.map_append, List.map_cons, List.map_nil, List.filter_append, List.append_assoc]
  congr 1
  congr 1
  simp only [List.filter_cons, List.filter_nil]
theorem cornersTo_all (l : List Half) : cornersTo l l.length 0 = cornersOf l := by
  simp [cornersTo, cornersOf]
theorem cornersTo_pre (l : List Half) : ∀ i j, i < l.length → j ≤ i → cornersTo l i j <+: cornersOf l := by
  intro i j hi hj
  have h1 : cornersTo l i j <+: cornersTo l i i := by
    unfold cornersTo
    refine (List.prefix_append_right_inj _).2 ?_
    refine List.IsPrefix.filter _ (List.IsPrefix.map _ ?_)
    exact List.take_prefix_take_left hj
  refine h1.trans ?_
  have h2 : cornersTo l i i = (List.range (i + 1)).flatMap (cornersAt l) := by
    rw [← cornersTo_next]
    simp [cornersTo]
  rw [h2]
  have h3 : List.range l.length = List.range (i + 1) ++ (List.range (l.length - (i + 1))).map (i + 1 + ·) := by
    rw [← List.range_add]
    congr 1
    omega
  unfold cornersOf
  rw [h3, List.flatMap_append]
  exact List.prefix_append _ _
theorem corner_gc {l : List Half} (hl : ∀ h ∈ l, HalfIn h) {p q : Half} (hp : p ∈ l) (hq : q ∈ l) (h : okC l (meet p q) = true) : CornerIn (meet p q) ∧ 0 < (meet p q).d := by
  have := meet_bd (hl p hp) (hl q hq)
  have h2 := (okC_iff.1 h).1
  exact ⟨this, by have := this.2.2.2.2.1; omega⟩
set_option maxRecDepth 100000 in
set_option maxHeartbeats 4000000 in
theorem corners1_any (n : Nat) (y c : Nat) (a : Option Addr) (len cap : Nat) (l : List Half) (O : Nat → Prop) (W : World) (hc : W.heap[c]? = some (.cells #[.slice a len cap] 22 (0, 0))) (hl : HalvesAt W a len l) (hh : ∀ h ∈ l, HalfIn h) (hlen : len ≤ 1000) (hcap : len ≤ cap) (hcapm : cap ≤ maxLen)
    (hOc : ¬O c) (hOl : ∀ x, a = some x → ¬O x.block) (hO : ∀ b, O b → b < W.heap.size) (J Jx : List GC → World → Prop) (hJ : ∀ s A B, J s A → Ext A B → J s B)
    (hY : ∀ pre x W1, J pre W1 → pre.length < (cornersOf l).length → YieldAt Fence.wide (n - 1) Try.prog y #[x.1.val] W1 fun e W' =>
      (e = .returned (.bool true) ∧ J (pre ++ [x]) W' ∧ KpO O W1 W') ∨ (e = .returned (.bool false) ∧ Jx (pre ++ [x]) W'))
    (h0 : J [] W) :
    CallsIn Fence.wide n Try.prog 103 #[.func (.yield y) #[] #[], .pointer (some ⟨c, 0, none⟩)] W fun e W' => (∃ v, e = .returned v) ∧ ((∃ xs, vals xs = cornersOf l ∧ J xs W') ∨ (∃ pre, vals pre <+: cornersOf l ∧ Jx pre W')) := by
  have hll := hl.1
  unfold maxLen at hcapm
  have cc := ((Ext.refl W).box hc).1 0
  have Hc := Lib.hid hc
  have Hl := Lib.hid hl
  have Hh := Lib.hid hh
  have HOc := Lib.hid hOc
  have HOl := Lib.hid hOl
  have HO := Lib.hid hO
  have HJ := Lib.hid hJ
  have HY := Lib.hid hY
  have Hll := Lib.hid hll
  clear hc hl hh hOc hOl hO hJ hY hll
  refine callsIn_of_wp Try.func103 rfl trivial ?_ rfl
  simp only [Try.ntmps103, List.size_toArray, List.length_cons, List.length_nil, Nat.reduceAdd, Nat.reduceSub, Array.replicate_succ, Array.replicate_zero, List.push_toArray, List.append_toArray, List.nil_append, List.cons_append]
  gi_wp2
  gi_loopw [10] (fun i wr => ∃ (k : Nat) (pre : List GC), k ≤ len ∧ i = .int .i64 k ∧ J pre wr ∧ vals pre = cornersTo l k 0 ∧ KpO O W wr) (fun i _ => len - (intOf i).toNat)
  case atStart => exact ⟨0, [], Nat.zero_le _, rfl, h0, by simp [cornersTo, vals], KpO.refl _ _⟩
  case round =>
    obtain ⟨k, pre, hk, rfl, hj, hpre, hkp⟩ := hrel
    by_cases hlt : k < len
    · have hltB : decide ((k : Int) < (len : Int)) = true := by simp; omega
      have hlk := Hl.out.kpO hkp HOl.out
      obtain ⟨lb, lo, p, rfl, hpk, hlb, c0, c1, c2⟩ := hlk.get k hlt
      have hcw := hkp.cells Hc.out HOc.out
      have cc : wr.cell? ⟨c, 0, none⟩ = some (.slice (some ⟨lb, lo, none⟩) len cap) := ((Ext.refl wr).box hcw).1 0
      have hcl : c < wr.heap.size := heap_lt hcw
      have hx1 : Ext wr (wr.alloc (.cells #[.int .i64 p.a, .int .i64 p.b, .int .i64 p.c] 47)) := (Ext.refl _).alloc _
      have hpb := heap_alloc_new wr (.cells #[.int .i64 p.a, .int .i64 p.b, .int .i64 p.c] 47)
      have hj1 := HJ.out _ _ _ hj hx1
      have hk1 := hkp.trans (hx1.kpO O)
      have hpO : ¬O wr.heap.size := fun h => by have := HO.out _ h; have := hkp.size; omega
      have hkn : (k : Int) ≤ (cap : Int) := by omega
      have hpl := List.mem_of_getElem? hpk
      have hpd : l.getD k ⟨0, 0, 0⟩ = p := by simp [List.getD, hpk]
      have Hj1 := Lib.hid hj1
      have Hk1 := Lib.hid hk1
      have Hpb := Lib.hid hpb
      have HpO := Lib.hid hpO
      have Hpl := Lib.hid hpl
      have Hpd := Lib.hid hpd
      have Hpre := Lib.hid hpre
      clear hj1 hk1 hpb hpO hpl hpd hpre
      clear hj hkp hcw hlk hx1 hpk
      gi_wp2
      generalize wr.alloc (.cells #[.int .i64 p.a, .int .i64 p.b, .int .i64 p.c] 47) = W1 at *
      generalize wr.heap.size = pb at *
      clear c0 c1 c2 cc
      gi_loopw [19] (fun j wi => ∃ (m : Nat) (pre : List GC), m ≤ k ∧ j = .int .i64 m ∧ J pre wi ∧ vals pre = cornersTo l k m ∧ KpO O W1 wi) (fun j _ => k - (intOf j).toNat)
      case atStart => exact ⟨0, pre, Nat.zero_le _, rfl, Hj1.out, Hpre.out, KpO.refl _ _⟩
      case round =>
        clear Hj1 Hpre pre
        obtain ⟨m, pre, hm, rfl, hj, hpre, hkp⟩ := hrel
        by_cases hltm : m < k
        · have hltmB : decide ((m : Int) < (k : Int)) = true := by simp; omega
          have hk2 := Hk1.out.trans hkp
          have hlw := Hl.out.kpO hk2 HOl.out
          obtain ⟨lb', lo', q, e, hq, hlb', d0, d1, d2⟩ := hlw.get m (by omega)
          cases e
          have hcw := hk2.cells Hc.out HOc.out
          have cc : wr.cell? ⟨c, 0, none⟩ = some (.slice (some ⟨lb, lo, none⟩) len cap) := ((Ext.refl wr).box hcw).1 0
          have hcl2 : c < wr.heap.size := heap_lt hcw
          have hpw := hkp.cells Hpb.out HpO.out
          have hpl2 : pb < wr.heap.size := heap_lt hpw
          obtain ⟨pp0, _⟩ := (Ext.refl wr).box hpw
          have hql := List.mem_of_getElem? hq
          have hstep := cornersTo_step (i := k) hq
          rw [Hpd.out] at hstep
          have hcd := meet_bd (Hh.out p Hpl.out) (Hh.out q hql)
          have hgc := corner_gc Hh.out Hpl.out hql
          have hmt := fun W => meet_any p q W (Hh.out p Hpl.out) (Hh.out q hql)
          obtain ⟨C, hC⟩ : ∃ C, meet p q = C := ⟨_, rfl⟩
          rw [hC] at hstep hcd hgc hmt
          have hev := fun W' g (hx : Ext wr W') (hg : W'.heap[g]? = some (.cells #[.int .i64 C.x, .int .i64 C.y, .int .i64 C.d] 143 (0, 0))) => every_half1 105 g (enters_of Try.func105 (by kernel_rfl) rfl) (some ⟨lb, lo, none⟩) len cap l (fun h => inH h C) W' (hlw.ext hx) (by omega) (fun h hh W hW => inFn_any h C g W (Hh.out h hh) hcd ⟨hW.cell (((Ext.refl W').box hg).1 0), hW.cell (((Ext.refl W').box hg).1 1), hW.cell (((Ext.refl W').box hg).1 2)⟩)
          have hjw := fun W' (hx : Ext wr W') => HJ.out _ _ _ hj hx
          have hpn := cornersTo_pre l k (m + 1) (by have := Hll.out; omega) (by omega)
          have hokC : okC l C = (C.d != 0 && l.all fun h => inH h C) := rfl
          unfold Half.val Corner.val at hmt
          obtain ⟨cx, cy, cd⟩ := C
          simp only at hmt hev hokC hgc
          have Hmt := Lib.hid hmt
          have Hev := Lib.hid hev
          have Hjw := Lib.hid hjw
          have Hk2 := Lib.hid hk2
          have Hkp := Lib.hid hkp
          have Hstep := Lib.hid hstep
          have Hgc := Lib.hid hgc
          have Hpre := Lib.hid hpre
          have Hpn := Lib.hid hpn
          have HokC := Lib.hid hokC
          have Hj := Lib.hid hj
          clear hmt hev hjw hk2 hkp hstep hgc hpre hpn hokC hj
          clear hlw hcw hpw hq hql hC hcd
          by_cases hd0 : cd = 0
          · have hdB : (cd != 0) = false := by rw [hd0]; rfl
            have hno := HokC.out
            rw [hdB, Bool.false_and] at hno
            have Hno := Lib.hid hno
            clear hno
            gi_wp2_with (refine ⟨trivial, fun h => (by cases h), ?_⟩; gi_at_call 104; refine (callsIn_wide.2 (Hmt.out _)).mono ?_; rintro e w4 ⟨rfl, hx4⟩; have hx04 := ((Ext.refl wr).alloc (.cells #[.int .i64 q.a, .int .i64 q.b, .int .i64 q.c] 47)).trans hx4; have hcl4 : c < w4.heap.size := Nat.lt_of_lt_of_le hcl2 hx04.size; have cc4 := hx04.cell cc)
            refine ⟨trivial, ?_⟩
            gi_wp2
            refine ⟨fun _ h => (by cases h), ?_⟩
            gi_wp2
            go_roundw
            case rel => exact ⟨m + 1, pre, by omega, by go_num, Hjw.out _ (hx04.alloc _), by rw [Hstep.out, Hno.out, Hpre.out]; simp, Hkp.out.trans ((hx04.alloc _).kpO O)⟩
            case measure => simp [intOf]; omega
          · have hdB : (cd != 0) = true := by rw [bne_iff_ne]; exact hd0
            cases hal : l.all (fun h => inH h ⟨cx, cy, cd⟩) with
            | false =>
              have hno := HokC.out
              rw [hal, Bool.and_false] at hno
              rw [hal] at Hev
              have Hno := Lib.hid hno
              clear hno
              clear hal
              gi_wp2_with (first | (refine ⟨trivial, fun h => (by cases h), ?_⟩; gi_at_call 104; refine (callsIn_wide.2 (Hmt.out _)).mono ?_; rintro e w4 ⟨rfl, hx4⟩; have hx04 := ((Ext.refl wr).alloc (.cells #[.int .i64 q.a, .int .i64 q.b, .int .i64 q.c] 47)).trans hx4; have hcl4 : c < w4.heap.size := Nat.lt_of_lt_of_le hcl2 hx04.size; have cc4 := hx04.cell cc) | (refine ⟨trivial, fun h => (by cases h), ?_⟩; gi_at_call 68; refine (callsIn_wide.2 (Hev.out _ _ (hx04.alloc _) (alloc_at _ _ _ rfl))).mono ?_; rintro e w6 ⟨rfl, hx6⟩))
              refine ⟨fun _ h => (by cases h), ?_⟩
              gi_wp2
              go_roundw
              case rel => exact ⟨m + 1, pre, by omega, by go_num, Hjw.out _ ((hx04.alloc _).trans hx6), by rw [Hstep.out, Hno.out, Hpre.out]; simp, Hkp.out.trans (((hx04.alloc _).trans hx6).kpO O)⟩
              case measure => simp [intOf]; omega
            | true =>
              have hno := HokC.out
              rw [hal, hdB] at hno
              rw [hal] at Hev
              have hg := Hgc.out hno
              have hst := Hstep.out
              rw [hno, if_pos (by rfl)] at hst
              have hvp : vals (pre ++ [⟨⟨cx, cy, cd⟩, hg⟩]) = cornersTo l k (m + 1) := by rw [vals_snoc, Hpre.out, hst]
              have hlt' : pre.length < (cornersOf l).length := by
                have h1 : (vals (pre ++ [(⟨⟨cx, cy, cd⟩, hg⟩ : GC)])).length ≤ (cornersOf l).length := by rw [hvp]; exact Hpn.out.length_le
                simp only [vals, List.length_map, List.length_append, List.length_singleton] at h1
                omega
              have hY2 := fun W1 (hW : Ext wr W1) => HY.out pre ⟨⟨cx, cy, cd⟩, hg⟩ W1 (Hjw.out _ hW) hlt'
              unfold Corner.val at hY2
              simp only at hY2
              have Hvp := Lib.hid hvp
              have HY2 := Lib.hid hY2
              clear hvp hY2
              clear hal hst hno
              gi_wp2_with (first | (refine ⟨trivial, fun h => (by cases h), ?_⟩; gi_at_call 104; refine (callsIn_wide.2 (Hmt.out _)).mono ?_; rintro e w4 ⟨rfl, hx4⟩; have hx04 := ((Ext.refl wr).alloc (.cells #[.int .i64 q.a, .int .i64 q.b, .int .i64 q.c] 47)).trans hx4; have hcl4 : c < w4.heap.size := Nat.lt_of_lt_of_le hcl2 hx04.size; have cc4 := hx04.cell cc) | (refine ⟨trivial, fun h => (by cases h), ?_⟩; gi_at_call 68; refine (callsIn_wide.2 (Hev.out _ _ (hx04.alloc _) (alloc_at _ _ _ rfl))).mono ?_; rintro e w6 ⟨rfl, hx6⟩; have hx06 := (hx04.alloc (.cells #[.int .i64 cx, .int .i64 cy, .int .i64 cd] 143)).trans hx6; obtain ⟨fn', tmps, assign, body, hy, hR⟩ := HY2.out w6 hx06; have hb6 := hx6.heap (heap_alloc_new w4 (.cells #[.int .i64 cx, .int .i64 cy, .int .i64 cd] 143)); obtain ⟨f6, _⟩ := (Ext.refl w6).box hb6; have HR := Lib.hid hR; clear hR))
              refine ⟨fun h => (by cases h), HR.out.mono ?_⟩
              rintro e W3 (⟨rfl, hj3, hk3⟩ | ⟨rfl, hjx3⟩)
              · gi_wp2
                go_roundw
                case rel => exact ⟨m + 1, _, by omega, by go_num, hj3, Hvp.out, Hkp.out.trans ((hx06.kpO O).trans hk3)⟩
                case measure => simp [intOf]; omega
              · gi_wp2
                refine bodyPost_ret (results_none rfl _ _ _) rfl ?_
                exact ⟨⟨_, rfl⟩, .inr ⟨_, by rw [Hvp.out]; exact Hpn.out, hjx3⟩⟩
        · have hltmB : decide ((m : Int) < (k : Int)) = false := by simp; omega
          obtain rfl : m = k := by omega
          have hk2 := Hk1.out.trans hkp
          have Hj := Lib.hid hj
          have Hpre := Lib.hid hpre
          have Hk2 := Lib.hid hk2
          clear hj hpre hk2
          clear hkp
          gi_wp2
          go_roundw
          case rel => exact ⟨m + 1, pre, by omega, by go_num, Hj.out, by rw [Hpre.out, cornersTo_next], Hk2.out⟩
          case measure => simp [intOf]; omega
    · have hltB : decide ((k : Int) < (len : Int)) = false := by simp; omega
      obtain rfl : k = len := by omega
      have hall : vals pre = cornersOf l := by rw [hpre, ← Hll.out, cornersTo_all]
      gi_wp2
      go_end0
      exact ⟨⟨_, rfl⟩, .inl ⟨_, hall, hj⟩⟩
/-- **the iterator over corners yields them all, in order** -/
theorem corners_stops (n : Nat) (c : Nat) (a : Option Addr) (len cap : Nat) (l : List Half) (O : Nat → Prop) (w : World) (hc : w.heap[c]? = some (.cells #[.slice a len cap] 22 (0, 0))) (hl : HalvesAt w a len l) (hh : ∀ h ∈ l, HalfIn h) (hlen : len ≤ 1000) (hcap : len ≤ cap) (hcapm : cap ≤ maxLen)
    (hOc : ¬O c) (hOl : ∀ x, a = some x → ¬O x.block) (hO : ∀ b, O b → b < w.heap.size) :
    SeqStopsK Fence.wide n Try.prog 103 #[.pointer (some ⟨c, 0, none⟩)] (fun x : GC => #[x.1.val]) (KpO O) (fun xs => vals xs = cornersOf l) (fun pre => vals pre <+: cornersOf l) (cornersOf l).length w := fun y J Jx W hW hJ _ hY h0 => by
  have hx : Ext w W := hW
  exact corners1_any n y c a len cap l O W (hx.heap hc) (hl.ext hx) hh hlen hcap hcapm hOc hOl (fun b hb => Nat.lt_of_lt_of_le (hO b hb) hx.size) J Jx (fun s A B h e => hJ s A B none h ⟨e.os, e.tape, e.output, e.size, fun k hk _ => e.block k hk⟩ (fun r h => by cases h)) hY h0
end Go.Proofs.Ytacdndehlkaaeaa
