/- The iterator over corners: its contract. -/
import Derived.RangeFuncBox
import Derived.RangeFuncLeaves
import Derived.RangeFuncNested
import Derived.OwnWalkIn
import Derived.TacticsInMore
import Derived.LoopNIn
import Derived.LoopIn
import Derived.Test.YtcoelhpmkhimpaaGreatVGm
import Derived.Lib.AppendZeros
import Derived.RangeFuncFrom
namespace Go.Proofs.YtcoelhpmkhimpaaGreat
open Go.RowKit
set_option linter.unusedVariables false
set_option linter.unusedSimpArgs false
attribute [local go_sem] Oper.semAt_some
theorem isCells_of_cell {w : World} {a : Addr} {v : Value} (h : w.cell? a = some v) : ∃ o, w.heap[a.block]? = some o ∧ o.isCells = true := by
  unfold World.cell? at h
  split at h
  · rename_i hb
    exact ⟨_, hb, rfl⟩
  · cases h
theorem HalvesAt.kpO {O : Nat → Prop} {A B : World} {a : Option Addr} {n : Nat} {l : List Half} (h : HalvesAt A a n l) (k : KpO O A B) (hn : ∀ x, a = some x → ¬O x.block) : HalvesAt B a n l :=
  ⟨h.1, fun h0 => by
    obtain ⟨b, off, ha, hc⟩ := h.2 h0
    exact ⟨b, off, ha, fun i hi j v hv => k.cell (hc i hi j v hv) (show ¬O b from hn _ ha)⟩⟩
/-- a corner that may be handed to a loop's body -/
abbrev GC := { c : Corner // CornerIn c ∧ 0 < c.d }
def vals (l : List GC) : List Corner := l.map (·.1)
theorem vals_snoc (l : List GC) (x : GC) : vals (l ++ [x]) = vals l ++ [x.1] := by simp [vals]
/-- the corners of the first i halves, and of half i with the first j -/
def cornersTo (l : List Half) (i j : Nat) : List Corner := (List.range i).flatMap (cornersAt l) ++ ((l.take j).map (meet (l.getD i ⟨0, 0, 0⟩))).filter (okC l)
theorem cornersTo_next (l : List Half) (i : Nat) : cornersTo l (i + 1) 0 = cornersTo l i i := by
  simp only [cornersTo, List.take_zero, List.map_nil, List.filter_nil, List.append_nil, List.range_succ, List.flatMap_append, List.flatMap_cons, List.flatMap_nil]
  rfl
theorem cornersTo_step {l : List Half} {i j : Nat} {q : Half} (hq : l[j]? = some q) : cornersTo l i (j + 1) = cornersTo l i j ++ if okC l (meet (l.getD i ⟨0, 0, 0⟩) q) then [meet (l.getD i ⟨0, 0, 0⟩) q] else [] := by
  simp only [cornersTo, List.take_add_one, hq, Option.toList_some, List.map_append, List.map_cons, List.map_nil, List.filter_append, List.append_assoc]
  congr 1
  congr 1
  simp only [List.filter_cons, List.filter_nil]
theorem cornersTo_all (l : List Half) : cornersTo l l.length 0 = cornersOf l := by
  simp [cornersTo, cornersOf]
theorem cornersTo_pre (l : List Half) : ∀ i j, i < l.length → j ≤ i → cornersTo l i j <+: cornersOf l := by
  intro i j hi hj
  have h1 : cornersTo l i j <+: cornersTo l i i := by
    unfold cornersTo
    refine (List.prefix_append_right_inj _).2 ?_
    refine List.IsPrefix.filter _ (List.IsPrefix.map _ ?_)
    exact List.take_prefix_take_left hj
  refine h1.trans ?_
  have h2 : cornersTo l i i = (List.range (i + 1)).flatMap (cornersAt l) := by
    rw [← cornersTo_next]
    simp [cornersTo]
  rw [h2]
  have h3 : List.range l.length = List.range (i + 1) ++ (List.range (l.length - (i + 1))).map (i + 1 + ·) := by
    rw [← List.range_add]
    congr 1
    omega
  unfold cornersOf
  rw [h3, List.flatMap_append]
  exact List.prefix_append _ _
theorem corner_gc {l : List Half} (hl : ∀ h ∈ l, HalfIn h) {p q : Half} (hp : p ∈ l) (hq : q ∈ l) (h : okC l (meet p q) = true) : CornerIn (meet p q) ∧ 0 < (meet p q).d := by
  have := meet_bd (hl p hp) (hl q hq)
  have h2 := (okC_iff.1 h).1
  exact ⟨this, by have := this.2.2.2.2.1; omega⟩
set_option maxRecDepth 100000 in
set_option maxHeartbeats 4000000 in
theorem corners1_any (n : Nat) (y c : Nat) (a : Option Addr) (len cap : Nat) (l : List Half) (O : Nat → Prop) (W : World) (hc : W.heap[c]? = some (.cells #[.slice a len cap] 22 (0, 0))) (hl : HalvesAt W a len l) (hh : ∀ h ∈ l, HalfIn h) (hlen : len ≤ 1000) (hcap : len ≤ cap) (hcapm : cap ≤ maxLen)
    (hOc : ¬O c) (hOl : ∀ x, a = some x → ¬O x.block) (hO : ∀ b, O b → b < W.heap.size) (J Jx : List GC → World → Prop) (hJ : ∀ s A B, J s A → Ext A B → J s B)
    (hY : ∀ pre x W1, J pre W1 → pre.length < (cornersOf l).length → YieldAt Fence.wide (n - 1) Tryz.prog y #[x.1.val] W1 fun e W' =>
      (e = .returned (.bool true) ∧ J (pre ++ [x]) W' ∧ KpO O W1 W') ∨ (e = .returned (.bool false) ∧ Jx (pre ++ [x]) W'))
    (h0 : J [] W) :
    CallsIn Fence.wide n Tryz.prog 85 #[.func (.yield y) #[] #[], .pointer (some ⟨c, 0, none⟩)] W fun e W' => (∃ v, e = .returned v) ∧ ((∃ xs, vals xs = cornersOf l ∧ J xs W') ∨ (∃ pre, vals pre <+: cornersOf l ∧ Jx pre W')) := by
  have hll := hl.1
  unfold maxLen at hcapm
  have cc := ((Ext.refl W).box hc).1 0
  have Hc := Lib.hid hc
  have Hl := Lib.hid hl
  have Hh := Lib.hid hh
  have HOc := Lib.hid hOc
  have HOl := Lib.hid hOl
  have HO := Lib.hid hO
  have HJ := Lib.hid hJ
  have HY := Lib.hid hY
  have Hll := Lib.hid hll
  clear hc hl hh hOc hOl hO hJ hY hll
  refine callsIn_of_wp Tryz.func85 rfl trivial ?_ rfl
  simp only [Tryz.ntmps85, List.size_toArray, List.length_cons, List.length_nil, Nat.reduceAdd, Nat.reduceSub, Array.replicate_succ, Array.replicate_zero, List.push_toArray, List.append_toArray, List.nil_append, List.cons_append]
  gi_wp2
  gi_loopw [10] (fun i wr => ∃ (k : Nat) (pre : List GC), k ≤ len ∧ i = .int .i64 k ∧ J pre wr ∧ vals pre = cornersTo l k 0 ∧ KpO O W wr) (fun i _ => len - (intOf i).toNat)
  case atStart => exact ⟨0, [], Nat.zero_le _, rfl, h0, by simp [cornersTo, vals], KpO.refl _ _⟩
  case round =>
    obtain ⟨k, pre, hk, rfl, hj, hpre, hkp⟩ := hrel
    by_cases hlt : k < len
    · have hltB : decide ((k : Int) < (len : Int)) = true := by simp; omega
      have hlk := Hl.out.kpO hkp HOl.out
      obtain ⟨lb, lo, p, rfl, hpk, hlb, c0, c1, c2⟩ := hlk.get k hlt
      have hcw := hkp.cells Hc.out HOc.out
      have cc : wr.cell? ⟨c, 0, none⟩ = some (.slice (some ⟨lb, lo, none⟩) len cap) := ((Ext.refl wr).box hcw).1 0
      have hcl : c < wr.heap.size := heap_lt hcw
      have hx1 : Ext wr (wr.alloc (.cells #[.int .i64 p.a, .int .i64 p.b, .int .i64 p.c] 79)) := (Ext.refl _).alloc _
      have hpb := heap_alloc_new wr (.cells #[.int .i64 p.a, .int .i64 p.b, .int .i64 p.c] 79)
      have hj1 := HJ.out _ _ _ hj hx1
      have hk1 := hkp.trans (hx1.kpO O)
      have hpO : ¬O wr.heap.size := fun h => by have := HO.out _ h; have := hkp.size; omega
      have hkn : (k : Int) ≤ (cap : Int) := by omega
      have hpl := List.mem_of_getElem? hpk
      have hpd : l.getD k ⟨0, 0, 0⟩ = p := by simp [List.getD, hpk]
      have Hj1 := Lib.hid hj1
      have Hk1 := Lib.hid hk1
      have Hpb := Lib.hid hpb
      have HpO := Lib.hid hpO
      have Hpl := Lib.hid hpl
      have Hpd := Lib.hid hpd
      have Hpre := Lib.hid hpre
      clear hj1 hk1 hpb hpO hpl hpd hpre
      clear hj hkp hcw hlk hx1 hpk
      gi_wp2
      generalize wr.alloc (.cells #[.int .i64 p.a, .int .i64 p.b, .int .i64 p.c] 79) = W1 at *
      generalize wr.heap.size = pb at *
      clear c0 c1 c2 cc
      gi_loopw [19] (fun j wi => ∃ (m : Nat) (pre : List GC), m ≤ k ∧ j = .int .i64 m ∧ J pre wi ∧ vals pre = cornersTo l k m ∧ KpO O W1 wi) (fun j _ => k - (intOf j).toNat)
      case atStart => exact ⟨0, pre, Nat.zero_le _, rfl, Hj1.out, Hpre.out, KpO.refl _ _⟩
      case round =>
        clear Hj1 Hpre pre
        obtain ⟨m, pre, hm, rfl, hj, hpre, hkp⟩ := hrel
        by_cases hltm : m < k
        · have hltmB : decide ((m : Int) < (k : Int)) = true := by simp; omega
          have hk2 := Hk1.out.trans hkp
          have hlw := Hl.out.kpO hk2 HOl.out
          obtain ⟨lb', lo', q, e, hq, hlb', d0, d1, d2⟩ := hlw.get m (by omega)
          cases e
          have hcw := hk2.cells Hc.out HOc.out
          have cc : wr.cell? ⟨c, 0, none⟩ = some (.slice (some ⟨lb, lo, none⟩) len cap) := ((Ext.refl wr).box hcw).1 0
          have hcl2 : c < wr.heap.size := heap_lt hcw
          have hpw := hkp.cells Hpb.out HpO.out
          have hpl2 : pb < wr.heap.size := heap_lt hpw
          obtain ⟨pp0, _⟩ := (Ext.refl wr).box hpw
          have hql := List.mem_of_getElem? hq
          have hstep := cornersTo_step (i := k) hq
          rw [Hpd.out] at hstep
          have hcd := meet_bd (Hh.out p Hpl.out) (Hh.out q hql)
          have hgc := corner_gc Hh.out Hpl.out hql
          have hmt := fun W => meet_any p q W (Hh.out p Hpl.out) (Hh.out q hql)
          obtain ⟨C, hC⟩ : ∃ C, meet p q = C := ⟨_, rfl⟩
          rw [hC] at hstep hcd hgc hmt
          have hev := fun W' g (hx : Ext wr W') (hg : W'.heap[g]? = some (.cells #[.int .i64 C.x, .int .i64 C.y, .int .i64 C.d] 122 (0, 0))) => every_half1 87 g (enters_of Tryz.func87 (by kernel_rfl) rfl) (some ⟨lb, lo, none⟩) len cap l (fun h => inH h C) W' (hlw.ext hx) (by omega) (fun h hh W hW => inFn_any h C g W (Hh.out h hh) hcd ⟨hW.cell (((Ext.refl W').box hg).1 0), hW.cell (((Ext.refl W').box hg).1 1), hW.cell (((Ext.refl W').box hg).1 2)⟩)
          have hjw := fun W' (hx : Ext wr W') => HJ.out _ _ _ hj hx
          have hpn := cornersTo_pre l k (m + 1) (by have := Hll.out; omega) (by omega)
          have hokC : okC l C = (C.d != 0 && l.all fun h => inH h C) := rfl
          unfold Half.val Corner.val at hmt
          obtain ⟨cx, cy, cd⟩ := C
          simp only at hmt hev hokC hgc
          have Hmt := Lib.hid hmt
          have Hev := Lib.hid hev
          have Hjw := Lib.hid hjw
          have Hk2 := Lib.hid hk2
          have Hkp := Lib.hid hkp
          have Hstep := Lib.hid hstep
          have Hgc := Lib.hid hgc
          have Hpre := Lib.hid hpre
          have Hpn := Lib.hid hpn
          have HokC := Lib.hid hokC
          have Hj := Lib.hid hj
          clear hmt hev hjw hk2 hkp hstep hgc hpre hpn hokC hj
          clear hlw hcw hpw hq hql hC hcd
          by_cases hd0 : cd = 0
          · have hdB : (cd != 0) = false := by rw [hd0]; rfl
            have hno := HokC.out
            rw [hdB, Bool.false_and] at hno
            have Hno := Lib.hid hno
            clear hno
            gi_wp2_with (refine ⟨trivial, fun h => (by cases h), ?_⟩; gi_at_call 86; refine (callsIn_wide.2 (Hmt.out _)).mono ?_; rintro e w4 ⟨rfl, hx4⟩; have hx04 := ((Ext.refl wr).alloc (.cells #[.int .i64 q.a, .int .i64 q.b, .int .i64 q.c] 79)).trans hx4; have hcl4 : c < w4.heap.size := Nat.lt_of_lt_of_le hcl2 hx04.size; have cc4 := hx04.cell cc)
            refine ⟨trivial, ?_⟩
            gi_wp2
            refine ⟨fun _ h => (by cases h), ?_⟩
            gi_wp2
            go_roundw
            case rel => exact ⟨m + 1, pre, by omega, by go_num, Hjw.out _ (hx04.alloc _), by rw [Hstep.out, Hno.out, Hpre.out]; simp, Hkp.out.trans ((hx04.alloc _).kpO O)⟩
            case measure => simp [intOf]; omega
          · have hdB : (cd != 0) = true := by rw [bne_iff_ne]; exact hd0
            cases hal : l.all (fun h => inH h ⟨cx, cy, cd⟩) with
            | false =>
              have hno := HokC.out
              rw [hal, Bool.and_false] at hno
              rw [hal] at Hev
              have Hno := Lib.hid hno
              clear hno
              clear hal
              gi_wp2_with (first | (refine ⟨trivial, fun h => (by cases h), ?_⟩; gi_at_call 86; refine (callsIn_wide.2 (Hmt.out _)).mono ?_; rintro e w4 ⟨rfl, hx4⟩; have hx04 := ((Ext.refl wr).alloc (.cells #[.int .i64 q.a, .int .i64 q.b, .int .i64 q.c] 79)).trans hx4; have hcl4 : c < w4.heap.size := Nat.lt_of_lt_of_le hcl2 hx04.size; have cc4 := hx04.cell cc) | (refine ⟨trivial, fun h => (by cases h), ?_⟩; gi_at_call 61; refine (callsIn_wide.2 (Hev.out _ _ (hx04.alloc _) (alloc_at _ _ _ rfl))).mono ?_; rintro e w6 ⟨rfl, hx6⟩))
              refine ⟨fun _ h => (by cases h), ?_⟩
              gi_wp2
              go_roundw
              case rel => exact ⟨m + 1, pre, by omega, by go_num, Hjw.out _ ((hx04.alloc _).trans hx6), by rw [Hstep.out, Hno.out, Hpre.out]; simp, Hkp.out.trans (((hx04.alloc _).trans hx6).kpO O)⟩
              case measure => simp [intOf]; omega
            | true =>
              have hno := HokC.out
              rw [hal, hdB] at hno
              rw [hal] at Hev
              have hg := Hgc.out hno
              have hst := Hstep.out
              rw [hno, if_pos (by rfl)] at hst
              have hvp : vals (pre ++ [⟨⟨cx, cy, cd⟩, hg⟩]) = cornersTo l k (m + 1) := by rw [vals_snoc, Hpre.out, hst]
              have hlt' : pre.length < (cornersOf l).length := by
                have h1 : (vals (pre ++ [(⟨⟨cx, cy, cd⟩, hg⟩ : GC)])).length ≤ (cornersOf l).length := by rw [hvp]; exact Hpn.out.length_le
                simp only [vals, List.length_map, List.length_append, List.length_singleton] at h1
                omega
              have hY2 := fun W1 (hW : Ext wr W1) => HY.out pre ⟨⟨cx, cy, cd⟩, hg⟩ W1 (Hjw.out _ hW) hlt'
              unfold Corner.val at hY2
              simp only at hY2
              have Hvp := Lib.hid hvp
              have HY2 := Lib.hid hY2
              clear hvp hY2
              clear hal hst hno
              gi_wp2_with (first | (refine ⟨trivial, fun h => (by cases h), ?_⟩; gi_at_call 86; refine (callsIn_wide.2 (Hmt.out _)).mono ?_; rintro e w4 ⟨rfl, hx4⟩; have hx04 := ((Ext.refl wr).alloc (.cells #[.int .i64 q.a, .int .i64 q.b, .int .i64 q.c] 79)).trans hx4; have hcl4 : c < w4.heap.size := Nat.lt_of_lt_of_le hcl2 hx04.size; have cc4 := hx04.cell cc) | (refine ⟨trivial, fun h => (by cases h), ?_⟩; gi_at_call 61; refine (callsIn_wide.2 (Hev.out _ _ (hx04.alloc _) (alloc_at _ _ _ rfl))).mono ?_; rintro e w6 ⟨rfl, hx6⟩; have hx06 := (hx04.alloc (.cells #[.int .i64 cx, .int .i64 cy, .int .i64 cd] 122)).trans hx6; obtain ⟨fn', tmps, assign, body, hy, hR⟩ := HY2.out w6 hx06; have hb6 := hx6.heap (heap_alloc_new w4 (.cells #[.int .i64 cx, .int .i64 cy, .int .i64 cd] 122)); obtain ⟨f6, _⟩ := (Ext.refl w6).box hb6; have HR := Lib.hid hR; clear hR))
              refine ⟨fun h => (by cases h), HR.out.mono ?_⟩
              rintro e W3 (⟨rfl, hj3, hk3⟩ | ⟨rfl, hjx3⟩)
              · gi_wp2
                go_roundw
                case rel => exact ⟨m + 1, _, by omega, by go_num, hj3, Hvp.out, Hkp.out.trans ((hx06.kpO O).trans hk3)⟩
                case measure => simp [intOf]; omega
              · gi_wp2
                refine bodyPost_ret (results_none rfl _ _ _) rfl ?_
                exact ⟨⟨_, rfl⟩, .inr ⟨_, by rw [Hvp.out]; exact Hpn.out, hjx3⟩⟩
        · have hltmB : decide ((m : Int) < (k : Int)) = false := by simp; omega
          obtain rfl : m = k := by omega
          have hk2 := Hk1.out.trans hkp
          have Hj := Lib.hid hj
          have Hpre := Lib.hid hpre
          have Hk2 := Lib.hid hk2
          clear hj hpre hk2
          clear hkp
          gi_wp2
          go_roundw
          case rel => exact ⟨m + 1, pre, by omega, by go_num, Hj.out, by rw [Hpre.out, cornersTo_next], Hk2.out⟩
          case measure => simp [intOf]; omega
    · have hltB : decide ((k : Int) < (len : Int)) = false := by simp; omega
      obtain rfl : k = len := by omega
      have hall : vals pre = cornersOf l := by rw [hpre, ← Hll.out, cornersTo_all]
      gi_wp2
      go_end0
      exact ⟨⟨_, rfl⟩, .inl ⟨_, hall, hj⟩⟩
/-- **the iterator over corners yields them all, in order** -/
theorem corners_stops (n : Nat) (c : Nat) (a : Option Addr) (len cap : Nat) (l : List Half) (O : Nat → Prop) (w : World) (hc : w.heap[c]? = some (.cells #[.slice a len cap] 22 (0, 0))) (hl : HalvesAt w a len l) (hh : ∀ h ∈ l, HalfIn h) (hlen : len ≤ 1000) (hcap : len ≤ cap) (hcapm : cap ≤ maxLen)
    (hOc : ¬O c) (hOl : ∀ x, a = some x → ¬O x.block) (hO : ∀ b, O b → b < w.heap.size) :
    _root_.Go.SeqStopsK Fence.wide n Tryz.prog 85 #[.pointer (some ⟨c, 0, none⟩)] (fun x : GC => #[x.1.val]) (KpO O) (fun xs => vals xs = cornersOf l) (fun pre => vals pre <+: cornersOf l) (cornersOf l).length w := fun y J Jx W hW hJ _ hY h0 => by
  have hx : Ext w W := hW
  exact corners1_any n y c a len cap l O W (hx.heap hc) (hl.ext hx) hh hlen hcap hcapm hOc hOl (fun b hb => Nat.lt_of_lt_of_le (hO b hb) hx.size) J Jx (fun s A B h e => hJ s A B none h ⟨e.os, e.tape, e.output, e.size, fun k hk _ => e.block k hk⟩ (fun r h => by cases h)) hY h0
end Go.Proofs.YtcoelhpmkhimpaaGreat

/- slices.Grow and slices.Concat, of halves. -/
namespace Go.Proofs.YtcoelhpmkhimpaaGreat
open Go.RowKit
set_option linter.unusedVariables false
set_option linter.unusedSimpArgs false

theorem info47 : (Tryz.prog.info? 79).map (fun i => (i.zero, i.size, i.bytes)) = some (some (.agg #[.int .i64 0, .int .i64 0, .int .i64 0]), 3, 24) := by kernel_rfl
theorem elem81 : Elem Tryz.prog 22 79 3 := by
  obtain ⟨i, h1, h2, h3, h4⟩ := info_parts info47
  exact ⟨Tryz.underlying22, ⟨i, _, _, h1, h2, h3, h4, rfl, by decide⟩, by decide⟩
theorem Owns.empty' {w : World} {base b cap : Nat} {e : TypeId} {sz : Nat} {cur : Array Value} (hb : w.heap[b]? = some (.cells cur e (0, 0))) (hB : base ≤ b) (hc : cur.size = cap * sz) (hm : cap ≤ maxLen) : Owns w base e sz (.slice (some ⟨b, 0, none⟩) 0 cap) [] :=
  ⟨⟨by simp, .inr ⟨b, cap, cur, rfl, hB, hb, Nat.zero_le _, hm, hc, by simp⟩⟩, by simp⟩
def GrowPost (w : World) (e : Ending) (w' : World) : Prop := ∃ b cap, e = .returned (.slice (some ⟨b, 0, none⟩) 0 cap) ∧ Ext w w' ∧ Owns w' w.heap.size 79 3 (.slice (some ⟨b, 0, none⟩) 0 cap) []
set_option maxRecDepth 100000 in
theorem grow_any (n : Nat) (w : World) (h1 : 1 ≤ n) (hn : n ≤ 100000) : Calls Tryz.prog 106 #[.slice none 0 0, .int .i64 n] w (GrowPost w) := by
  obtain ⟨i, hi, hz, hs, hb⟩ := info_parts info47
  have happ := Lib.run_append_nil_zeros (P := Tryz.prog) w 22 3 22 79 i (.agg #[.int .i64 0, .int .i64 0, .int .i64 0]) .i64 .i64 Tryz.underlying22 Tryz.underlying3 hi hz n (by omega) (by omega) (by omega) (by rw [hb]; omega)
  have hge : n ≤ grownCap w n 0 79 := grownCap_ge w _ 0 79
  have hle : grownCap w n 0 79 ≤ maxLen := grownCap_le_maxLen w _ 0 79 (by unfold maxLen; omega)
  generalize grownCap w n 0 79 = cap at *
  obtain ⟨Z, hZ⟩ : ∃ Z, (Builtin.zeroCells (Value.agg #[.int .i64 0, .int .i64 0, .int .i64 0]).cells n ++ Builtin.zeroCells (Value.agg #[.int .i64 0, .int .i64 0, .int .i64 0]).cells (cap - n)) = Z := ⟨_, rfl⟩
  have hZs : Z.size = cap * 3 := by
    rw [← hZ]
    simp [size_zeroCells, Value.cells]
    omega
  rw [hZ] at happ
  have hnB : decide ((n : Int) < 0) = false := decide_eq_false (by omega)
  have hnB2 : decide (0 < (n : Int)) = true := decide_eq_true (by omega)
  have hcap : (cap : Int) ≤ 9223372036854775807 := by unfold maxLen at hle; omega
  have Hle := Lib.hid hle
  have HZs := Lib.hid hZs
  clear hle hZs
  clear hZ
  go_enter Tryz.func106, Tryz.ntmps106
  go_wp2_with (at_builtin; refine Lib.wpList_append_run _ rfl _ _ _ _ rfl _ _ rfl rfl _ _ happ ?_)
  go_ret
  exact ⟨_, _, rfl, ((Ext.refl w).drew).alloc _, Owns.empty' (heap_alloc_new w.drew _) (Nat.le_refl _) HZs.out Hle.out⟩
theorem grow_zero (w : World) : Calls Tryz.prog 106 #[.slice none 0 0, .int .i64 0] w fun e w' => e = .returned (.slice none 0 0) ∧ w' = w := by
  go_enter Tryz.func106, Tryz.ntmps106
  go_wp2_with fail
  go_ret
  exact ⟨rfl, rfl⟩
/-- a slice of lists of halves -/
def ListsAt (w : World) (a : Option Addr) (n : Nat) (ls : List (List Half)) : Prop :=
  ls.length = n ∧ (0 < n → ∃ b off, a = some ⟨b, off, none⟩ ∧ ∀ k r, ls[k]? = some r → ∃ ka kn kc, Cells w b (off + k * 1) [.slice ka kn kc] ∧ kn ≤ kc ∧ kc ≤ maxLen ∧ HalvesAt w ka kn r)
theorem ListsAt.ext {w w' : World} {a : Option Addr} {n : Nat} {l : List (List Half)} (h : ListsAt w a n l) (e : Ext w w') : ListsAt w' a n l :=
  ⟨h.1, fun hn => let ⟨b, off, ha, hc⟩ := h.2 hn; ⟨b, off, ha, fun k f hf => let ⟨ka, kn, kc, h1, h2, h3, h4⟩ := hc k f hf; ⟨ka, kn, kc, h1.ext e, h2, h3, h4.ext e⟩⟩⟩
theorem ListsAt.get {w : World} {a : Option Addr} {n : Nat} {l : List (List Half)} (h : ListsAt w a n l) (k : Nat) (hk : k < n) :
    ∃ b off x ka kn kc, a = some ⟨b, off, none⟩ ∧ l[k]? = some x ∧ b < w.heap.size ∧ w.cell? ⟨b, off + k, none⟩ = some (.slice ka kn kc) ∧ kn ≤ kc ∧ kc ≤ maxLen ∧ HalvesAt w ka kn x := by
  obtain ⟨hl, h⟩ := h
  obtain ⟨b, off, ha, hc⟩ := h (by omega)
  obtain ⟨x, hx⟩ : ∃ x, l[k]? = some x := ⟨l[k], by simp⟩
  obtain ⟨ka, kn, kc, h1, h2, h3, h4⟩ := hc k x hx
  have h0 := h1 0 _ rfl
  simp only [Nat.mul_one, Nat.add_zero] at h0
  exact ⟨b, off, x, ka, kn, kc, ha, hx, block_lt_of_cell h0, h0, h2, h3, h4⟩
theorem flat_take_succ {ls : List (List Half)} {k : Nat} {x : List Half} (h : ls[k]? = some x) : (ls.take (k + 1)).flatten = (ls.take k).flatten ++ x := by
  rw [List.take_add_one, h]
  simp
theorem flat_take_le (ls : List (List Half)) (k : Nat) : (ls.take k).flatten.length ≤ ls.flatten.length := by
  have : ls.flatten = (ls.take k).flatten ++ (ls.drop k).flatten := by rw [← List.flatten_append, List.take_append_drop]
  rw [this]
  simp
theorem halfRows_len (l : List Half) : (halfRows l).length = l.length := List.length_map ..
/-- the first k lists, joined -/
def flatTo (ls : List (List Half)) (k : Nat) : List Half := (ls.take k).flatten
def lenTo (ls : List (List Half)) (k : Nat) : Nat := (ls.take k).flatten.length
def ConcatPost (l : List Half) (w : World) (e : Ending) (w' : World) : Prop := ∃ a cap, e = .returned (.slice a l.length cap) ∧ Ext w w' ∧ HalvesAt w' a l.length l ∧ l.length ≤ cap ∧ cap ≤ maxLen ∧ From w.heap.size a
set_option maxRecDepth 100000 in
set_option maxHeartbeats 4000000 in
theorem concat_any (a : Option Addr) (n cap : Nat) (ls : List (List Half)) (w : World) (hl : ListsAt w a n ls) (hn : n ≤ 1000) (hN : ls.flatten.length ≤ 1000) : Calls Tryz.prog 74 #[.slice a n cap] w (ConcatPost ls.flatten w) := by
  have hll := hl.1
  have Hl := Lib.hid hl
  have Hll := Lib.hid hll
  have HN := Lib.hid hN
  clear hl hll hN
  go_enter Tryz.func74, Tryz.ntmps74
  go_upto_region 3 with fail
  go_loopw [3, 11] (fun s i wr => ∃ k : Nat, k ≤ n ∧ i = .int .i64 k ∧ s = .int .i64 ((lenTo ls k : Nat) : Int) ∧ wr = w) (fun _ i _ => n - (intOf i).toNat)
  case atStart => exact ⟨0, Nat.zero_le _, rfl, rfl, rfl⟩
  case round =>
    obtain ⟨k, hk, rfl, rfl, rfl⟩ := hrel
    by_cases hlt : k < n
    · have hltB : decide ((k : Int) < (n : Int)) = true := by simp; omega
      obtain ⟨lb, lo, x, ka, kn, kc, rfl, hx, hlb, c0, h1, h2, h3⟩ := Hl.out.get k hlt
      have hst : lenTo ls (k + 1) = lenTo ls k + kn := by unfold lenTo; rw [flat_take_succ hx, List.length_append, h3.1]
      have hle : lenTo ls (k + 1) ≤ ls.flatten.length := flat_take_le ls (k + 1)
      have hN := HN.out
      generalize lenTo ls k = S at *
      have hbd : S + kn ≤ 1000 := by omega
      have hsB : decide ((S : Int) + (kn : Int) < 0) = false := decide_eq_false (by omega)
      unfold maxLen at h2
      have Hst := Lib.hid hst
      clear hst
      clear hx h3
      go_wp2_with fail
      go_roundw
      case rel => exact ⟨k + 1, by omega, by go_num, by rw [Hst.out]; go_num, trivial⟩
      case measure => simp [intOf]; omega
    · have hltB : decide ((k : Int) < (n : Int)) = false := by simp; omega
      obtain rfl : n = k := by omega
      have hall : lenTo ls n = ls.flatten.length := by unfold lenTo; rw [List.take_of_length_le (by have := Hll.out; omega)]
      obtain ⟨N, hNN⟩ : ∃ N, lenTo ls n = N := ⟨_, rfl⟩
      rw [hNN] at hall ⊢
      obtain ⟨w0, rfl⟩ : ∃ w0 : World, w0 = wr := ⟨_, rfl⟩
      have hN := HN.out
      have key : Calls Tryz.prog 106 #[.slice none 0 0, .int .i64 (N : Int)] w0 fun e w' => ∃ v, e = .returned v ∧ Ext w0 w' ∧ Owns w' w0.heap.size 79 3 v [] := by
        by_cases hz : N = 0
        · rw [hz]
          exact (grow_zero w0).mono fun e w' ⟨h1, h2⟩ => by subst h2; exact ⟨_, h1, Ext.refl _, Owns.nil _ _ _ _⟩
        · exact (grow_any _ w0 (by omega) (by omega)).mono fun e w' ⟨b, c, h1, h2, h3⟩ => ⟨_, h1, h2, h3⟩
      have Key := Lib.hid key
      clear key
      clear hall hN hNN
      go_upto_region 11 with (go_at_call 106; refine Key.out.mono ?_; rintro e w1 ⟨v1, rfl, hx1, ho1⟩)
      clear Key
      obtain ⟨va, vc, hv1, _, _, _, _⟩ := ho1.slAt
      rw [List.length_nil] at hv1
      subst hv1
      have Hx1 := Lib.hid hx1
      have Ho1 := Lib.hid ho1
      clear hx1 ho1
      go_loopw [6, 27] (fun v i wr => ∃ k : Nat, k ≤ n ∧ i = .int .i64 k ∧ Ext w0 wr ∧ Owns wr w0.heap.size 79 3 v (halfRows (flatTo ls k))) (fun _ i _ => n - (intOf i).toNat)
      case atStart => exact ⟨0, Nat.zero_le _, rfl, Hx1.out, Ho1.out⟩
      case round =>
        clear Hx1 Ho1
        obtain ⟨k, hk, rfl, hx, how⟩ := hrel
        obtain ⟨va, vc, hv, _, hvc, hvm, _⟩ := how.slAt
        subst hv
        rw [halfRows_len] at how hvc ⊢
        by_cases hlt : k < n
        · have hltB : decide ((k : Int) < (n : Int)) = true := by simp; omega
          obtain ⟨lb, lo, x, ka, kn, kc, rfl, hxk, hlb, c0, h1, h2, h3⟩ := (Hl.out.ext hx).get k hlt
          have hft : flatTo ls (k + 1) = flatTo ls k ++ x := flat_take_succ hxk
          have hst : (flatTo ls (k + 1)).length = (flatTo ls k).length + kn := by rw [hft, List.length_append, h3.1]
          have hle : (flatTo ls (k + 1)).length ≤ ls.flatten.length := flat_take_le ls (k + 1)
          have hsrc := h3.src
          have hrl : (halfRows x).length = kn := by rw [halfRows_len]; exact h3.1
          have hnx : halfRows (flatTo ls (k + 1)) = halfRows (flatTo ls k) ++ halfRows x := by rw [hft, halfRows_append]
          have hsz := hx.size
          have hpl := halfRows_len (flatTo ls k)
          unfold maxLen at h2
          have Hsrc := Lib.hid hsrc
          have Hrl := Lib.hid hrl
          have Hnx := Lib.hid hnx
          have How := Lib.hid how
          have Hx := Lib.hid hx
          have Hpl := Lib.hid hpl
          have Hst := Lib.hid hst
          clear hsrc hrl hnx how hx hpl hst
          clear hxk h3 hft
          go_wp2_with (at_builtin; refine wpList_app elem81 _ rfl (.tmp 31) (.tmp 32) rfl w0.heap.size _ (halfRows (flatTo ls k)) rfl How.out ka kn kc (halfRows x) rfl Hrl.out Hsrc.out (halfRows_row _) ?_ ?_ ?_)
          · rw [Hpl.out]
            have := HN.out
            have := Hst.out
            omega
          · exact hsz
          · intro v6 w6 ho6 hg6 _
            rw [← Hnx.out] at ho6
            have hx6 := Hx.out.app How.out hg6
            obtain ⟨va6, vc6, hv6, _, _, _, _⟩ := ho6.slAt
            rw [halfRows_len] at hv6
            subst hv6
            have Ho6 := Lib.hid ho6
            have Hx6 := Lib.hid hx6
            clear ho6 hx6
            clear hg6
            go_wp2_with fail
            go_roundw
            case rel => exact ⟨k + 1, by omega, by go_num, Hx6.out, Ho6.out⟩
            case measure => simp [intOf]; omega
        · have hltB : decide ((k : Int) < (n : Int)) = false := by simp; omega
          obtain rfl : n = k := by omega
          have hall : flatTo ls n = ls.flatten := by unfold flatTo; rw [List.take_of_length_le (by have := Hll.out; omega)]
          obtain ⟨wa, wc, e, hf, _, _, hh⟩ := halves_of_owns how
          cases e
          have Hall := Lib.hid hall
          have Hx := Lib.hid hx
          have Hh := Lib.hid hh
          have Hf := Lib.hid hf
          clear hall hx hh hf
          go_wp2_with fail
          go_ret
          rw [← Hall.out]
          exact ⟨_, _, rfl, Hx.out, Hh.out, hvc, hvm, Hf.out⟩
end Go.Proofs.YtcoelhpmkhimpaaGreat

/- Whether some place is in all halves of lists. -/
namespace Go.Proofs.YtcoelhpmkhimpaaGreat
open Go.RowKit
set_option linter.unusedVariables false
set_option linter.unusedSimpArgs false
attribute [local go_sem] Oper.semAt_some

theorem corners_any (a : Option Addr) (len cap : Nat) (w : World) : Calls Tryz.prog 58 #[.slice a len cap] w fun e w' => e = .returned (.func (.func 85) #[] #[.pointer (some ⟨w.heap.size, 0, none⟩)]) ∧ w' = w.alloc (.cells #[.slice a len cap] 22) := by
  go_enter Tryz.func58, Tryz.ntmps58
  go_wp2_with fail
  go_ret
  exact ⟨rfl, rfl⟩
/-- a block of cells abides the turns of what is no cells -/
theorem heap_own {A B : World} {row : Option Nat} {b lo : Nat} {cs : Array Value} {t : TypeId} {f : Nat × Nat} (h : A.heap[b]? = some (.cells cs t f)) (hg : A.grownBy B row) (hr : ∀ r, row = some r → lo ≤ r ∧ ∃ o : Obj, A.heap[r]? = some o ∧ o.isCells = false) : B.heap[b]? = some (.cells cs t f) := by
  refine (hg.block b (heap_lt h) (fun e => ?_)).trans h
  obtain ⟨_, o, ho, hc⟩ := hr b e.symm
  rw [h] at ho
  cases ho
  cases hc
theorem ext_own {β : Type} {w : World} {B : Nat} (hB : w.heap.size ≤ B) : OwnFrom B (fun (_ : β) W => Ext w W) := ownFrom_below (Nat.le_refl _) hB
set_option maxRecDepth 100000 in
set_option maxHeartbeats 4000000 in
theorem some_any (a : Option Addr) (n cap : Nat) (ls : List (List Half)) (w : World) (hl : ListsAt w a n ls) (hn : n ≤ 1000) (hN : ls.flatten.length ≤ 1000) (hh : ∀ h ∈ ls.flatten, HalfIn h) :
    Calls Tryz.prog 47 #[.slice a n cap] w fun e w' => e = .returned (.bool (someB ls.flatten)) ∧ Ext w w' := by
  have hx1 : Ext w (w.alloc (.cells #[.bool false] 4)) := (Ext.refl _).alloc _
  have hcon := concat_any a n cap ls (w.alloc (.cells #[.bool false] 4)) (hl.ext hx1) hn hN
  have hrb := heap_alloc_new w (.cells #[.bool false] 4)
  have hS : someB ls.flatten = !(cornersOf ls.flatten).isEmpty := rfl
  generalize ls.flatten = L at *
  have Hcon := Lib.hid hcon
  have Hx1 := Lib.hid hx1
  have Hrb := Lib.hid hrb
  have HS := Lib.hid hS
  clear hcon hx1 hrb hS
  clear hl
  refine (callsIn_wide (n := 3)).1 ?_
  refine callsIn_of_wp_marks Tryz.func47 rfl trivial ?_ rfl
  simp only [Tryz.ntmps47, List.size_toArray, List.length_cons, List.length_nil, Nat.reduceAdd, Nat.reduceSub, Array.replicate_succ, Array.replicate_zero, List.push_toArray, List.append_toArray, List.nil_append, List.cons_append]
  gi_wp2_with (first | (refine ⟨trivial, ?_⟩; gi_at_call 74; refine (callsIn_wide.2 Hcon.out).mono ?_; rintro e w2 ⟨ka, kc, rfl, hx2, hk2, hkc, hkm, hkf⟩) | (refine ⟨trivial, ?_⟩; gi_at_call 58; refine (callsIn_wide.2 (corners_any _ _ _ _)).mono ?_; rintro e w3 ⟨rfl, rfl⟩))
  have hc3 := heap_alloc_new w2 (.cells #[.slice ka L.length kc] 22)
  have hx23 : Ext w2 (w2.alloc (.cells #[.slice ka L.length kc] 22)) := (Ext.refl _).alloc _
  have hrb3 := hx23.heap (hx2.heap Hrb.out)
  have hx3 := (Hx1.out.trans hx2).trans hx23
  have hk3 := hk2.ext hx23
  obtain ⟨W0, hW0⟩ : ∃ W0, w2.alloc (.cells #[.slice ka L.length kc] 22) = W0 := ⟨_, rfl⟩
  rw [hW0] at hc3 hrb3 hx3 hk3 ⊢
  have hsz : w2.heap.size < W0.heap.size := heap_lt hc3
  have hwz : w.heap.size < W0.heap.size := heap_lt hrb3
  have hw2 : w.heap.size < w2.heap.size := by
    have := hx2.size
    simp at this
    omega
  refine wpIn_rangeFunc_ownF rfl (by omega) (gf := 85) (lb := #[.pointer (some ⟨w2.heap.size, 0, none⟩)]) rfl trivial (enters_of Tryz.func85 (by kernel_rfl) rfl)
    (corners_stops _ w2.heap.size ka L.length kc L (fun b => b = w.heap.size) W0 hc3 hk3 hh hN hkc hkm (by omega) (fun x hx => by have := hkf x hx; simp at this; omega) (fun b hb => by omega)) kpO_t kpO_b (Below.refl _ _) (fun _ => rfl)
    (fun pre W => pre = [] ∧ W.heap[w.heap.size]? = some (.cells #[.bool false] 4 (0, 0)) ∧ Ext w W)
    (fun c pre W => c = .ret ∧ pre ≠ [] ∧ W.heap[w.heap.size]? = some (.cells #[.bool true] 4 (0, 0)) ∧ Ext w W)
    (fun s A B row hs hg hr => ⟨hs.1, heap_own hs.2.1 hg hr, ext_own (by omega) s A B row hs.2.2 hg hr⟩)
    (fun c s A B row hs hg hr => ⟨hs.1, hs.2.1, heap_own hs.2.2.1 hg hr, ext_own (by omega) s A B row hs.2.2.2 hg hr⟩)
    ⟨rfl, hrb3, hx3⟩
    (fun x => { tmps := #[.slice a n cap, undef, .pointer (some ⟨w.heap.size, 0, none⟩), .slice a n cap, .slice ka L.length kc, .func (.func 85) #[] #[.pointer (some ⟨w2.heap.size, 0, none⟩)], x.1.val], defers := [] }) ?assign ?body ?done ?stop
  case assign =>
    intro l x W K hK
    gi_wp2
    simpa using hK
  case body =>
    rintro l pre x W ⟨rfl, hr, hx⟩ _
    obtain ⟨f0, f1⟩ := (Ext.refl W).box hr
    gi_wp2
    refine ⟨KeepsOthers.setCell _ _ _, rfl, by simp, ?_, hx.setCell (p := ⟨w.heap.size, 0, none⟩) (Nat.le_refl _) _⟩
    rw [heap_setCell_box, hr]
    rfl
  case done =>
    rintro D xs W hD hxs ⟨rfl, hr, hx⟩ hK
    obtain ⟨f0, f1⟩ := (Ext.refl W).box hr
    have hse : someB L = false := by rw [HS.out, ← hxs]; rfl
    gi_wp2
    have hK' := (KeepsOthers.setCell W ⟨w.heap.size, 0, none⟩ (.bool false)).same D _ hK rfl
    have hr' : (W.setCell ⟨w.heap.size, 0, none⟩ (.bool false)).heap[w.heap.size]? = some (.cells #[.bool false] 4 (0, 0)) := by
      rw [heap_setCell_box, hr]
      rfl
    have hx' := hx.setCell (p := ⟨w.heap.size, 0, none⟩) (Nat.le_refl _) (.bool false)
    generalize W.setCell ⟨w.heap.size, 0, none⟩ (.bool false) = W2 at *
    refine ⟨by simp, .inl ⟨_, _, rfl, run_takeDeferred hK', ?_⟩⟩
    have hc5 := ((Ext.refl _).box (taken_heap hr' hK')).1 0
    refine ⟨.bool false, ?_, by rw [hse], ext_taken hx' (by omega)⟩
    simp [results, Tryz.f47, go_sem, hc5]
  case stop =>
    rintro D c pre W hD hpre ⟨rfl, hne, hr, hx⟩ hK
    have hse : someB L = true := by
      rw [HS.out]
      cases hc : cornersOf L with
      | nil =>
        rw [hc] at hpre
        have := List.prefix_nil.1 hpre
        simp only [vals, List.map_eq_nil_iff] at this
        exact absurd this hne
      | cons x r => rfl
    gi_wp2
    refine ⟨by simp, .inl ⟨_, _, rfl, run_takeDeferred hK, ?_⟩⟩
    have hc5 := ((Ext.refl _).box (taken_heap hr hK)).1 0
    refine ⟨.bool true, ?_, by rw [hse], ext_taken hx (by omega)⟩
    simp [results, Tryz.f47, go_sem, hc5]
end Go.Proofs.YtcoelhpmkhimpaaGreat
