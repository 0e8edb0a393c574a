/- brand.open: the lines are followed (from region 24 on). -/
import Derived.Test.YtcoelhpmkhimpaaLineIt
import Derived.Test.YtcoelhpmkhimpaaHung
namespace Go.Proofs.Ytcoelhpmkhimpaa
open Go.RowKit
set_option linter.unusedVariables false
set_option linter.unusedSimpArgs false
attribute [local go_sem] Oper.semAt_some
theorem Took.cell {lo : Nat} {w w' : World} (h : Took lo w w') {x : Addr} {v : Value} (hc : w.cell? x = some v) : w'.cell? x = some v := by
  obtain ⟨o, ho, hoc⟩ := cells_of_cell hc
  have e : w'.heap[x.block]? = w.heap[x.block]? := by
    cases o <;> first | (cases hoc; done) | exact (h.cells _ _ _ _ ho).trans ho.symm
  exact (World.cell?_of_block e).trans hc
theorem IntsAt.took {q : IntKind} {lo : Nat} {w w' : World} {a : Option Addr} {n : Nat} {l : List Int} (h : IntsAt q w a n l) (k : Took lo w w') : IntsAt q w' a n l :=
  ⟨h.1, fun h0 => let ⟨b, off, ha, hc⟩ := h.2 h0; ⟨b, off, ha, fun i hi j v hv => k.cell (hc i hi j v hv)⟩⟩
theorem OMapIs.took {lo : Nat} {w w' : World} {b : Nat} {F : Int → Option Value} (h : OMapIs w b F) (k : Took lo w w') : OMapIs w' b F :=
  let ⟨es, c, h1, h2⟩ := h; ⟨es, c, k.map _ _ _ h1, h2⟩
/-- what a herd's opening hands back -/
def HerdFrom (w : World) (hb : Nat) (l : List Animal) (lo : Nat) : Prop := ∃ a c mp ma mc v, HerdIn w hb a c mp ma mc v l ∧ lo ≤ hb ∧ ∀ x, ma = some x → lo ≤ x.block
def OpenPost (l : List Animal) (w : World) (e : Ending) (w' : World) : Prop := ∃ hb, e = .returned (.tuple #[.pointer (some ⟨hb, 0, none⟩), .int .i64 0]) ∧ HerdFrom w' hb l w.heap.size ∧ Ext w w'
set_option maxRecDepth 100000 in
set_option maxHeartbeats 8000000 in
theorem openTail {w W : World} {a ma : Option Addr} {c hb mp mc : Nat} {v : Value} {l : List Animal} (hok : HerdOk l) (hla : AnimalsAt w a l.length l)
    (hx : Ext w W) (h1 : W.heap[w.heap.size]? = some (.cells #[.slice a l.length c] 63 (0, 0))) (h2 : W.heap[w.heap.size + 1]? = some (.cells #[.pointer none] 134 (0, 0))) (h3 : W.heap[w.heap.size + 1 + 1]? = some (.cells #[.int .i64 0] 40 (0, 0))) (hin : HerdIn W hb a c mp ma mc v l) (hhb : w.heap.size + 1 + 1 < hb) (hmab : ∀ x, ma = some x → w.heap.size + 1 + 1 < x.block) {u5 u6 u7 u8 u9 u10 u11 u12 u13 u14 u15 u16 u17 u18 u19 u20 u21 u22 u23 u24 u25 u26 u27 u28 u29 u30 u31 u32 u33 u34 u35 u36 u37 u38 u39 u40 u41 u42 u43 u44 u45 u46 u47 u48 u49 u50 u51 u52 u53 u54 u55 u56 u57 u58 u59 u60 u61 u62 u63 u64 u65 u66 u67 u68 u69 u70 u71 u72 u73 u74 u75 u76 u77 u78 u79 u80 u81 u82 u83 u84 u85 u86 u87 u88 u89 u90 u91 u92 u93 u94 u95 u96 u97 u98 u99 u100 u101 u102 u103 u104 u105 u106 u107 u108 u109 u110 u111 u112 u113 u114 u115 u116 u117 u118 u119 u120 u121 u122 u123 u124 u125 u126 u127 u128 u129 u130 u131 : Value} :
    (restFrom Try.f62 24).wp Try.prog (bodyPostM Fence.wide 3 Try.prog Try.f62 (OpenPost l w))
      ⟨#[.slice a l.length c, .pointer (some ⟨w.heap.size, 0, none⟩), .pointer (some ⟨w.heap.size + 1, 0, none⟩), .pointer (some ⟨w.heap.size + 1 + 1, 0, none⟩), .pointer (some ⟨hb, 0, none⟩), u5, u6, u7, u8, u9, u10, u11, u12, u13, u14, u15, u16, u17, u18, u19, u20, u21, u22, u23, u24, u25, u26, u27, u28, u29, u30, u31, u32, u33, u34, u35, u36, u37, u38, u39, u40, u41, u42, u43, u44, u45, u46, u47, u48, u49, u50, u51, u52, u53, u54, u55, u56, u57, u58, u59, u60, u61, u62, u63, u64, u65, u66, u67, u68, u69, u70, u71, u72, u73, u74, u75, u76, u77, u78, u79, u80, u81, u82, u83, u84, u85, u86, u87, u88, u89, u90, u91, u92, u93, u94, u95, u96, u97, u98, u99, u100, u101, u102, u103, u104, u105, u106, u107, u108, u109, u110, u111, u112, u113, u114, u115, u116, u117, u118, u119, u120, u121, u122, u123, u124, u125, u126, u127, u128, u129, u130, u131], []⟩ W := by
  have hlen := hok.len
  obtain ⟨z1, _⟩ := (Ext.refl W).box h1
  have Hx := Lib.hid hx
  have H1 := Lib.hid h1
  have H2 := Lib.hid h2
  have H3 := Lib.hid h3
  have Hin := Lib.hid hin
  have Hla := Lib.hid hla
  clear hx h1 h2 h3 hin hla
  conv => arg 2; whnf
  dsimp only
  go_upto_region 25 with fail
  refine wp_loop (fun A V => ∃ (k : Nat) (ds : List Deferred) (v15 v16 v118 v119 v120 v121 v122 v123 v124 v125 v126 v127 v128 v129 v130 : Value), A = ⟨#[.slice a l.length c, .pointer (some ⟨w.heap.size, 0, none⟩), .pointer (some ⟨w.heap.size + 1, 0, none⟩), .pointer (some ⟨w.heap.size + 1 + 1, 0, none⟩), .pointer (some ⟨hb, 0, none⟩), u5, u6, u7, u8, u9, u10, u11, u12, u13, u14, v15, v16, u17, u18, u19, u20, u21, u22, u23, u24, u25, u26, u27, u28, u29, u30, u31, u32, u33, u34, u35, u36, u37, u38, u39, u40, u41, u42, u43, u44, u45, u46, u47, u48, u49, u50, u51, u52, u53, u54, u55, u56, u57, u58, u59, u60, u61, u62, u63, u64, u65, u66, u67, u68, u69, u70, u71, u72, u73, u74, u75, u76, u77, u78, u79, u80, u81, u82, u83, u84, u85, u86, u87, u88, u89, u90, u91, u92, u93, u94, u95, u96, u97, u98, u99, u100, u101, u102, u103, u104, u105, u106, u107, u108, u109, u110, u111, u112, u113, u114, .slice a l.length c, .int .i64 l.length, .int .i64 k, v118, v119, v120, v121, v122, v123, v124, v125, v126, v127, v128, v129, v130, u131], ds⟩ ∧ k ≤ l.length ∧ Ext W V ∧ Hung W.heap.size ds V)
    (fun A _ => l.length - (intOf (A.tmps.getD 117 undef)).toNat) ?start ?round
  case start => exact ⟨0, [], u15, u16, u118, u119, u120, u121, u122, u123, u124, u125, u126, u127, u128, u129, u130, rfl, Nat.zero_le _, Ext.refl _, trivial⟩
  case round =>
    intro A V hrel
    obtain ⟨k, ds, v15, v16, v118, v119, v120, v121, v122, v123, v124, v125, v126, v127, v128, v129, v130, rfl, hk, hxv, hh⟩ := hrel
    clear z1
    dsimp only
    by_cases hlt : k < l.length
    · have hltB : decide ((k : Int) < (l.length : Int)) = true := by simp; omega
      have hsz := hxv.size
      have hLn := (hok.lineIs hlt).len hlt
      have hseq := fun (pi ph p16 : Nat) (W4 : World) hI hH (hE : Ext W W4) (hn1 : W.heap.size ≤ p16) (hn2 : W.heap.size ≤ pi) (hn3 : W.heap.size ≤ ph) (hn4 : pi ≠ p16) (hn5 : ph ≠ p16) (hn6 : ph ≠ pi) =>
        line_stops 2 pi ph hb mp a ma l.length c mc v l hok (k : Int) (lineOf l k) (.inr ⟨k, rfl, hlt, rfl⟩) (fun b => b = p16) W4 hI hH (Hin.out.ext hE).box (Hin.out.ext hE).moms Hin.out.mcap.1 Hin.out.mcap.2 hn4 hn5 (by have := heap_lt Hin.out.box; omega) (fun x hx => by
          by_cases h0 : 0 < l.length
          · obtain ⟨b5, o5, _, e5, _, hl5, _⟩ := Hin.out.moms.get 0 h0
            rw [hx] at e5
            cases e5
            simp only
            omega
          · omega) ⟨hn6, by have := heap_lt Hin.out.box; omega, fun x hx => by
          by_cases h0 : 0 < l.length
          · obtain ⟨b5, o5, _, e5, _, hl5, _⟩ := Hin.out.moms.get 0 h0
            rw [hx] at e5
            cases e5
            simp only
            omega
          · omega⟩
      have Hxv := Lib.hid hxv
      have Hh := Lib.hid hh
      have Hseq := Lib.hid hseq
      clear hxv hh hseq
      go_wp2_with (go_at_call 63; refine (line_any hb (k : Int) _).mono ?_; rintro e V2 ⟨rfl, rfl⟩)
      have hx4 : Ext V (((V.alloc (.cells #[.int .i64 0] 3)).alloc (.cells #[.pointer (some ⟨hb, 0, none⟩)] 134)).alloc (.cells #[.int .i64 k] 3)) := (((Ext.refl V).alloc _).alloc _).alloc _
      have hp16 : (((V.alloc (.cells #[.int .i64 0] 3)).alloc (.cells #[.pointer (some ⟨hb, 0, none⟩)] 134)).alloc (.cells #[.int .i64 k] 3)).heap[V.heap.size]? = some (.cells #[.int .i64 0] 3 (0, 0)) := (((Ext.refl _).alloc _).alloc _).heap (heap_alloc_new V _)
      have hph : (((V.alloc (.cells #[.int .i64 0] 3)).alloc (.cells #[.pointer (some ⟨hb, 0, none⟩)] 134)).alloc (.cells #[.int .i64 k] 3)).heap[V.heap.size + 1]? = some (.cells #[.pointer (some ⟨hb, 0, none⟩)] 134 (0, 0)) := ((Ext.refl _).alloc _).heap (alloc_at _ _ _ (by simp))
      have hpi : (((V.alloc (.cells #[.int .i64 0] 3)).alloc (.cells #[.pointer (some ⟨hb, 0, none⟩)] 134)).alloc (.cells #[.int .i64 k] 3)).heap[V.heap.size + 1 + 1]? = some (.cells #[.int .i64 k] 3 (0, 0)) := alloc_at _ _ _ (by simp)
      generalize ((V.alloc (.cells #[.int .i64 0] 3)).alloc (.cells #[.pointer (some ⟨hb, 0, none⟩)] 134)).alloc (.cells #[.int .i64 k] 3) = V4 at *
      have hsq := Hseq.out (V.heap.size + 1 + 1) (V.heap.size + 1) V.heap.size V4 hpi hph (Hxv.out.trans hx4) hsz (by omega) (by omega) (by omega) (by omega) (by omega)
      have hh4 := Hh.out.ext hx4
      have hx04 := Hxv.out.trans hx4
      have hpl := heap_lt hpi
      have Hsq := Lib.hid hsq
      have Hh4 := Lib.hid hh4
      have Hx04 := Lib.hid hx04
      have Hp16 := Lib.hid hp16
      clear hsq hh4 hx04 hp16
      clear hx4 hph hpi
      refine (wpIn_wide (n := 3)).1 (wpIn_rangeFunc_but rfl (by omega) (gf := 110) (lb := #[.pointer (some ⟨V.heap.size + 1 + 1, 0, none⟩), .pointer (some ⟨V.heap.size + 1, 0, none⟩)]) rfl trivial (enters_of Try.func110 (by kernel_rfl) rfl) Hsq.out kpO_t kpO_b (Ext.refl _) (fun b hb => by rw [hb]; exact hpl) (fun _ => rfl)
        (fun pre X => Ext W X ∧ Hung W.heap.size ds X ∧ X.heap[V.heap.size]? = some (.cells #[.int .i64 (pre.length : Nat)] 3 (0, 0))) (fun _ _ _ => False)
        (fun q A B h k => ⟨ButF.ext h.1 k (fun b hb => by have : b = V.heap.size + 1 + 1 := hb; omega) (by omega), h.2.1.keep (fun D q1 q2 q3 => k.block D _ q2 (fun e => by have : D = V.heap.size + 1 + 1 := e; have := Hh.out.lt D q3; omega) (.inr (by have := Hh4.out.lt D q3; omega))), k.cells h.2.2 (fun e => by have : V.heap.size = V.heap.size + 1 + 1 := e; omega)⟩)
        (fun c q A B h k => h.elim)
        ⟨Hx04.out, Hh4.out, Hp16.out⟩ ?a1 ?assign ?body ?done ?stop)
      case assign =>
        intro y x X K hK
        gi_wp2
        simp [natEnc]
        exact hK
      case body =>
        intro y pre x X hI hpre
        obtain ⟨q1, q2, q3⟩ := hI
        obtain ⟨y0, y1⟩ := (Ext.refl X).box q3
        obtain ⟨z1, _⟩ := (Ext.refl X).box (q1.heap H1.out)
        have hpx := heap_lt q3
        have hw0 : w.heap.size < V.heap.size := by have := heap_lt H1.out; omega
        have hB : decide ((l.length : Int) < (pre.length : Int) + 1) = false := decide_eq_false (by omega)
        have hq3 : (X.setCell ⟨V.heap.size, 0, none⟩ (.int .i64 ((pre.length : Int) + 1))).heap[V.heap.size]? = some (.cells #[.int .i64 (((pre ++ [x]).length : Nat) : Int)] 3 (0, 0)) := by
          rw [heap_setCell_box, q3, List.length_append]
          rfl
        have hq1 := q1.setCell (p := ⟨V.heap.size, 0, none⟩) hsz (.int .i64 ((pre.length : Int) + 1))
        have Hq1 := Lib.hid hq1
        have Q2 := Lib.hid q2
        have Hq3 := Lib.hid hq3
        clear hq1 q2 hq3
        gi_wp2
        exact ⟨KeepsOthers.setCell _ _ _, ⟨by simp [World.setCell], fun k o hk _ hn => (Below.heap_setCell _ _ _ _ (fun e => hn (by simp only at e; exact e))).trans hk⟩, Hq1.out, Q2.out.others (KeepsOthers.setCell _ _ _), Hq3.out⟩
      case done =>
        intro D xs X hD hxs hI hK
        obtain ⟨q1, q2, q3⟩ := hI
        have hm := Hung.more Hh4.out q2 hD (by omega) hK
        have Q1 := Lib.hid q1
        have Hm := Lib.hid hm
        clear q1 hm
        clear q2 q3 hK
        go_wp2_with fail
        refine ⟨⟨k + 1, _, _, _, _, _, _, _, _, _, _, _, _, _, _, _, _, rfl, by omega, Q1.out, Hm.out⟩, ?_⟩
        show l.length - ((k : Int) + 1).toNat < l.length - (k : Int).toNat
        omega
      case stop =>
        intro D c pre X _ _ h
        exact h.elim
    · have hltB : decide ((k : Int) < (l.length : Int)) = false := by simp; omega
      have hx1 := Hx.out.trans hxv
      have g2 := hxv.heap H2.out
      have g3 := hxv.heap H3.out
      have hi1 := Hin.out.ext hxv
      have hb1 := heap_lt H1.out
      have hb2 := heap_lt H2.out
      have hb3 := heap_lt H3.out
      have hl2 := heap_lt g2
      have hl3 := heap_lt g3
      obtain ⟨y2, y3⟩ := (Ext.refl V).box g2
      obtain ⟨y4, y5⟩ := (Ext.refl V).box g3
      have hlb := heap_lt Hin.out.box
      have Hh := Lib.hid hh
      have Hx1 := Lib.hid hx1
      have G2 := Lib.hid g2
      have G3 := Lib.hid g3
      have Hi1 := Lib.hid hi1
      clear hh hx1 g2 g3 hi1
      go_wp2_with fail
      have e2 : ((V.setCell ⟨w.heap.size + 1, 0, none⟩ (.pointer (some ⟨hb, 0, none⟩))).setCell ⟨w.heap.size + 1 + 1, 0, none⟩ (.int .i64 0)).heap[w.heap.size + 1]? = some (.cells #[.pointer (some ⟨hb, 0, none⟩)] 134 (0, 0)) := by
        refine (Below.heap_setCell _ _ _ _ (by simp)).trans ?_
        rw [heap_setCell_box, G2.out]
        rfl
      have e3 : ((V.setCell ⟨w.heap.size + 1, 0, none⟩ (.pointer (some ⟨hb, 0, none⟩))).setCell ⟨w.heap.size + 1 + 1, 0, none⟩ (.int .i64 0)).heap[w.heap.size + 1 + 1]? = some (.cells #[.int .i64 0] 40 (0, 0)) := by
        rw [heap_setCell_box, Below.heap_setCell _ _ _ _ (by simp), G3.out]
        rfl
      have e4 : ∀ b, w.heap.size + 1 + 1 < b → ((V.setCell ⟨w.heap.size + 1, 0, none⟩ (.pointer (some ⟨hb, 0, none⟩))).setCell ⟨w.heap.size + 1 + 1, 0, none⟩ (.int .i64 0)).heap[b]? = V.heap[b]? := fun b hbb =>
        (Below.heap_setCell _ _ _ _ (by simp only; omega)).trans (Below.heap_setCell _ _ _ _ (by simp only; omega))
      have e5 := (Hx1.out.setCell (p := ⟨w.heap.size + 1, 0, none⟩) (by simp only; omega) (.pointer (some ⟨hb, 0, none⟩))).setCell (p := ⟨w.heap.size + 1 + 1, 0, none⟩) (by simp only; omega) (.int .i64 0)
      have e6 := (Hh.out.others (KeepsOthers.setCell V ⟨w.heap.size + 1, 0, none⟩ (.pointer (some ⟨hb, 0, none⟩)))).others (KeepsOthers.setCell _ ⟨w.heap.size + 1 + 1, 0, none⟩ (.int .i64 0))
      have e7 : ((V.setCell ⟨w.heap.size + 1, 0, none⟩ (.pointer (some ⟨hb, 0, none⟩))).setCell ⟨w.heap.size + 1 + 1, 0, none⟩ (.int .i64 0)).heap[mp]? = V.heap[mp]? := by
        obtain ⟨es, ck, q1, _⟩ := Hi1.out.map
        have n2 : mp ≠ w.heap.size + 1 := fun e => by rw [e, G2.out] at q1; cases q1
        have n3 : mp ≠ w.heap.size + 1 + 1 := fun e => by rw [e, G3.out] at q1; cases q1
        exact (Below.heap_setCell _ _ _ _ n3).trans (Below.heap_setCell _ _ _ _ n2)
      generalize (V.setCell ⟨w.heap.size + 1, 0, none⟩ (.pointer (some ⟨hb, 0, none⟩))).setCell ⟨w.heap.size + 1 + 1, 0, none⟩ (.int .i64 0) = V2 at *
      refine marks_rets e6 fun w' ht => ?_
      have hx9 := ht.ext e5 (by omega)
      have c2 := ((Ext.refl w').box (ht.cells _ _ _ _ e2)).1 0
      have c3 := ((Ext.refl w').box (ht.cells _ _ _ _ e3)).1 0
      refine ⟨.tuple #[.pointer (some ⟨hb, 0, none⟩), .int .i64 0], by simp [results, Try.f62, go_sem, c2, c3], hb, rfl, ⟨a, c, mp, ma, mc, v, ⟨ht.cells _ _ _ _ ((e4 _ hhb).trans Hi1.out.box), Hi1.out.mcap, Hla.out.ext hx9, Hi1.out.acap, (Hi1.out.map.same e7).took ht, ?_⟩, by omega, fun x hx => by have := hmab x hx; omega⟩, hx9⟩
      exact IntsAt.took (w := V2) ⟨Hi1.out.moms.1, Hi1.out.moms.2.same fun x hx => e4 _ (hmab x hx)⟩ ht
end Go.Proofs.Ytcoelhpmkhimpaa
