/- Contract of layer 3: Water. -/
import Derived.Test.YtcoelhpmkhimpaaGreatDoorWaterP
namespace Go.Proofs.YtcoelhpmkhimpaaGreatDoor
open Go.RowKit
set_option linter.unusedVariables false
set_option linter.unusedSimpArgs false
def waterVal (r : Span × Int × Int) : Value := .tuple #[.agg #[.int .i64 r.1.lo, .int .i64 r.1.hi], .int .i64 r.2.1, .int .i64 r.2.2]
def WaterPost (w : World) (r : Span × Int × Int) (e : Ending) (w' : World) : Prop := e = .returned (waterVal r) ∧ Ext w w'
structure WtIn (w : World) (X : Well) (p15 p16 : Nat) (h : Span) (V : World) : Prop where
  ext : Ext w V
  rs : V.heap[w.heap.size + 1]? = some (.cells #[.int .i64 0, .int .i64 0] 23 (0, 0))
  we : V.heap[p15]? = some (.cells #[.int .i64 X.x, .int .i64 X.y, .int .i64 X.depth, .int .i64 X.yield.lo, .int .i64 X.yield.hi, .int .i64 X.room, .int .i64 X.has.lo, .int .i64 X.has.hi, .int .i64 X.owner] 135 (0, 0))
  ha : V.heap[p16]? = some (.cells #[.int .i64 h.lo, .int .i64 h.hi] 23 (0, 0))
  m15 : w.heap.size + 1 < p15
  m16 : p15 < p16
theorem WtIn.next {w : World} {X : Well} {p15 p16 : Nat} {h : Span} {V V' : World} (k : WtIn w X p15 p16 h V) (hx : Ext V V') : WtIn w X p15 p16 h V' := ⟨k.ext.trans hx, hx.heap k.rs, hx.heap k.we, hx.heap k.ha, k.m15, k.m16⟩
theorem WtIn.put {w : World} {X : Well} {p15 p16 : Nat} {h : Span} {V : World} (k : WtIn w X p15 p16 h V) (x y : Int) : WtIn w X p15 p16 ⟨x, y⟩ ((V.setCell ⟨p16, 0, none⟩ (.int .i64 x)).setCell ⟨p16, 1, none⟩ (.int .i64 y)) := by
  have h1 := k.m15
  have h2 := k.m16
  exact ⟨set2_ext k.ext (by omega) _ _, set2_other k.rs (by omega) _ _, set2_other k.we (by omega) _ _, set2_box k.ha _ _, h1, h2⟩
set_option maxRecDepth 100000 in
set_option maxHeartbeats 8000000 in
theorem water_any (wa : Option Addr) (wn wc : Nat) (la : Option Addr) (ln lc : Nat) (l : Land) (well day : Int) (da : Option Addr) (dn dc : Nat) (ds : List Draw) (w : World) (h : LandAt w wa wn wc la ln lc l) (hg : DrawsAt w da dn ds) (hdc : dn ≤ dc) (hdm : dc ≤ maxLen) :
    Calls Tryz.prog 46 #[.agg #[.slice wa wn wc, .slice la ln lc], .int .i64 well, .slice da dn dc, .int .i64 day] w (WaterPost w (waterAt l well ds day)) := by
  have hck := fun W (hW : Ext w W) => checkLand_any wa wn wc la ln lc l W (h.ext hW)
  have hwl := h.wells.1
  have hn1 := h.n1
  have hdl := hg.1
  unfold maxLen at hdm
  have hask : waterAsk l well ds day = if landErr l = 0 then (if (inB well 0 (l.wells.length - 1) && inB day 0 100000) = false then 2 else if 200 < ds.length then 4 else if drawsOk l.wells.length 0 ds = false then 32 else 0) else landErr l := by
    unfold waterAsk landErr
    cases landOk l <;> simp
  have hbad : ∀ K, waterAsk l well ds day = K → K ≠ 0 → waterAt l well ds day = (⟨0, 0⟩, 0, K) := fun K hK h0 => by
    unfold waterAt
    rw [if_pos (by rw [hK]; exact h0), hK]
  obtain ⟨Q, hQ⟩ : ∃ Q, WaterPost w (waterAt l well ds day) = Q := ⟨_, rfl⟩
  have hfin : ∀ lo hi i K, waterAt l well ds day = (⟨lo, hi⟩, i, K) → ∀ w', Ext w w' → Q (.returned (.tuple #[.agg #[.int .i64 lo, .int .i64 hi], .int .i64 i, .int .i64 K])) w' := fun lo hi i K h w' hx => by
    rw [← hQ]
    unfold WaterPost waterVal
    rw [h]
    exact ⟨rfl, hx⟩
  rw [hQ]
  clear hQ
  have hK : landErr l = 0 ∨ landErr l = 30 := by unfold landErr; split <;> simp
  obtain ⟨B1, hB1⟩ : ∃ B, inB well 0 (l.wells.length - 1) = B := ⟨_, rfl⟩
  obtain ⟨B2, hB2⟩ : ∃ B, inB day 0 100000 = B := ⟨_, rfl⟩
  rw [hB1, hB2] at hask
  obtain ⟨W0, hW0⟩ : ∃ W0, (w.alloc (.cells #[.slice wa wn wc, .slice la ln lc] 99)).alloc (.cells #[.int .i64 0, .int .i64 0] 23) = W0 := ⟨_, rfl⟩
  have hx0 : Ext w W0 := by rw [← hW0]; exact ((Ext.refl w).alloc _).alloc _
  have hb0 : W0.heap[w.heap.size]? = some (.cells #[.slice wa wn wc, .slice la ln lc] 99 (0, 0)) := by rw [← hW0]; exact alloc_heap (heap_alloc_new w _) _
  have hb1 : W0.heap[w.heap.size + 1]? = some (.cells #[.int .i64 0, .int .i64 0] 23 (0, 0)) := by rw [← hW0]; exact alloc_at _ _ _ (by simp)
  obtain ⟨z0, _⟩ := (Ext.refl W0).box hb0
  rcases hK with hK | hK
  · rw [hK] at hask hck
    simp only [if_true] at hask
    rw [hwl] at hB1
    cases B1
    · simp only [Bool.false_and, if_true] at hask
      have hf := hfin _ _ _ _ (hbad _ hask (by decide))
      have Hck := Lib.hid hck
      have Hx0 := Lib.hid hx0
      have Hb0 := Lib.hid hb0
      have Hb1 := Lib.hid hb1
      have Hf := Lib.hid hf
      have HB1 := Lib.hid hB1
      clear hck hx0 hb0 hb1 hf hB1
      clear hbad hfin hg h hask hK
      go_enter Tryz.func46, Tryz.ntmps46
      go_wp2_with (first | (go_at_call 76; refine (Hck.out _ Hx0.out).mono ?_; rintro e w1 ⟨rfl, hx1⟩; clear hW0 z0; obtain ⟨z2, _⟩ := (Ext.refl w1).box (hx1.heap Hb0.out); have hzb := heap_lt (hx1.heap Hb0.out)) | (go_at_call 77; refine (fromW1 (alloc_at _ _ _ (by simp)) HB1.out).mono ?_; rintro e w2 ⟨rfl, hx2⟩; have hx12 := (hx1.alloc _).trans hx2; have hr2 := hx12.heap Hb1.out; obtain ⟨z3, z4⟩ := (Ext.refl w2).box hr2; have hrl := heap_lt hr2; clear z2))
      refine bodyPost_ret (results_cell_tmp2 (P := Tryz.prog) (fn := Tryz.f46) rfl _ _ (w.heap.size + 1) 23 #[.int .i64 0, .int .i64 0] (0, 0) _ rfl (set2_box hr2 _ _) Tryz.underlying23 rfl (by kernel_rfl)) rfl ?_
      exact Hf.out _ (set2_ext (Hx0.out.trans hx12) (by omega) _ _)
    cases B2
    · simp only [Bool.and_false, if_true] at hask
      have hf := hfin _ _ _ _ (hbad _ hask (by decide))
      have Hck := Lib.hid hck
      have Hx0 := Lib.hid hx0
      have Hb0 := Lib.hid hb0
      have Hb1 := Lib.hid hb1
      have Hf := Lib.hid hf
      have HB1 := Lib.hid hB1
      have HB2 := Lib.hid hB2
      clear hck hx0 hb0 hb1 hf hB1 hB2
      clear hbad hfin hg h hask hK
      have gg1 := trivial
      go_enter Tryz.func46, Tryz.ntmps46
      go_wp2_with (first | (go_at_call 76; refine (Hck.out _ Hx0.out).mono ?_; rintro e w1 ⟨rfl, hx1⟩; clear hW0 z0; obtain ⟨z2, _⟩ := (Ext.refl w1).box (hx1.heap Hb0.out); have hzb := heap_lt (hx1.heap Hb0.out)) | (go_at_call 77; first | (have q := gg1; clear q gg1; refine (fromW1 (alloc_at _ _ _ (by simp)) HB1.out).mono ?_; rintro e w2 ⟨rfl, hx2⟩; have hx12 := (hx1.alloc _).trans hx2; clear z2) | (refine (fromW1 (alloc_at _ _ _ (by simp)) HB2.out).mono ?_; rintro e w3 ⟨rfl, hx3⟩; have hx13 := (hx12.alloc _).trans hx3; have hr2 := hx13.heap Hb1.out; obtain ⟨z3, z4⟩ := (Ext.refl w3).box hr2; have hrl := heap_lt hr2)))
      refine bodyPost_ret (results_cell_tmp2 (P := Tryz.prog) (fn := Tryz.f46) rfl _ _ (w.heap.size + 1) 23 #[.int .i64 0, .int .i64 0] (0, 0) _ rfl (set2_box hr2 _ _) Tryz.underlying23 rfl (by kernel_rfl)) rfl ?_
      exact Hf.out _ (set2_ext (Hx0.out.trans hx13) (by omega) _ _)
    simp only [Bool.and_true, Bool.true_eq_false, if_false] at hask
    rw [hdl] at hask
    by_cases hlen : 200 < dn
    · rw [if_pos hlen] at hask
      have hf := hfin _ _ _ _ (hbad _ hask (by decide))
      have hlB : decide (200 < (dn : Int)) = true := by simp; omega
      have Hck := Lib.hid hck
      have Hx0 := Lib.hid hx0
      have Hb0 := Lib.hid hb0
      have Hb1 := Lib.hid hb1
      have Hf := Lib.hid hf
      have HB1 := Lib.hid hB1
      have HB2 := Lib.hid hB2
      clear hck hx0 hb0 hb1 hf hB1 hB2
      clear hbad hfin hg h hask hK
      have gg1 := trivial
      go_enter Tryz.func46, Tryz.ntmps46
      go_wp2_with (first | (go_at_call 76; refine (Hck.out _ Hx0.out).mono ?_; rintro e w1 ⟨rfl, hx1⟩; clear hW0 z0; obtain ⟨z2, _⟩ := (Ext.refl w1).box (hx1.heap Hb0.out); have hzb := heap_lt (hx1.heap Hb0.out)) | (go_at_call 77; first | (have q := gg1; clear q gg1; refine (fromW1 (alloc_at _ _ _ (by simp)) HB1.out).mono ?_; rintro e w2 ⟨rfl, hx2⟩; have hx12 := (hx1.alloc _).trans hx2; clear z2) | (refine (fromW1 (alloc_at _ _ _ (by simp)) HB2.out).mono ?_; rintro e w3 ⟨rfl, hx3⟩; have hx13 := (hx12.alloc _).trans hx3; have hr2 := hx13.heap Hb1.out; obtain ⟨z3, z4⟩ := (Ext.refl w3).box hr2; have hrl := heap_lt hr2)))
      refine bodyPost_ret (results_cell_tmp2 (P := Tryz.prog) (fn := Tryz.f46) rfl _ _ (w.heap.size + 1) 23 #[.int .i64 0, .int .i64 0] (0, 0) _ rfl (set2_box hr2 _ _) Tryz.underlying23 rfl (by kernel_rfl)) rfl ?_
      exact Hf.out _ (set2_ext (Hx0.out.trans hx13) (by omega) _ _)
    rw [if_neg hlen] at hask
    have hlB : decide (200 < (dn : Int)) = false := by simp; omega
    have hdn : dn ≤ 200 := by omega
    rw [hwl] at hask
    have hw0 := h.wells
    have hld : landOk l = true := by
      unfold landErr at hK
      split at hK
      · assumption
      · omega
    have hday := inB_is hB2
    have hwin := inB_is hB1
    have Hck := Lib.hid hck
    have Hx0 := Lib.hid hx0
    have Hb0 := Lib.hid hb0
    have Hb1 := Lib.hid hb1
    have HB1 := Lib.hid hB1
    have HB2 := Lib.hid hB2
    have Hask := Lib.hid hask
    have Hbad := Lib.hid hbad
    have Hfin := Lib.hid hfin
    have Hg := Lib.hid hg
    have Hw0 := Lib.hid hw0
    have Hld := Lib.hid hld
    have Hday := Lib.hid hday
    have Hwin := Lib.hid hwin
    clear hck hx0 hb0 hb1 hB1 hB2 hask hbad hfin hg hw0 hld hday hwin
    clear h hK hlen
    have gg1 := trivial
    go_enter Tryz.func46, Tryz.ntmps46
    go_upto_region 10 with (first | (go_at_call 76; refine (Hck.out _ Hx0.out).mono ?_; rintro e w1 ⟨rfl, hx1⟩; clear hW0 z0; obtain ⟨z2, _⟩ := (Ext.refl w1).box (hx1.heap Hb0.out); have hzb := heap_lt (hx1.heap Hb0.out)) | (go_at_call 77; first | (have q := gg1; clear q gg1; refine (fromW1 (alloc_at _ _ _ (by simp)) HB1.out).mono ?_; rintro e w2 ⟨rfl, hx2⟩; have hx12 := (hx1.alloc _).trans hx2; clear z2) | (refine (fromW1 (alloc_at _ _ _ (by simp)) HB2.out).mono ?_; rintro e w3 ⟨rfl, hx3⟩; have hx13 := (hx12.alloc _).trans hx3; have hr2 := hx13.heap Hb1.out; obtain ⟨z3, z4⟩ := (Ext.refl w3).box hr2; have hrl := heap_lt hr2)))
    have hx3 := Hx0.out.trans hx13
    have hb3 := hx13.heap Hb0.out
    have hr3 := hx13.heap Hb1.out
    clear Hx0 Hb0 Hb1 Hck HB1 HB2 hx13 hx12 hx1
    have Hx3 := Lib.hid hx3
    have Hb3 := Lib.hid hb3
    have Hr3 := Lib.hid hr3
    clear hx3 hb3 hr3
    have gg1 := trivial
    have gg2 := trivial
    go_loopw [50, 12] (fun i c wr => ∃ (k : Nat) (z : Int), i = .int .i64 k ∧ c = .int .i64 z ∧ k ≤ dn ∧ Ext w3 wr ∧ 0 ≤ z ∧ z ≤ 100000 ∧ drawsOk wn z (ds.drop k) = drawsOk wn 0 ds) (fun i _ _ => dn - (intOf i).toNat)
    case atStart => exact ⟨0, 0, rfl, rfl, by omega, Ext.refl _, by omega, by omega, rfl⟩
    case round =>
      obtain ⟨k, z, rfl, rfl, hk, hx, hz0, hz1, hdo⟩ := hrel
      by_cases hlt : k < dn
      · have hltB : decide ((k : Int) < (dn : Int)) = true := by simp; omega
        obtain ⟨b, off, x, rfl, hxk, hb, c0, c1, c2⟩ := (Hg.out.ext (Hx3.out.trans hx)).get k hlt
        rw [draws_step hxk] at hdo
        obtain ⟨dw, dd, dq⟩ := x
        simp only at c0 c1 c2 hdo
        have hxg := hx.alloc (.cells #[.int .i64 dw, .int .i64 dd, .int .i64 dq] 102)
        have hdb := heap_alloc_new wr (.cells #[.int .i64 dw, .int .i64 dd, .int .i64 dq] 102)
        have hbc := hxg.heap Hb3.out
        have hrc := hxg.heap Hr3.out
        obtain ⟨P1, e1⟩ : ∃ P, inB dw 0 ((wn : Int) - 1) = P := ⟨_, rfl⟩
        obtain ⟨P2, e2⟩ : ∃ P, inB dd z 100000 = P := ⟨_, rfl⟩
        obtain ⟨P3, e3⟩ : ∃ P, inB dq 0 1000000000 = P := ⟨_, rfl⟩
        rw [e1, e2, e3] at hdo
        have Hxg := Lib.hid hxg
        have Hdb := Lib.hid hdb
        have Hbc := Lib.hid hbc
        have Hrc := Lib.hid hrc
        have E1 := Lib.hid e1
        have E2 := Lib.hid e2
        have E3 := Lib.hid e3
        have Hdo := Lib.hid hdo
        have Hx := Lib.hid hx
        clear hxg hdb hbc hrc e1 e2 e3 hdo hx
        clear hxk
        go_upto_region 12 with fail
        generalize (wr.alloc (.cells #[.int .i64 dw, .int .i64 dd, .int .i64 dq] 102)) = W4 at *
        generalize wr.heap.size = pd at *
        clear c0 c1 c2
        obtain ⟨y0, _⟩ := (Ext.refl W4).box Hdb.out
        obtain ⟨y1, _⟩ := (Ext.refl W4).box Hbc.out
        have hpl := heap_lt Hbc.out
        have hdl0 := heap_lt Hdb.out
        cases P1
        · have hf := Hfin.out _ _ _ _ (Hbad.out 32 (by rw [Hask.out, if_pos (by rw [← Hdo.out]; simp)]) (by decide))
          have Hf := Lib.hid hf
          clear hf
          go_wp2_with (go_at_call 77; first | (have q := gg1; clear q gg1; refine (fromW1 (alloc_at _ _ _ (by simp)) E1.out).mono ?_; rintro e v1 ⟨rfl, hxa⟩; have hxd := ((Ext.refl W4).alloc _).trans hxa; clear y0 y1 hdl0 hpl; obtain ⟨y0, _⟩ := (Ext.refl v1).box (hxd.heap Hdb.out); have hdl0 := heap_lt (hxd.heap Hdb.out); obtain ⟨y2, y3⟩ := (Ext.refl v1).box (hxd.heap Hrc.out); have hrl := heap_lt (hxd.heap Hrc.out)))
          refine bodyPost_ret (results_cell_tmp2 (P := Tryz.prog) (fn := Tryz.f46) rfl _ _ (w.heap.size + 1) 23 #[.int .i64 0, .int .i64 0] (0, 0) _ rfl (set2_box (hxd.heap Hrc.out) _ _) Tryz.underlying23 rfl (by kernel_rfl)) rfl ?_
          exact Hf.out _ (set2_ext (Hx3.out.trans (Hxg.out.trans hxd)) (by omega) _ _)
        cases P2
        · have hf := Hfin.out _ _ _ _ (Hbad.out 32 (by rw [Hask.out, if_pos (by rw [← Hdo.out]; simp)]) (by decide))
          have Hf := Lib.hid hf
          clear hf
          go_wp2_with (go_at_call 77; first | (have q := gg1; clear q gg1; refine (fromW1 (alloc_at _ _ _ (by simp)) E1.out).mono ?_; rintro e v1 ⟨rfl, hxa⟩; have hxd := ((Ext.refl W4).alloc _).trans hxa; clear y0 y1 hdl0 hpl; obtain ⟨y0, _⟩ := (Ext.refl v1).box (hxd.heap Hdb.out); have hdl0 := heap_lt (hxd.heap Hdb.out); obtain ⟨y2, y3⟩ := (Ext.refl v1).box (hxd.heap Hrc.out); have hrl := heap_lt (hxd.heap Hrc.out)) | (have q := gg2; clear q gg2; refine (fromW1 (alloc_at _ _ _ (by simp)) E2.out).mono ?_; rintro e v2 ⟨rfl, hxa⟩; replace hxd := (hxd.alloc _).trans hxa; clear y0 y2 y3 hdl0 hrl; obtain ⟨y0, _⟩ := (Ext.refl v2).box (hxd.heap Hdb.out); have hdl0 := heap_lt (hxd.heap Hdb.out); obtain ⟨y2, y3⟩ := (Ext.refl v2).box (hxd.heap Hrc.out); have hrl := heap_lt (hxd.heap Hrc.out)))
          refine bodyPost_ret (results_cell_tmp2 (P := Tryz.prog) (fn := Tryz.f46) rfl _ _ (w.heap.size + 1) 23 #[.int .i64 0, .int .i64 0] (0, 0) _ rfl (set2_box (hxd.heap Hrc.out) _ _) Tryz.underlying23 rfl (by kernel_rfl)) rfl ?_
          exact Hf.out _ (set2_ext (Hx3.out.trans (Hxg.out.trans hxd)) (by omega) _ _)
        cases P3
        · have hf := Hfin.out _ _ _ _ (Hbad.out 32 (by rw [Hask.out, if_pos (by rw [← Hdo.out]; simp)]) (by decide))
          have Hf := Lib.hid hf
          clear hf
          go_wp2_with (go_at_call 77; first | (have q := gg1; clear q gg1; refine (fromW1 (alloc_at _ _ _ (by simp)) E1.out).mono ?_; rintro e v1 ⟨rfl, hxa⟩; have hxd := ((Ext.refl W4).alloc _).trans hxa; clear y0 y1 hdl0 hpl; obtain ⟨y0, _⟩ := (Ext.refl v1).box (hxd.heap Hdb.out); have hdl0 := heap_lt (hxd.heap Hdb.out); obtain ⟨y2, y3⟩ := (Ext.refl v1).box (hxd.heap Hrc.out); have hrl := heap_lt (hxd.heap Hrc.out)) | (have q := gg2; clear q gg2; refine (fromW1 (alloc_at _ _ _ (by simp)) E2.out).mono ?_; rintro e v2 ⟨rfl, hxa⟩; replace hxd := (hxd.alloc _).trans hxa; clear y0 y2 y3 hdl0 hrl; obtain ⟨y0, _⟩ := (Ext.refl v2).box (hxd.heap Hdb.out); have hdl0 := heap_lt (hxd.heap Hdb.out); obtain ⟨y2, y3⟩ := (Ext.refl v2).box (hxd.heap Hrc.out); have hrl := heap_lt (hxd.heap Hrc.out)) | (refine (fromW1 (alloc_at _ _ _ (by simp)) E3.out).mono ?_; rintro e v3 ⟨rfl, hxa⟩; replace hxd := (hxd.alloc _).trans hxa; clear y0 y2 y3 hdl0 hrl; obtain ⟨y0, _⟩ := (Ext.refl v3).box (hxd.heap Hdb.out); have hdl0 := heap_lt (hxd.heap Hdb.out); obtain ⟨y2, y3⟩ := (Ext.refl v3).box (hxd.heap Hrc.out); have hrl := heap_lt (hxd.heap Hrc.out)))
          refine bodyPost_ret (results_cell_tmp2 (P := Tryz.prog) (fn := Tryz.f46) rfl _ _ (w.heap.size + 1) 23 #[.int .i64 0, .int .i64 0] (0, 0) _ rfl (set2_box (hxd.heap Hrc.out) _ _) Tryz.underlying23 rfl (by kernel_rfl)) rfl ?_
          exact Hf.out _ (set2_ext (Hx3.out.trans (Hxg.out.trans hxd)) (by omega) _ _)
        have hdz := inB_is E2.out
        have hdo2 : drawsOk wn dd (ds.drop (k + 1)) = drawsOk wn 0 ds := by rw [← Hdo.out]; simp
        have Hdo2 := Lib.hid hdo2
        clear hdo2
        go_wp2_with (go_at_call 77; first | (have q := gg1; clear q gg1; refine (fromW1 (alloc_at _ _ _ (by simp)) E1.out).mono ?_; rintro e v1 ⟨rfl, hxa⟩; have hxd := ((Ext.refl W4).alloc _).trans hxa; clear y0 y1 hdl0 hpl; obtain ⟨y0, _⟩ := (Ext.refl v1).box (hxd.heap Hdb.out); have hdl0 := heap_lt (hxd.heap Hdb.out); obtain ⟨y2, y3⟩ := (Ext.refl v1).box (hxd.heap Hrc.out); have hrl := heap_lt (hxd.heap Hrc.out)) | (have q := gg2; clear q gg2; refine (fromW1 (alloc_at _ _ _ (by simp)) E2.out).mono ?_; rintro e v2 ⟨rfl, hxa⟩; replace hxd := (hxd.alloc _).trans hxa; clear y0 y2 y3 hdl0 hrl; obtain ⟨y0, _⟩ := (Ext.refl v2).box (hxd.heap Hdb.out); have hdl0 := heap_lt (hxd.heap Hdb.out); obtain ⟨y2, y3⟩ := (Ext.refl v2).box (hxd.heap Hrc.out); have hrl := heap_lt (hxd.heap Hrc.out)) | (refine (fromW1 (alloc_at _ _ _ (by simp)) E3.out).mono ?_; rintro e v3 ⟨rfl, hxa⟩; replace hxd := (hxd.alloc _).trans hxa; clear y0 y2 y3 hdl0 hrl; obtain ⟨y0, _⟩ := (Ext.refl v3).box (hxd.heap Hdb.out); have hdl0 := heap_lt (hxd.heap Hdb.out); obtain ⟨y2, y3⟩ := (Ext.refl v3).box (hxd.heap Hrc.out); have hrl := heap_lt (hxd.heap Hrc.out)))
        have hxn := Hxg.out.trans hxd
        go_roundw
        case rel => exact ⟨k + 1, dd, by go_num, rfl, by omega, hxn, by omega, by omega, Hdo2.out⟩
        case measure => simp [intOf]; omega
      · have hltB : decide ((k : Int) < (dn : Int)) = false := by simp; omega
        obtain rfl : k = dn := by omega
        rw [List.drop_of_length_le (by omega)] at hdo
        have hdt : drawsOk wn 0 ds = true := by rw [← hdo]; rfl
        have hk0 := Hask.out
        rw [hdt, if_neg (by simp)] at hk0
        obtain ⟨wi, rfl⟩ := Int.eq_ofNat_of_zero_le Hwin.out.1
        have hwi : wi < wn := by have := Hwin.out.2; omega
        have hxw := Hx3.out.trans hx
        obtain ⟨wb, wo, X, rfl, hX, hwb, x0, x1, x2, x3, x4, x5, x6, x7, x8⟩ := (Hw0.out.ext hxw).get wi hwi
        have hXd : l.wells.getD wi zw = X := by rw [List.getD_eq_getElem?_getD, hX]; rfl
        have hdef : waterAt l wi ds day = match drawnOf X wi day X.has (-1) ds with
          | .error j => (⟨0, 0⟩, (j : Int), 33)
          | .ok r => (filledOf X r.1 (day - 1 - r.2), 0, 0) := by
          unfold waterAt
          rw [if_neg (by rw [hk0]; simp), Int.toNat_natCast, hXd]
          rfl
        have hlw := Hld.out
        simp only [landOk, Bool.and_eq_true] at hlw
        have hXok := wellIs (List.all_eq_true.1 hlw.1.2 X (List.mem_of_getElem? hX))
        have hmem := drawsOk_mem hdt
        have hsrt := fun (j : Nat) (x : Draw) (hx : ds[j]? = some x) => draws_sorted hdt hx
        have hbc := hx.heap Hb3.out
        obtain ⟨y0, _⟩ := (Ext.refl wr).box hbc
        have hpl := heap_lt hbc
        have Hdef := Lib.hid hdef
        have HXok := Lib.hid hXok
        have Hmem := Lib.hid hmem
        have Hsrt := Lib.hid hsrt
        have Hxw := Lib.hid hxw
        clear hdef hXok hmem hsrt hxw
        clear hlw hXd hX hk0 hdo hdt hbc
        go_upto_region 19 with fail
        have hD0 : WtIn w X wr.heap.size (wr.heap.size + 1) X.has ((wr.alloc (.cells #[.int .i64 X.x, .int .i64 X.y, .int .i64 X.depth, .int .i64 X.yield.lo, .int .i64 X.yield.hi, .int .i64 X.room, .int .i64 X.has.lo, .int .i64 X.has.hi, .int .i64 X.owner] 135)).alloc (.cells #[.int .i64 X.has.lo, .int .i64 X.has.hi] 23)) := by
          have hr := hx.heap Hr3.out
          have hrl := heap_lt hr
          exact ⟨(Hxw.out.alloc _).alloc _, alloc_heap (alloc_heap hr _) _, alloc_heap (heap_alloc_new wr _) _, alloc_at _ _ _ (by simp), hrl, by omega⟩
        have hgw := Hg.out.ext (((Hxw.out).alloc (.cells #[.int .i64 X.x, .int .i64 X.y, .int .i64 X.depth, .int .i64 X.yield.lo, .int .i64 X.yield.hi, .int .i64 X.room, .int .i64 X.has.lo, .int .i64 X.has.hi, .int .i64 X.owner] 135)).alloc (.cells #[.int .i64 X.has.lo, .int .i64 X.has.hi] 23))
        generalize ((wr.alloc (.cells #[.int .i64 X.x, .int .i64 X.y, .int .i64 X.depth, .int .i64 X.yield.lo, .int .i64 X.yield.hi, .int .i64 X.room, .int .i64 X.has.lo, .int .i64 X.has.hi, .int .i64 X.owner] 135)).alloc (.cells #[.int .i64 X.has.lo, .int .i64 X.has.hi] 23)) = W5 at *
        generalize wr.heap.size = p15 at *
        generalize p15 + 1 = p16 at *
        have hds := shiftE_zero (drawnOf X wi day X.has (-1) ds)
        have HD0 := Lib.hid hD0
        have Hgw := Lib.hid hgw
        have Hds := Lib.hid hds
        clear hD0 hgw hds
        clear hpl y0 x0 x1 x2 x3 x4 x5 x6 x7 x8 hx
        go_loopw [91, 17] (fun i c wr => ∃ (k2 : Nat) (e : Int) (h : Span), i = .int .i64 k2 ∧ c = .int .i64 e ∧ k2 ≤ k ∧ -1 ≤ e ∧ (e < day ∨ e = -1) ∧ SpanIs h 0 X.room ∧ (∀ x ∈ ds.drop k2, e ≤ x.day) ∧ WtIn w X p15 p16 h wr ∧ Ext w wr ∧ shiftE k2 (drawnOf X wi day h e (ds.drop k2)) = drawnOf X wi day X.has (-1) ds) (fun i _ _ => k - (intOf i).toNat)
        case atStart => exact ⟨0, -1, X.has, rfl, rfl, by omega, by omega, .inr rfl, HXok.out.has, fun x hx => by have := (Hmem.out x (by simpa using hx)).2.1; omega, HD0.out, HD0.out.ext, Hds.out⟩
        case round =>
          clear HD0 Hds
          obtain ⟨k2, e, h, rfl, rfl, hk2, he1, he2, hhs, hle, hD, hxV, hsh⟩ := hrel
          by_cases hlt2 : k2 < k
          · have hltB : decide ((k2 : Int) < (k : Int)) = true := by simp; omega
            obtain ⟨b, off, x, rfl, hxk, hb, c0, c1, c2⟩ := (Hg.out.ext hxV).get k2 hlt2
            have hmx := Hmem.out x (List.mem_of_getElem? hxk)
            have hsx := Hsrt.out k2 x hxk
            have hlx := hle x (by rw [drop_at hxk]; exact List.mem_cons_self ..)
            obtain ⟨dw, dd, dq⟩ := x
            simp only at c0 c1 c2 hmx hsx hlx
            have hxg := (Ext.refl wr).alloc (.cells #[.int .i64 dw, .int .i64 dd, .int .i64 dq] 102)
            have hdb := heap_alloc_new wr (.cells #[.int .i64 dw, .int .i64 dd, .int .i64 dq] 102)
            have hDn := hD.next hxg
            have hxn := hxV.trans hxg
            by_cases hs : dw ≠ wi ∨ day ≤ dd
            · rw [drawn_skip hxk hs] at hsh
              have hle2 : ∀ y ∈ ds.drop (k2 + 1), e ≤ y.day := fun y hy => by have := hsx y hy; omega
              have Hsh := Lib.hid hsh
              have HDn := Lib.hid hDn
              have Hxn := Lib.hid hxn
              have Hhs := Lib.hid hhs
              have Hle2 := Lib.hid hle2
              have He2 := Lib.hid he2
              clear hsh hDn hxn hhs hle2 he2
              clear hmx hsx hlx hle hD hxV hxg hdb hxk
              rcases Decidable.em (dw = wi) with h1 | h1
              · have h1B : (dw != (wi : Int)) = false := by simpa using h1
                have h2 : day ≤ dd := hs.resolve_left (fun h => h h1)
                have h2B : decide (day ≤ dd) = true := decide_eq_true h2
                clear hs h1
                go_wp2_with fail
                go_roundw
                case rel => exact ⟨k2 + 1, e, h, by go_num, rfl, by omega, he1, He2.out, Hhs.out, Hle2.out, HDn.out, Hxn.out, Hsh.out⟩
                case measure => simp [intOf]; omega
              · have h1B : (dw != (wi : Int)) = true := by simpa using h1
                clear hs h1
                go_wp2_with fail
                go_roundw
                case rel => exact ⟨k2 + 1, e, h, by go_num, rfl, by omega, he1, He2.out, Hhs.out, Hle2.out, HDn.out, Hxn.out, Hsh.out⟩
                case measure => simp [intOf]; omega
            · obtain ⟨hs1, hs2⟩ : dw = wi ∧ dd < day := ⟨Decidable.byContradiction fun q => hs (.inl q), by omega⟩
              subst hs1
              rw [drawn_take hxk hs] at hsh
              have h1B : ((wi : Int) != (wi : Int)) = false := by simp
              have h2B : decide (day ≤ dd) = false := by simp; omega
              have hroom := HXok.out.room
              have hfs := filled_is HXok.out hhs (show 0 ≤ dd - e by omega)
              have hfl := fun W => filled_any X h (dd - e) W HXok.out ⟨hhs.low, hhs.ord, by have := hhs.top; omega⟩ (by omega)
              simp only at hsh
              generalize filledOf X h (dd - e) = F at *
              obtain ⟨f0, f1⟩ := F
              obtain ⟨h0, h1⟩ := h
              unfold Well.val Span.val at hfl
              simp only at hfl hsh
              have hwe := hDn.we
              have hpw := heap_lt hDn.we
              have hph := heap_lt hDn.ha
              have hmx3 := hmx.2.2.2
              have hF0 := hfs.low
              have hF1 := hfs.top
              have hF2 := hfs.ord
              simp only at hF0 hF1 hF2
              have hle3 : ∀ y ∈ ds.drop (k2 + 1), dd ≤ y.day := hsx
              have hk200 : k ≤ 200 := hdn
              obtain ⟨z0, _⟩ := (Ext.refl _).box hDn.ha
              obtain ⟨z1, _⟩ := (Ext.refl _).box hdb
              have hp16l := heap_lt hD.ha
              have Hfl := Lib.hid hfl
              have Hwe := Lib.hid hwe
              have HDn := Lib.hid hDn
              have Hxn := Lib.hid hxn
              have Hsh := Lib.hid hsh
              have Hle3 := Lib.hid hle3
              have Hdb := Lib.hid hdb
              have HF0 := Lib.hid hF0
              have HF1 := Lib.hid hF1
              have HF2 := Lib.hid hF2
              have Hmx3 := Lib.hid hmx3
              have Hp16l := Lib.hid hp16l
              clear hfl hwe hDn hxn hsh hle3 hdb hF0 hF1 hF2 hmx3 hp16l
              clear hs hle hD hxV hxg hxk hsx hmx hfs hhs hroom
              have hdd1 : dd ≤ 100000 := by have := Hday.out.2; omega
              go_upto_region 23 with (first | (refine wpList_load_row rfl 135 (.tmp 15) rfl p15 rfl 135 _ (0, 0) _ Hwe.out Tryz.underlying135 rfl (by kernel_rfl) ?_) | (go_at_call 78; refine (Hfl.out _).mono ?_; rintro e9 v9 ⟨rfl, hx9⟩; clear z0 z1; have hr9 := hx9.heap HDn.out.ha; obtain ⟨z8, z9⟩ := (Ext.refl v9).box hr9; have hrl := heap_lt hr9))
              have hD7 := (HDn.out.next hx9).put f0 f1
              have hpd : wr.heap.size ≠ p16 := by
                have h1 := Hp16l.out
                omega
              have hdb7 := set2_other (hx9.heap Hdb.out) (b := p16) hpd (.int .i64 f0) (.int .i64 f1)
              generalize ((v9.setCell ⟨p16, 0, none⟩ (.int .i64 f0)).setCell ⟨p16, 1, none⟩ (.int .i64 f1)) = W7 at *
              generalize wr.heap.size = pd at *
              have hx7 := hD7.ext
              have hr7 := hD7.rs
              have h16 := hD7.ha
              have h16l := heap_lt h16
              have hr7l := heap_lt hr7
              obtain ⟨y0, _⟩ := (Ext.refl W7).box h16
              obtain ⟨y1, _⟩ := (Ext.refl W7).box hdb7
              obtain ⟨y2, y3⟩ := (Ext.refl W7).box hr7
              have hF0 := HF0.out
              have hF1 := HF1.out
              have hF2 := HF2.out
              have hq0 := Hmx3.out
              have hroom := HXok.out.room
              clear z8 z9 hrl hx9 hr9
              by_cases hq : f1 < dq
              · have hqB : decide (f1 < dq) = true := decide_eq_true hq
                have hsh := Hsh.out
                rw [if_pos hq] at hsh
                have hdf := Hdef.out
                rw [← hsh] at hdf
                have hf := Hfin.out 0 0 (k2 : Int) 33 hdf
                have Hf := Lib.hid hf
                have Hx7 := Lib.hid hx7
                have Hr7 := Lib.hid hr7
                have HD7 := Lib.hid hD7
                have Hdb7 := Lib.hid hdb7
                have H16 := Lib.hid h16
                clear hf hx7 hr7 hD7 hdb7 h16
                clear hsh hdf hq
                go_wp2_with fail
                refine bodyPost_ret (results_cell_tmp2 (P := Tryz.prog) (fn := Tryz.f46) rfl _ _ (w.heap.size + 1) 23 #[.int .i64 0, .int .i64 0] (0, 0) _ rfl (set2_box Hr7.out _ _) Tryz.underlying23 rfl (by kernel_rfl)) rfl ?_
                exact Hf.out _ (set2_ext Hx7.out (by omega) _ _)
              · have hqB : decide (f1 < dq) = false := decide_eq_false hq
                have hsh := Hsh.out
                rw [if_neg hq] at hsh
                obtain ⟨M, hM⟩ : ∃ M, (if dq < f0 then f0 - dq else 0) = M := ⟨_, rfl⟩
                have hMe : max 0 (f0 - dq) = M := by rw [← hM]; split <;> omega
                have hM0 : 0 ≤ M ∧ M ≤ f1 - dq := by omega
                rw [hMe] at hsh
                have hD8 := hD7.put M (f1 - dq)
                have hsp8 : SpanIs ⟨M, f1 - dq⟩ 0 X.room := ⟨hM0.1, hM0.2, by simp only; omega⟩
                obtain ⟨y4, y5⟩ := (Ext.refl W7).box h16
                have Hsh := Lib.hid hsh
                have Hx7 := Lib.hid hx7
                have Hr7 := Lib.hid hr7
                have HD7 := Lib.hid hD7
                have Hdb7 := Lib.hid hdb7
                have H16 := Lib.hid h16
                have HD8 := Lib.hid hD8
                have Hsp8 := Lib.hid hsp8
                clear hsh hx7 hr7 hD7 hdb7 h16 hD8 hsp8
                clear hMe hM0 hq y0
                go_wp2_with fail
                go_roundw
                case rel => exact ⟨k2 + 1, dd, ⟨M, f1 - dq⟩, by go_num, rfl, by omega, by omega, .inl hs2, Hsp8.out, Hle3.out, HD8.out, HD8.out.ext, Hsh.out⟩
                case measure => simp [intOf]; omega
          · have hltB : decide ((k2 : Int) < (k : Int)) = false := by simp; omega
            obtain rfl : k2 = k := by omega
            rw [List.drop_of_length_le (show ds.length ≤ k2 by omega)] at hsh
            have hdf := Hdef.out
            rw [← hsh] at hdf
            have hroom := HXok.out.room
            change _ = (filledOf X h (day - 1 - e), (0 : Int), (0 : Int)) at hdf
            have hfl := fun W => filled_any X h (day - 1 - e) W HXok.out ⟨hhs.low, hhs.ord, by have := hhs.top; omega⟩ (by have := Hday.out; omega)
            generalize filledOf X h (day - 1 - e) = F at *
            obtain ⟨f0, f1⟩ := F
            obtain ⟨h0, h1⟩ := h
            have hf := Hfin.out f0 f1 0 0 hdf
            unfold Well.val Span.val at hfl
            simp only at hfl
            have hwe := hD.we
            have hday := Hday.out
            obtain ⟨z0, _⟩ := (Ext.refl wr).box hD.ha
            have Hfl := Lib.hid hfl
            have Hf := Lib.hid hf
            have Hwe := Lib.hid hwe
            have HD := Lib.hid hD
            have HxV := Lib.hid hxV
            clear hfl hf hwe hD hxV
            clear hle hsh hdf hhs hroom
            go_wp2_with (first | (refine wpList_load_row rfl 135 (.tmp 15) rfl p15 rfl 135 _ (0, 0) _ Hwe.out Tryz.underlying135 rfl (by kernel_rfl) ?_) | (go_at_call 78; refine (Hfl.out _).mono ?_; rintro e9 v9 ⟨rfl, hx9⟩; clear z0; have hr9 := hx9.heap HD.out.rs; obtain ⟨z8, z9⟩ := (Ext.refl v9).box hr9; have hrl := heap_lt hr9))
            refine bodyPost_ret (results_cell_tmp2 (P := Tryz.prog) (fn := Tryz.f46) rfl _ _ (w.heap.size + 1) 23 #[.int .i64 f0, .int .i64 f1] (0, 0) _ rfl (set2_box hr9 _ _) Tryz.underlying23 rfl (by kernel_rfl)) rfl ?_
            exact Hf.out _ (set2_ext (HxV.out.trans hx9) (b := w.heap.size + 1) (by omega) _ _)
  · rw [hK] at hask hck
    rw [if_neg (by decide)] at hask
    have hf := hfin _ _ _ _ (hbad _ hask (by decide))
    have Hck := Lib.hid hck
    have Hx0 := Lib.hid hx0
    have Hb0 := Lib.hid hb0
    have Hb1 := Lib.hid hb1
    have Hf := Lib.hid hf
    clear hck hx0 hb0 hb1 hf
    clear hbad hfin hg h hask hK
    go_enter Tryz.func46, Tryz.ntmps46
    go_wp2_with (go_at_call 76; refine (Hck.out _ Hx0.out).mono ?_; rintro e w1 ⟨rfl, hx1⟩; clear hW0 z0; have hr1 := hx1.heap Hb1.out; obtain ⟨z1, z2⟩ := (Ext.refl w1).box hr1; have hrl := heap_lt hr1)
    refine bodyPost_ret (results_cell_tmp2 (P := Tryz.prog) (fn := Tryz.f46) rfl _ _ (w.heap.size + 1) 23 #[.int .i64 0, .int .i64 0] (0, 0) _ rfl (set2_box hr1 _ _) Tryz.underlying23 rfl (by kernel_rfl)) rfl ?_
    exact Hf.out _ (set2_ext (Hx0.out.trans hx1) (by omega) _ _)
end Go.Proofs.YtcoelhpmkhimpaaGreatDoor
