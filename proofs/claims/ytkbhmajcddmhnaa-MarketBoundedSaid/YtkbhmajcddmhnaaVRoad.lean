/- Contracts: the road of the program and of the reference. -/
import Derived.Test.YtkbhmajcddmhnaaVPurse
import Derived.Test.YtkbhmajcddmhnaaVRefBound
namespace Go.Proofs.Ytkbhmajcddmhnaa
open Go.RowKit
set_option linter.unusedVariables false
set_option linter.unusedSimpArgs false

theorem left_any (n k : Int) (w : World) (h0 : 0 ≤ n) (h1 : n ≤ 1000000000000000) (h2 : 0 ≤ k) (h3 : k ≤ 1000) :
    Calls Try.prog 81 #[.int .i64 n, .int .i64 k] w fun e w' => e = .returned (.int .i64 (lf n k)) ∧ w' = w := by
  obtain ⟨m1, m2⟩ := mul_bd (M := 1000000000000000) (N := 1000) h0 h1 h2 h3
  simp only [Int.reduceMul] at m2
  go_enter Try.func81, Try.ntmps81
  go_wp2_with fail
  go_ret
  exact ⟨rfl, rfl⟩

theorem info73 : (Try.prog.info? 73).map (fun i => (i.zero, i.size, i.bytes)) = some (some (.agg #[.int .i64 0, .int .i64 0, .int .i64 0, .int .i64 0]), 4, 32) := by kernel_rfl
theorem elem36 : Elem Try.prog 36 73 4 := by
  obtain ⟨i, h1, h2, h3, h4⟩ := info_parts info73
  exact ⟨Try.underlying36, ⟨i, _, _, h1, h2, h3, h4, rfl, by decide⟩, by decide⟩
theorem Only.app {p : Nat} {a b c : World} {e : TypeId} {sz : Nat} {v : Value} {rows : List (List Value)} (h : Only p a b) (ho : Owns b a.heap.size e sz v rows) (hg : b.grownBy c v.ownBlock) : Only p a c :=
  ⟨hg.os.trans h.os, hg.tape.trans h.tape, hg.output.trans h.output, Nat.le_trans h.size hg.size, fun k hk hne => (hg.block k (Nat.lt_of_lt_of_le hk h.size) (fun e => by have := (ho.lt k e.symm).1; omega)).trans (h.block k hk hne)⟩
theorem HeldAt.app {b : Nat} {held : List Span} {w c : World} {base : Nat} {e : TypeId} {sz : Nat} {v : Value} {rows : List (List Value)} (h : HeldAt w b held) (ho : Owns w base e sz v rows) (hg : w.grownBy c v.ownBlock) (hb : b < base) : HeldAt c b held :=
  h.same (hg.block b h.lt (fun e => by have := (ho.lt b e.symm).1; omega))
theorem two_boxes (w : World) (X Y : Array Value) (t u : TypeId) : Ext w ((w.alloc (.cells X t)).alloc (.cells Y u)).drew ∧ ((w.alloc (.cells X t)).alloc (.cells Y u)).drew.heap[w.heap.size]? = some (.cells X t (0, 0)) ∧ ((w.alloc (.cells X t)).alloc (.cells Y u)).drew.heap[w.heap.size + 1]? = some (.cells Y u (0, 0)) :=
  ⟨(((Ext.refl _).alloc _).alloc _).drew, ((Ext.refl _).alloc _).drew.heap (heap_alloc_new w _), by
    have := heap_alloc_new (w.alloc (.cells X t)) (.cells Y u)
    rw [show (w.alloc (Obj.cells X t)).heap.size = w.heap.size + 1 by simp] at this
    exact this⟩
theorem Only.drew' {p : Nat} {a b : World} (h : Only p a b) : Only p a b.drew := h.drew

/-- a road has been gone: the losses, and what there is -/
def RoadPost (b : Nat) (r : Int) (held ks : List Span) (w : World) (e : Ending) (w' : World) : Prop :=
  ∃ a n c, e = .returned (.slice a n c) ∧ Only b w w' ∧ From w.heap.size a ∧ n ≤ c ∧ c ≤ maxLen ∧ LossesAt w' a n (roadLosses r held ks 5) ∧ HeldAt w' b (roadTo held ks 5)

set_option maxRecDepth 100000 in
set_option maxHeartbeats 4000000 in
theorem road_any (b : Nat) (r : Int) (p d : Int) (ka : Option Addr) (kc : Nat) (held ks : List Span) (w : World) (hh : HeldAt w b held) (hk : SpansAt w ka 5 ks) (hkb : ∀ x, ka = some x → x.block ≠ b) (ho : HeldOk held) (hko : KeepsOk ks) :
    Calls Try.prog 54 #[.pointer (some ⟨b, 0, none⟩), .agg #[.int .i64 p, .int .i64 d, .slice ka 5 kc], .int .i64 r] w (RoadPost b r held ks w) := by
  have hb0 := hh.lt
  obtain ⟨kb, ko, _, rfl, _, hkbl, _⟩ := hk.get 0 (by omega)
  have hkne : kb ≠ b := hkb _ rfl
  have Hk := Lib.hid hk
  have Ho := Lib.hid ho
  have Hko := Lib.hid hko
  have Hh := Lib.hid hh
  clear hh hk hkb ho hko
  go_enter Try.func54, Try.ntmps54
  go_wp2_with fail
  have hbx : (w.alloc (.cells #[.int .i64 p, .int .i64 d, .slice (some ⟨kb, ko, none⟩) 5 kc] 83)).heap[w.heap.size]? = some (.cells #[.int .i64 p, .int .i64 d, .slice (some ⟨kb, ko, none⟩) 5 kc] 83 (0, 0)) := heap_alloc_new _ _
  have hx0 : Ext w (w.alloc (.cells #[.int .i64 p, .int .i64 d, .slice (some ⟨kb, ko, none⟩) 5 kc] 83)) := (Ext.refl _).alloc _
  generalize w.alloc (.cells #[.int .i64 p, .int .i64 d, .slice (some ⟨kb, ko, none⟩) 5 kc] 83) = W0 at *
  have Hbx := Lib.hid hbx
  have Hx0 := Lib.hid hx0
  clear hbx hx0
  go_loopw [7, 12] (fun v i wr => ∃ k : Nat, k ≤ 5 ∧ i = .int .i64 k ∧ Only b W0 wr ∧ HeldAt wr b (roadTo held ks k) ∧ Owns wr W0.heap.size 73 4 v (lossRows (roadLosses r held ks k))) (fun _ i _ => 5 - (intOf i).toNat)
  case atStart => exact ⟨0, Nat.zero_le _, rfl, Only.refl _ _, Hh.out.ext Hx0.out, Owns.nil _ _ _ _⟩
  case round =>
    obtain ⟨k, hk5, rfl, hx, hheld, hown⟩ := hrel
    have Hx := Lib.hid hx
    have Hheld := Lib.hid hheld
    have Hown := Lib.hid hown
    by_cases hlt : k < 5
    · obtain ⟨s, hs, c0, c1, cf⟩ := hheld.get k hlt
      rw [roadTo_get held ks k k (Nat.le_refl _)] at hs
      have hko' := (Hk.out.ext Hx0.out)
      obtain ⟨kb', ko', t, e, ht, _, d0, d1⟩ := hko'.get k hlt
      cases e
      have d0' := hx.cell d0 hkne
      have d1' := hx.cell d1 hkne
      obtain ⟨s1, s2, s3⟩ := Ho.out.2 k s hs
      obtain ⟨t1, t2, t3⟩ := Hko.out.2 k t ht
      have hwb : w.heap.size ≠ b := by omega
      obtain ⟨bc, bf⟩ := hx.box Hbx.out hwb
      have hbw : b < wr.heap.size := by have := hx.size; have := Hx0.out.size; omega
      have hkw : kb < wr.heap.size := by have := hx.size; have := Hx0.out.size; omega
      have hlt' : decide ((k : Int) < 5) = true := by simp; omega
      obtain ⟨lo, hi⟩ := s
      obtain ⟨kl, kh⟩ := t
      simp only at c0 c1 d0' d1' s1 s2 s3 t1 t2 t3
      have Hs := Lib.hid hs
      have Ht := Lib.hid ht
      clear hs ht hx hheld hown d0 d1 hko'
      go_wp2_with fail
      refine wp_region_tree (.take [0, 1, 2, 3, 4, 5, 6, 7, 8, 9] (.two 10 (.one 11 (.one 12 (.one 13 .done))) 11 (.one 10 (.one 12 (.one 13 .done))))) (Ext wr) _ (by kernel_rfl) (by kernel_rfl) rfl (Ext.refl _).drew ?_
      intro ι _ f hf hs
      have f0 := fun p => (hf p).cell c0
      have f1 := fun p => (hf p).cell c1
      have f2 := fun p => (hf p).cell d0'
      have f3 := fun p => (hf p).cell d1'
      have f4 := fun q => ((Hx.out.ext (hf q)).box Hbx.out hwb).1
      have HS := Lib.hid hs
      clear hf hs bc bf
      simp only [treeOf, oneOp, twoOp, opsOf, consOp, List.getElem?_toArray, List.getElem?_cons_succ, List.getElem?_cons_zero]
      refine wpOT_take ?_
      repeat (go_big_quiet_step (fail))
      refine wpQuiet_nil ?_
      clear f0 f1 f2 f3 f4
      have hsp : decide ((0 : Int) < 5) = true := rfl
      clear hsp
      have HL1 := Lib.hid (fun W => left_any lo kl W s1 (by omega) t1 (by omega))
      have HL2 := Lib.hid (fun W => left_any hi kh W (by omega) s3 (by omega) t3)
      have HL3 := Lib.hid (fun W => left_any lo kh W s1 (by omega) (by omega) t3)
      have HL4 := Lib.hid (fun W => left_any hi kl W (by omega) s3 t1 (by omega))
      obtain ⟨m1, m1'⟩ := lf_le s1 t1 (show kl ≤ 1000 by omega)
      obtain ⟨m2, m2'⟩ := lf_le (show 0 ≤ hi by omega) (show 0 ≤ kh by omega) t3
      obtain ⟨m3, m3'⟩ := lf_le s1 (show 0 ≤ kh by omega) t3
      obtain ⟨m4, m4'⟩ := lf_le (show 0 ≤ hi by omega) t1 (show kl ≤ 1000 by omega)
      have hstep : roadTo held ks (k + 1) = (roadTo held ks k).set k ⟨lf lo kl, lf hi kh⟩ := by
        have e1 := Hs.out
        have e2 := Ht.out
        simp only [roadTo, List.getD, e1, e2, Option.getD_some, roadSpan]
      have hloss : roadLosses r held ks (k + 1) = roadLosses r held ks k ++ (if 0 < hi - lf hi kl then [⟨r, k, lo - lf lo kh, hi - lf hi kl⟩] else []) := by
        have e1 := Hs.out
        have e2 := Ht.out
        simp only [roadLosses, roadLoss, List.getD, e1, e2, Option.getD_some, roadLost]
      have Hstep := Lib.hid hstep
      have Hloss := Lib.hid hloss
      clear hstep hloss
      generalize lf lo kl = a1 at *
      generalize lf hi kh = a2 at *
      generalize lf lo kh = a3 at *
      generalize lf hi kl = a4 at *
      refine wpOT_both ?_
      apply join_two (F := fun p9 p10 W1 => Ext wr W1 ∧ W1.heap[p9]? = some (.cells #[.int .i64 lo, .int .i64 hi] 70 (0, 0)) ∧ W1.heap[p10]? = some (.cells #[.int .i64 kl, .int .i64 kh] 70 (0, 0)) ∧ p9 ≠ b ∧ p10 ≠ b)
      · intro G
        go_wp2_with fail
        refine ⟨HS.out _ ((Ext.refl _).alloc _).drew, ?_⟩
        refine wpOT_one ?_
        go_wp2_with fail
        refine ⟨HS.out _ (((Ext.refl _).alloc _).alloc _).drew, ?_⟩
        refine wpOT_one ?_
        go_wp2_with fail
        refine ⟨HS.out _ (((Ext.refl _).alloc _).alloc _).drew, ?_⟩
        refine wpOT_one ?_
        go_wp2_with fail
        refine ⟨HS.out _ (((Ext.refl _).alloc _).alloc _).drew, ?_⟩
        refine wpOT_done ?_
        obtain ⟨hx1, hba, hbb⟩ := two_boxes wr #[Value.int IntKind.i64 lo, Value.int IntKind.i64 hi] #[Value.int IntKind.i64 kl, Value.int IntKind.i64 kh] 70 70
        have hn1 : wr.heap.size + 1 ≠ b := by omega
        have hn2 : wr.heap.size ≠ b := by omega
        generalize ((wr.alloc (Obj.cells #[Value.int IntKind.i64 lo, Value.int IntKind.i64 hi] 70)).alloc (Obj.cells #[Value.int IntKind.i64 kl, Value.int IntKind.i64 kh] 70)).drew = W1 at hx1 hba hbb ⊢
        generalize wr.heap.size + 1 = q1 at hbb hn1 ⊢
        generalize wr.heap.size = q2 at hba hn2 ⊢
        exact G _ _ _ ⟨hx1, hba, hbb, hn2, hn1⟩
      · intro G
        go_wp2_with fail
        refine ⟨HS.out _ ((Ext.refl _).alloc _).drew, ?_⟩
        refine wpOT_one ?_
        go_wp2_with fail
        refine ⟨HS.out _ (((Ext.refl _).alloc _).alloc _).drew, ?_⟩
        refine wpOT_one ?_
        go_wp2_with fail
        refine ⟨HS.out _ (((Ext.refl _).alloc _).alloc _).drew, ?_⟩
        refine wpOT_one ?_
        go_wp2_with fail
        refine ⟨HS.out _ (((Ext.refl _).alloc _).alloc _).drew, ?_⟩
        refine wpOT_done ?_
        obtain ⟨hx1, hba, hbb⟩ := two_boxes wr #[Value.int IntKind.i64 kl, Value.int IntKind.i64 kh] #[Value.int IntKind.i64 lo, Value.int IntKind.i64 hi] 70 70
        have hn1 : wr.heap.size + 1 ≠ b := by omega
        have hn2 : wr.heap.size ≠ b := by omega
        generalize ((wr.alloc (Obj.cells #[Value.int IntKind.i64 kl, Value.int IntKind.i64 kh] 70)).alloc (Obj.cells #[Value.int IntKind.i64 lo, Value.int IntKind.i64 hi] 70)).drew = W1 at hx1 hba hbb ⊢
        generalize wr.heap.size + 1 = q1 at hbb hn1 ⊢
        generalize wr.heap.size = q2 at hba hn2 ⊢
        exact G _ _ _ ⟨hx1, hbb, hba, hn1, hn2⟩
      rintro p9 p10 W1 ⟨hx1, hb9, hb10, hb9b, hb10b⟩
      have hb1 : HeldAt W1 b (roadTo held ks k) := Hheld.out.ext hx1
      have hown1 := Hown.out.ext hx1
      have hx01 : Only b W0 W1 := Hx.out.ext hx1
      have Hb1 := Lib.hid (And.intro hb1 (And.intro hown1 hx01))
      have Hx1 := Lib.hid hx1
      obtain ⟨_, _, _, c1f⟩ := hb1.get k hlt
      have c0x := hx1.cell c0
      have c1x := hx1.cell c1
      clear HS hb1 hown1 hx01 hx1 c0 c1 d0' d1' cf
      have Hb9 := Lib.hid hb9
      have Hb10 := Lib.hid hb10
      clear hb9 hb10
      go_wp2_with fail
      refine wp_region_tree (.take [0, 1, 2, 3, 4, 5, 7, 8, 9, 10, 13] (.one 6 (.one 11 (.take [12, 14] (.one 15 .done))))) (Only b W1) _ (by kernel_rfl) (by kernel_rfl) rfl (Only.refl _ _).drew ?_
      intro ι _ f hf hs
      have f9 := fun q => ((hf q).box Hb9.out hb9b).1
      have f10 := fun q => ((hf q).box Hb10.out hb10b).1
      have HS := Lib.hid hs
      clear hf hs
      simp only [treeOf, oneOp, twoOp, opsOf, consOp, List.getElem?_toArray, List.getElem?_cons_succ, List.getElem?_cons_zero]
      refine wpOT_take ?_
      repeat (go_big_quiet_step (fail))
      refine wpQuiet_nil ?_
      clear f9 f10
      refine wpOT_one ?_
      go_wp2_with (go_at_call 81; refine (HL1.out _).mono ?_; rintro e w' ⟨rfl, rfl⟩)
      refine ⟨HS.out _ (Only.refl _ _).drew, ?_⟩
      refine wpOT_one ?_
      go_wp2_with (go_at_call 81; refine (HL2.out _).mono ?_; rintro e w' ⟨rfl, rfl⟩)
      refine ⟨HS.out _ (Only.refl _ _).drew, ?_⟩
      refine wpOT_take ?_
      repeat (go_big_quiet_step (fail))
      refine wpQuiet_nil ?_
      refine wpOT_one ?_
      go_wp2_with fail
      have hx2 : Only b W1 ((W1.setCell ⟨b, k * 2, none⟩ (.int .i64 a1)).setCell ⟨b, k * 2 + 1, none⟩ (.int .i64 a2)).drew := (((Only.refl b W1).setCell (x := ⟨b, k * 2, none⟩) (.inl rfl) _).setCell (x := ⟨b, k * 2 + 1, none⟩) (.inl rfl) _).drew
      refine ⟨HS.out _ hx2, ?_⟩
      refine wpOT_done ?_
      have hh2 : HeldAt ((W1.setCell ⟨b, k * 2, none⟩ (.int .i64 a1)).setCell ⟨b, k * 2 + 1, none⟩ (.int .i64 a2)).drew b (roadTo held ks (k + 1)) := by
        rw [Hstep.out]
        exact (Hb1.out.1.set (g := k) (by rw [roadTo_get held ks k k (Nat.le_refl _)]; exact Hs.out) a1 a2).same rfl
      have Hx2 := Lib.hid hx2
      have Hh2 := Lib.hid hh2
      clear hx2 hh2 HS c0x c1x c1f
      generalize ((W1.setCell ⟨b, k * 2, none⟩ (.int .i64 a1)).setCell ⟨b, k * 2 + 1, none⟩ (.int .i64 a2)).drew = W2 at *
      go_wp2_with fail
      refine wp_region_tree (.take [0, 1, 2, 3, 4, 5, 8, 9, 10, 11, 12, 13] (.two 6 (.take [7] (.two 14 (.take [15, 16] (.one 17 (.one 18 .done))) 17 (.one 14 (.take [15, 16] (.one 18 .done))))) 17 (.one 6 (.take [7] (.one 14 (.take [15, 16] (.one 18 .done))))))) (Ext W2) _ (by kernel_rfl) (by kernel_rfl) rfl (Ext.refl _).drew ?_
      intro ι _ f hf hs
      have f9 := fun q => ((Hx2.out.ext (hf q)).box Hb9.out hb9b).1
      have f10 := fun q => ((Hx2.out.ext (hf q)).box Hb10.out hb10b).1
      have HS := Lib.hid hs
      clear hf hs
      simp only [treeOf, oneOp, twoOp, opsOf, consOp, List.getElem?_toArray, List.getElem?_cons_succ, List.getElem?_cons_zero]
      refine wpOT_take ?_
      repeat (go_big_quiet_step (fail))
      refine wpQuiet_nil ?_
      clear f9 f10
      refine wpOT_both ?_
      apply join_same
      · intro G
        go_wp2_with (go_at_call 81; refine (HL3.out _).mono ?_; rintro e w' ⟨rfl, rfl⟩)
        refine ⟨HS.out _ (Ext.refl _).drew, ?_⟩
        refine wpOT_take ?_
        repeat (go_big_quiet_step (fail))
        refine wpQuiet_nil ?_
        refine wpOT_two ?_ ?_
        · go_wp2_with (go_at_call 81; refine (HL4.out _).mono ?_; rintro e w' ⟨rfl, rfl⟩)
          refine ⟨HS.out _ (Ext.refl _).drew, ?_⟩
          refine wpOT_take ?_
          repeat (go_big_quiet_step (fail))
          refine wpQuiet_nil ?_
          refine wpOT_one ?_
          go_wp2_with fail
          refine ⟨HS.out _ ((Ext.refl _).alloc _).drew, ?_⟩
          refine wpOT_one ?_
          go_wp2_with fail
          refine ⟨HS.out _ ((Ext.refl _).alloc _).drew, ?_⟩
          refine wpOT_done ?_
          exact G
        · go_wp2_with fail
          refine ⟨HS.out _ ((Ext.refl _).alloc _).drew, ?_⟩
          refine wpOT_one ?_
          go_wp2_with (go_at_call 81; refine (HL4.out _).mono ?_; rintro e w' ⟨rfl, rfl⟩)
          refine ⟨HS.out _ ((Ext.refl _).alloc _).drew, ?_⟩
          refine wpOT_take ?_
          repeat (go_big_quiet_step (fail))
          refine wpQuiet_nil ?_
          refine wpOT_one ?_
          go_wp2_with fail
          refine ⟨HS.out _ ((Ext.refl _).alloc _).drew, ?_⟩
          refine wpOT_done ?_
          exact G
      · intro G
        go_wp2_with fail
        refine ⟨HS.out _ ((Ext.refl _).alloc _).drew, ?_⟩
        refine wpOT_one ?_
        go_wp2_with (go_at_call 81; refine (HL3.out _).mono ?_; rintro e w' ⟨rfl, rfl⟩)
        refine ⟨HS.out _ ((Ext.refl _).alloc _).drew, ?_⟩
        refine wpOT_take ?_
        repeat (go_big_quiet_step (fail))
        refine wpQuiet_nil ?_
        refine wpOT_one ?_
        go_wp2_with (go_at_call 81; refine (HL4.out _).mono ?_; rintro e w' ⟨rfl, rfl⟩)
        refine ⟨HS.out _ ((Ext.refl _).alloc _).drew, ?_⟩
        refine wpOT_take ?_
        repeat (go_big_quiet_step (fail))
        refine wpQuiet_nil ?_
        refine wpOT_one ?_
        go_wp2_with fail
        refine ⟨HS.out _ ((Ext.refl _).alloc _).drew, ?_⟩
        refine wpOT_done ?_
        exact G
      clear HS
      have hx3 : Ext W2 (W2.alloc (Obj.cells #[Value.int IntKind.i64 (lo - a3), Value.int IntKind.i64 (hi - a4)] 70)).drew := ((Ext.refl _).alloc _).drew
      have hb11 : (W2.alloc (Obj.cells #[Value.int IntKind.i64 (lo - a3), Value.int IntKind.i64 (hi - a4)] 70)).drew.heap[W2.heap.size]? = some (.cells #[.int .i64 (lo - a3), .int .i64 (hi - a4)] 70 (0, 0)) := heap_alloc_new W2 _
      generalize (W2.alloc (Obj.cells #[Value.int IntKind.i64 (lo - a3), Value.int IntKind.i64 (hi - a4)] 70)).drew = W3 at *
      generalize W2.heap.size = p11 at hb11 ⊢
      have hbW0 : b < W0.heap.size := by have := Hx0.out.size; omega
      have hown3 : Owns W3 W0.heap.size 73 4 u7 (lossRows (roadLosses r held ks k)) := ((Hb1.out.2.1.only Hx2.out hbW0).ext hx3)
      have hx03 : Only b W0 W3 := (Hb1.out.2.2.trans Hx2.out).ext hx3
      have hh3 : HeldAt W3 b (roadTo held ks (k + 1)) := Hh2.out.ext hx3
      have H3 := Lib.hid (And.intro hown3 (And.intro hx03 hh3))
      obtain ⟨b11, f11⟩ := (Ext.refl W3).box hb11
      clear hx3 hb11 hown3 hx03 hh3 Hx2 Hh2 Hb1 Hb9 Hb10 Hx1
      by_cases hpos : 0 < hi - a4
      · have hposB : decide (a4 < hi) = true := by simp; omega
        have hl := Hloss.out
        rw [if_pos hpos] at hl
        have HlossT := Lib.hid hl
        clear hl hpos Hloss
        have hown4 := H3.out.1.alloc (Obj.cells #[.int .i64 r, .int .i64 k, .int .i64 (lo - a3), .int .i64 (hi - a4)] 73)
        have Ho4 := Lib.hid hown4
        have hx04 := H3.out.2.1.alloc (Obj.cells #[.int .i64 r, .int .i64 k, .int .i64 (lo - a3), .int .i64 (hi - a4)] 73)
        have Hx04 := Lib.hid hx04
        have hh4 := H3.out.2.2.ext ((Ext.refl W3).alloc (Obj.cells #[.int .i64 r, .int .i64 k, .int .i64 (lo - a3), .int .i64 (hi - a4)] 73))
        have Hh4 := Lib.hid hh4
        clear hown4 hx04 hh4
        have hll := roadLosses_len r held ks k
        go_wp2_with (at_builtin; refine wpList_app elem36 _ rfl (.tmp 60) (.tmp 65) rfl W0.heap.size _ _ rfl Ho4.out (some ⟨W3.heap.size, 0, none⟩) 1 1 (lossRows [⟨r, k, lo - a3, hi - a4⟩]) rfl rfl (slAt_one ?_) (lossRows_row _) ?_ ?_ ?_)
        · intro j u hj
          have := cell_of_row _ W3.heap.size j _ 73 (0, 0) (heap_alloc_new W3 (Obj.cells #[.int .i64 r, .int .i64 k, .int .i64 (lo - a3), .int .i64 (hi - a4)] 73))
          simp only [Nat.zero_add]
          rw [this]
          simpa [Loss.cells] using hj
        · simp only [lossRows, List.length_map]; omega
        · have := H3.out.2.1.size; simp; omega
        · intro v' w2 ho2 hg2 _
          have hx2 := Hx04.out.app Ho4.out hg2
          have hh2 := Hh4.out.app Ho4.out hg2 hbW0
          clear b11 f11
          go_wp2_with fail
          go_roundw
          case rel => exact ⟨k + 1, by omega, by go_num, hx2, hh2, by rw [HlossT.out, lossRows_append]; exact ho2⟩
          case measure => simp [intOf]; omega
      · have hposB : decide (a4 < hi) = false := by simp; omega
        have hl := Hloss.out
        rw [if_neg hpos, List.append_nil] at hl
        have HlossF := Lib.hid hl
        clear hl hpos Hloss
        go_wp2_with fail
        go_roundw
        case rel => exact ⟨k + 1, by omega, by go_num, H3.out.2.1, H3.out.2.2, by rw [HlossF.out]; exact H3.out.1⟩
        case measure => simp [intOf]; omega
    · have e : k = 5 := by omega
      subst e
      have hlt' : decide (((5 : Nat) : Int) < 5) = false := rfl
      clear hx hheld hown
      go_wp2_with fail
      go_ret
      obtain ⟨a, c, rfl, hfr, h1, h2, h3⟩ := losses_of_owns Hown.out
      exact ⟨a, _, c, rfl, (Hx0.out.only b).trans Hx.out, hfr.mono Hx0.out.size, h1, h2, h3, Hheld.out⟩
end Go.Proofs.Ytkbhmajcddmhnaa
