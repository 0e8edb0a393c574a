/- Contract: the road of the reference. -/
import Derived.Test.YtkbhmajcddmhnaaVRoad
namespace Go.Proofs.Ytkbhmajcddmhnaa
open Go.RowKit
set_option linter.unusedVariables false
set_option linter.unusedSimpArgs false

set_option maxRecDepth 100000 in
set_option maxHeartbeats 4000000 in
theorem refRoad_any (b hc : Nat) (r : Int) (p d : Int) (ka : Option Addr) (kc : Nat) (held ks : List Span) (w : World) (hh : HeldAt w b held) (hk : SpansAt w ka 5 ks) (hkb : ∀ x, ka = some x → x.block ≠ b) (ho : HeldOk held) (hko : KeepsOk ks) :
    Calls Try.prog 57 #[.slice (some ⟨b, 0, none⟩) 5 hc, .agg #[.int .i64 p, .int .i64 d, .slice ka 5 kc], .int .i64 r] w (RoadPost b r held ks w) := by
  have hb0 := hh.lt
  obtain ⟨kb, ko, _, rfl, _, hkbl, _⟩ := hk.get 0 (by omega)
  have hkne : kb ≠ b := hkb _ rfl
  have Hk := Lib.hid hk
  have Ho := Lib.hid ho
  have Hko := Lib.hid hko
  have Hh := Lib.hid hh
  clear hh hk hkb ho hko
  go_enter Try.func57, Try.ntmps57
  go_wp2_with fail
  have hbx : (w.alloc (.cells #[.int .i64 p, .int .i64 d, .slice (some ⟨kb, ko, none⟩) 5 kc] 83)).heap[w.heap.size]? = some (.cells #[.int .i64 p, .int .i64 d, .slice (some ⟨kb, ko, none⟩) 5 kc] 83 (0, 0)) := heap_alloc_new _ _
  have hx0 : Ext w (w.alloc (.cells #[.int .i64 p, .int .i64 d, .slice (some ⟨kb, ko, none⟩) 5 kc] 83)) := (Ext.refl _).alloc _
  generalize w.alloc (.cells #[.int .i64 p, .int .i64 d, .slice (some ⟨kb, ko, none⟩) 5 kc] 83) = W0 at *
  have Hbx := Lib.hid hbx
  have Hx0 := Lib.hid hx0
  clear hbx hx0
  go_loopw [7, 8] (fun v i wr => ∃ k : Nat, k ≤ 5 ∧ i = .int .i64 k ∧ Only b W0 wr ∧ HeldAt wr b (roadTo held ks k) ∧ Owns wr W0.heap.size 73 4 v (lossRows (roadLosses r held ks k))) (fun _ i _ => 5 - (intOf i).toNat)
  case atStart => exact ⟨0, Nat.zero_le _, rfl, Only.refl _ _, Hh.out.ext Hx0.out, Owns.nil _ _ _ _⟩
  case round =>
    obtain ⟨k, hk5, rfl, hx, hheld, hown⟩ := hrel
    have Hx := Lib.hid hx
    have Hheld := Lib.hid hheld
    have Hown := Lib.hid hown
    by_cases hlt : k < 5
    · obtain ⟨s, hs, c0, c1, cf⟩ := hheld.get k hlt
      rw [roadTo_get held ks k k (Nat.le_refl _)] at hs
      have hko' := (Hk.out.ext Hx0.out)
      obtain ⟨kb', ko', t, e, ht, _, d0, d1⟩ := hko'.get k hlt
      cases e
      have d0' := hx.cell d0 hkne
      have d1' := hx.cell d1 hkne
      obtain ⟨s1, s2, s3⟩ := Ho.out.2 k s hs
      obtain ⟨t1, t2, t3⟩ := Hko.out.2 k t ht
      have hwb : w.heap.size ≠ b := by omega
      obtain ⟨bc, bf⟩ := hx.box Hbx.out hwb
      have hbw : b < wr.heap.size := by have := hx.size; have := Hx0.out.size; omega
      have hkw : kb < wr.heap.size := by have := hx.size; have := Hx0.out.size; omega
      have hlt' : decide ((k : Int) < 5) = true := by simp; omega
      obtain ⟨lo, hi⟩ := s
      obtain ⟨kl, kh⟩ := t
      simp only at c0 c1 d0' d1' s1 s2 s3 t1 t2 t3
      have Hs := Lib.hid hs
      have Ht := Lib.hid ht
      clear hs ht hx hheld hown d0 d1 hko'
      go_wp2_with fail
      refine wp_region_tree (.take [0, 1, 2, 3, 4, 5, 6, 7, 8] (.two 9 (.one 10 (.one 11 (.one 12 .done))) 10 (.one 9 (.one 11 (.one 12 .done))))) (Ext wr) _ (by kernel_rfl) (by kernel_rfl) rfl (Ext.refl _).drew ?_
      intro ι _ f hf hs
      have f0 := fun p => (hf p).cell c0
      have f1 := fun p => (hf p).cell c1
      have f2 := fun p => (hf p).cell d0'
      have f3 := fun p => (hf p).cell d1'
      have f4 := fun q => ((Hx.out.ext (hf q)).box Hbx.out hwb).1
      have HS := Lib.hid hs
      clear hf hs bc bf
      simp only [treeOf, oneOp, twoOp, opsOf, consOp, List.getElem?_toArray, List.getElem?_cons_succ, List.getElem?_cons_zero]
      refine wpOT_take ?_
      repeat (go_big_quiet_step (fail))
      refine wpQuiet_nil ?_
      clear f0 f1 f2 f3 f4
      have hsp : decide ((0 : Int) < 5) = true := rfl
      clear hsp
      obtain ⟨n1, n1'⟩ := mul_bd (M := 1000000000000000) (N := 1000) s1 (show lo ≤ 1000000000000000 by omega) t1 (show kl ≤ 1000 by omega)
      obtain ⟨n2, n2'⟩ := mul_bd (M := 1000000000000000) (N := 1000) (show 0 ≤ hi by omega) s3 (show 0 ≤ kh by omega) t3
      obtain ⟨n3, n3'⟩ := mul_bd (M := 1000000000000000) (N := 1000) s1 (show lo ≤ 1000000000000000 by omega) (show 0 ≤ kh by omega) t3
      obtain ⟨n4, n4'⟩ := mul_bd (M := 1000000000000000) (N := 1000) (show 0 ≤ hi by omega) s3 t1 (show kl ≤ 1000 by omega)
      simp only [Int.reduceMul] at n1' n2' n3' n4'
      have q1 : lo * kl / 1000 = lf lo kl := rfl
      have q2 : hi * kh / 1000 = lf hi kh := rfl
      have q3 : lo * kh / 1000 = lf lo kh := rfl
      have q4 : hi * kl / 1000 = lf hi kl := rfl
      obtain ⟨m1, m1'⟩ := lf_le s1 t1 (show kl ≤ 1000 by omega)
      obtain ⟨m2, m2'⟩ := lf_le (show 0 ≤ hi by omega) (show 0 ≤ kh by omega) t3
      obtain ⟨m3, m3'⟩ := lf_le s1 (show 0 ≤ kh by omega) t3
      obtain ⟨m4, m4'⟩ := lf_le (show 0 ≤ hi by omega) t1 (show kl ≤ 1000 by omega)
      have hstep : roadTo held ks (k + 1) = (roadTo held ks k).set k ⟨lf lo kl, lf hi kh⟩ := by
        have e1 := Hs.out
        have e2 := Ht.out
        simp only [roadTo, List.getD, e1, e2, Option.getD_some, roadSpan]
      have hloss : roadLosses r held ks (k + 1) = roadLosses r held ks k ++ (if 0 < hi - lf hi kl then [⟨r, k, lo - lf lo kh, hi - lf hi kl⟩] else []) := by
        have e1 := Hs.out
        have e2 := Ht.out
        simp only [roadLosses, roadLoss, List.getD, e1, e2, Option.getD_some, roadLost]
      have Hstep := Lib.hid hstep
      have Hloss := Lib.hid hloss
      clear hstep hloss
      generalize lf lo kl = a1 at *
      generalize lf hi kh = a2 at *
      generalize lf lo kh = a3 at *
      generalize lf hi kl = a4 at *
      refine wpOT_both ?_
      apply join_two (F := fun p9 p10 W1 => Ext wr W1 ∧ W1.heap[p9]? = some (.cells #[.int .i64 lo, .int .i64 hi] 70 (0, 0)) ∧ W1.heap[p10]? = some (.cells #[.int .i64 kl, .int .i64 kh] 70 (0, 0)) ∧ p9 ≠ b ∧ p10 ≠ b)
      · intro G
        go_wp2_with fail
        refine ⟨HS.out _ ((Ext.refl _).alloc _).drew, ?_⟩
        refine wpOT_one ?_
        go_wp2_with fail
        refine ⟨HS.out _ (((Ext.refl _).alloc _).alloc _).drew, ?_⟩
        refine wpOT_one ?_
        go_wp2_with fail
        refine ⟨HS.out _ (((Ext.refl _).alloc _).alloc _).drew, ?_⟩
        refine wpOT_one ?_
        go_wp2_with fail
        refine ⟨HS.out _ (((Ext.refl _).alloc _).alloc _).drew, ?_⟩
        refine wpOT_done ?_
        obtain ⟨hx1, hba, hbb⟩ := two_boxes wr #[Value.int IntKind.i64 lo, Value.int IntKind.i64 hi] #[Value.int IntKind.i64 kl, Value.int IntKind.i64 kh] 70 70
        have hn1 : wr.heap.size + 1 ≠ b := by omega
        have hn2 : wr.heap.size ≠ b := by omega
        generalize ((wr.alloc (Obj.cells #[Value.int IntKind.i64 lo, Value.int IntKind.i64 hi] 70)).alloc (Obj.cells #[Value.int IntKind.i64 kl, Value.int IntKind.i64 kh] 70)).drew = W1 at hx1 hba hbb ⊢
        generalize wr.heap.size + 1 = q1 at hbb hn1 ⊢
        generalize wr.heap.size = q2 at hba hn2 ⊢
        exact G _ _ _ ⟨hx1, hba, hbb, hn2, hn1⟩
      · intro G
        go_wp2_with fail
        refine ⟨HS.out _ ((Ext.refl _).alloc _).drew, ?_⟩
        refine wpOT_one ?_
        go_wp2_with fail
        refine ⟨HS.out _ (((Ext.refl _).alloc _).alloc _).drew, ?_⟩
        refine wpOT_one ?_
        go_wp2_with fail
        refine ⟨HS.out _ (((Ext.refl _).alloc _).alloc _).drew, ?_⟩
        refine wpOT_one ?_
        go_wp2_with fail
        refine ⟨HS.out _ (((Ext.refl _).alloc _).alloc _).drew, ?_⟩
        refine wpOT_done ?_
        obtain ⟨hx1, hba, hbb⟩ := two_boxes wr #[Value.int IntKind.i64 kl, Value.int IntKind.i64 kh] #[Value.int IntKind.i64 lo, Value.int IntKind.i64 hi] 70 70
        have hn1 : wr.heap.size + 1 ≠ b := by omega
        have hn2 : wr.heap.size ≠ b := by omega
        generalize ((wr.alloc (Obj.cells #[Value.int IntKind.i64 kl, Value.int IntKind.i64 kh] 70)).alloc (Obj.cells #[Value.int IntKind.i64 lo, Value.int IntKind.i64 hi] 70)).drew = W1 at hx1 hba hbb ⊢
        generalize wr.heap.size + 1 = q1 at hbb hn1 ⊢
        generalize wr.heap.size = q2 at hba hn2 ⊢
        exact G _ _ _ ⟨hx1, hbb, hba, hn1, hn2⟩
      rintro p9 p10 W1 ⟨hx1, hb9, hb10, hb9b, hb10b⟩
      have hb1 : HeldAt W1 b (roadTo held ks k) := Hheld.out.ext hx1
      have hown1 := Hown.out.ext hx1
      have hx01 : Only b W0 W1 := Hx.out.ext hx1
      have Hb1 := Lib.hid (And.intro hb1 (And.intro hown1 hx01))
      obtain ⟨_, _, _, c1f⟩ := hb1.get k hlt
      have c0x := hx1.cell c0
      have c1x := hx1.cell c1
      obtain ⟨b9, f9⟩ := (Ext.refl W1).box hb9
      obtain ⟨b10, f10⟩ := (Ext.refl W1).box hb10
      clear HS hb1 hown1 hx01 hx1 c0 c1 d0' d1' cf hb9 hb10
      have hp9 : b ≠ p9 := fun h => hb9b h.symm
      have hp10 : b ≠ p10 := fun h => hb10b h.symm
      have hbW0 : b < W0.heap.size := by have := Hx0.out.size; omega
      have hx3 : Only b W1 (((W1.setCell ⟨b, k * 2, none⟩ (.int .i64 a1)).setCell ⟨b, k * 2 + 1, none⟩ (.int .i64 a2)).alloc (.cells #[.int .i64 (lo - a3), .int .i64 (hi - a4)] 70)) := (((Only.refl b W1).setCell (x := ⟨b, k * 2, none⟩) (.inl rfl) _).setCell (x := ⟨b, k * 2 + 1, none⟩) (.inl rfl) _).alloc _
      have hh3 : HeldAt (((W1.setCell ⟨b, k * 2, none⟩ (.int .i64 a1)).setCell ⟨b, k * 2 + 1, none⟩ (.int .i64 a2)).alloc (.cells #[.int .i64 (lo - a3), .int .i64 (hi - a4)] 70)) b (roadTo held ks (k + 1)) := by
        rw [Hstep.out]
        exact (Hb1.out.1.set (g := k) (by rw [roadTo_get held ks k k (Nat.le_refl _)]; exact Hs.out) a1 a2).ext ((Ext.refl _).alloc _)
      have hown3 := Hb1.out.2.1.only hx3 hbW0
      have hx03 := Hb1.out.2.2.trans hx3
      have H3 := Lib.hid (And.intro hown3 (And.intro hx03 hh3))
      have hsz : (((W1.setCell ⟨b, k * 2, none⟩ (.int .i64 a1)).setCell ⟨b, k * 2 + 1, none⟩ (.int .i64 a2)).alloc (.cells #[.int .i64 (lo - a3), .int .i64 (hi - a4)] 70)).heap.size = W1.heap.size + 1 := by simp [World.setCell]
      have Hsz := Lib.hid hsz
      clear hx3 hh3 hown3 hx03 hsz
      by_cases hpos : 0 < hi - a4
      · have hposB : decide (a4 < hi) = true := by simp; omega
        have hl := Hloss.out
        rw [if_pos hpos] at hl
        have HlossT := Lib.hid hl
        clear hl hpos Hloss
        have hown4 := H3.out.1.alloc (Obj.cells #[.int .i64 r, .int .i64 k, .int .i64 (lo - a3), .int .i64 (hi - a4)] 73)
        have Ho4 := Lib.hid hown4
        have hx04 := H3.out.2.1.alloc (Obj.cells #[.int .i64 r, .int .i64 k, .int .i64 (lo - a3), .int .i64 (hi - a4)] 73)
        have Hx04 := Lib.hid hx04
        have hh4 := H3.out.2.2.ext ((Ext.refl _).alloc (Obj.cells #[.int .i64 r, .int .i64 k, .int .i64 (lo - a3), .int .i64 (hi - a4)] 73))
        have Hh4 := Lib.hid hh4
        clear hown4 hx04 hh4
        have hll := roadLosses_len r held ks k
        go_wp2_with (at_builtin; refine wpList_app elem36 _ rfl (.tmp 63) (.tmp 68) rfl W0.heap.size _ _ rfl Ho4.out (some ⟨W1.heap.size + 1, 0, none⟩) 1 1 (lossRows [⟨r, k, lo - a3, hi - a4⟩]) rfl rfl (slAt_one ?_) (lossRows_row _) ?_ ?_ ?_)
        · intro j u hj
          have := cell_of_row _ _ j _ 73 (0, 0) (heap_alloc_new (((W1.setCell ⟨b, k * 2, none⟩ (.int .i64 a1)).setCell ⟨b, k * 2 + 1, none⟩ (.int .i64 a2)).alloc (.cells #[.int .i64 (lo - a3), .int .i64 (hi - a4)] 70)) (Obj.cells #[.int .i64 r, .int .i64 k, .int .i64 (lo - a3), .int .i64 (hi - a4)] 73))
          rw [Hsz.out] at this
          simp only [Nat.zero_add]
          rw [this]
          simpa [Loss.cells] using hj
        · simp only [lossRows, List.length_map]; omega
        · have := H3.out.2.1.size
          rw [Hsz.out] at this
          simp
          omega
        · intro v' w2 ho2 hg2 _
          have hx2 := Hx04.out.app Ho4.out hg2
          have hh2 := Hh4.out.app Ho4.out hg2 hbW0
          clear b9 f9 b10 f10 c0x c1x c1f
          go_wp2_with fail
          go_roundw
          case rel => exact ⟨k + 1, by omega, by go_num, hx2, hh2, by rw [HlossT.out, lossRows_append]; exact ho2⟩
          case measure => simp [intOf]; omega
      · have hposB : decide (a4 < hi) = false := by simp; omega
        have hl := Hloss.out
        rw [if_neg hpos, List.append_nil] at hl
        have HlossF := Lib.hid hl
        clear hl hpos Hloss
        go_wp2_with fail
        go_roundw
        case rel => exact ⟨k + 1, by omega, by go_num, H3.out.2.1, H3.out.2.2, by rw [HlossF.out]; exact H3.out.1⟩
        case measure => simp [intOf]; omega
    · have e : k = 5 := by omega
      subst e
      have hlt' : decide (((5 : Nat) : Int) < 5) = false := rfl
      clear hx hheld hown
      go_wp2_with fail
      go_ret
      obtain ⟨a, c, rfl, hfr, h1, h2, h3⟩ := losses_of_owns Hown.out
      exact ⟨a, _, c, rfl, (Hx0.out.only b).trans Hx.out, hfr.mono Hx0.out.size, h1, h2, h3, Hheld.out⟩
end Go.Proofs.Ytkbhmajcddmhnaa
