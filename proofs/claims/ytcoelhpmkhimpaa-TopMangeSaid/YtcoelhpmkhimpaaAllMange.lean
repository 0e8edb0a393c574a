/- It is proved that TopMange returns true whatever the input, and that the input reads as it did. No conditions. -/
import Derived.Test.YtcoelhpmkhimpaaRepN
import Derived.Test.YtcoelhpmkhimpaaCloneM
import Derived.Test.YtcoelhpmkhimpaaMix
import Derived.Test.YtcoelhpmkhimpaaTreeC
import Derived.WalkMore
import Derived.Deep.LoopGhost
import Derived.Test.YtcoelhpmkhimpaaEveryM
import Derived.Test.YtcoelhpmkhimpaaKinC
import Derived.Laws.IdiomStrings
import Derived.Test.YtcoelhpmkhimpaaMangeP
import Derived.Test.YtcoelhpmkhimpaaRefHerd
import Derived.Test.YtcoelhpmkhimpaaLineC
import Derived.Test.YtcoelhpmkhimpaaSeqQ
import Derived.Test.YtcoelhpmkhimpaaTake
import Derived.Test.YtcoelhpmkhimpaaHerdD
import Derived.OpenShut
import Derived.ShutString
import Derived.ChangeOld
import Derived.Below
namespace Go.Proofs.Ytcoelhpmkhimpaa
open Go.RowKit
set_option linter.unusedVariables false
set_option linter.unusedSimpArgs false
theorem ivs_at {W : World} {g : Nat} {S : List Int} {t : TypeId} (h : W.heap[g]? = some (.cells (ivs S) t (0, 0))) {k : Nat} (hk : k < S.length) : W.cell? ⟨g, k, none⟩ = some (.int .i64 (S.getD k 0)) := by
  rw [cell_of_row _ _ _ _ _ _ h]
  exact ivs_get hk
structure SpSt (w : World) (g N : Nat) (S : List Int) (W : World) : Prop where
  len : S.length = N
  ext : Ext w W
  box : W.heap[g]? = some (.cells (ivs S) 3 (0, 0))
theorem SpSt.more {w W W' : World} {g N : Nat} {S : List Int} (h : SpSt w g N S W) (e : Ext W W') : SpSt w g N S W' := ⟨h.len, h.ext.trans e, e.heap h.box⟩
theorem SpSt.put {w W : World} {g N : Nat} {S : List Int} (h : SpSt w g N S W) (hg : w.heap.size ≤ g) (k : Nat) (v : Int) : SpSt w g N (S.set k v) (W.setCell ⟨g, k, none⟩ (.int .i64 v)) :=
  ⟨by rw [List.length_set]; exact h.len, h.ext.setCell (p := ⟨g, k, none⟩) hg _, by rw [heap_setCell_box, h.box]; exact congrArg (fun x => some (Obj.cells x 3 (0, 0))) (ivs_set S k v)⟩
theorem SpSt.at {w W : World} {g N : Nat} {S : List Int} (h : SpSt w g N S W) {k : Nat} (hk : k < N) : W.cell? ⟨g, k, none⟩ = some (.int .i64 (S.getD k 0)) := ivs_at h.box (by rw [h.len]; exact hk)
def setZero (s : List Int) (i : Int) : List Int := s.set i.toNat 0
/-- behind so many of the two ways of a meeting -/
def ways (wait : Int) (m : Meet) (s : List Int) : Nat → List Int
  | 0 => s
  | 1 => passOn wait m.a m.b m.day s
  | _ => passOn wait m.b m.a m.day (passOn wait m.a m.b m.day s)
theorem drop_at {α : Type} {l : List α} {j : Nat} {m : α} (h : l[j]? = some m) : l.drop j = m :: l.drop (j + 1) := by
  obtain ⟨h1, rfl⟩ := List.getElem?_eq_some_iff.1 h
  exact List.drop_eq_getElem_cons h1
theorem ways_pass {wait : Int} {m : Meet} {S : List Int} {A B : Nat} (hA : m.a = A) (hB : m.b = B) : ways wait m S 1 = passOn wait A B m.day S ∧ ways wait m S 2 = passOn wait B A m.day (ways wait m S 1) := by
  simp only [ways, hA, hB]
  exact ⟨trivial, trivial⟩
theorem pass_yes {wait day : Int} {P Q : Nat} {S : List Int} (h : S.getD P 0 ≤ day) : passOn wait P Q day S = S.set Q (if day + wait < S.getD Q 0 then day + wait else S.getD Q 0) := by
  unfold passOn getI
  simp only [Int.toNat_natCast]
  rw [if_pos h]
  congr 1
  omega
theorem pass_no {wait day : Int} {P Q : Nat} {S : List Int} (h : ¬S.getD P 0 ≤ day) : passOn wait P Q day S = S := by
  unfold passOn getI
  simp only [Int.toNat_natCast]
  rw [if_neg h]
theorem run_min2 (a b : Int) (w : World) : (Builtin.min_ #[3, 3] 3 #[.int .i64 a, .int .i64 b]).run Try.prog w = .ok (.int .i64 (if b < a then b else a)) w := by
  simp [Builtin.min_, Builtin.min2]
def SpreadPost (N : Nat) (S : List Int) (w : World) (e : Ending) (w' : World) : Prop := ∃ g, e = .returned (.slice (some ⟨g, 0, none⟩) N N) ∧ Ext w w' ∧ w.heap.size ≤ g ∧ w'.heap[g]? = some (.cells (ivs S) 3 (0, 0)) ∧ S.length = N
set_option maxRecDepth 100000 in
set_option maxHeartbeats 4000000 in
theorem spread_any (N : Nat) (hN : 1 ≤ N ∧ N ≤ 30) (a1 : Option Addr) (n1 c1 : Nat) (first : List Int) (a2 : Option Addr) (n2 c2 : Nat) (l : List Meet) (wait last : Int) (w : World) (h1 : IntsAt .i64 w a1 n1 first) (hf : ∀ i ∈ first, 0 ≤ i ∧ i < N) (hn1 : n1 ≤ 1000)
    (h2 : MeetsAt w a2 n2 l) (hl : ∀ m ∈ l, MeetOk N m) (hn2 : n2 ≤ 1000) (hw : 1 ≤ wait ∧ wait ≤ 60) : Calls Try.prog 72 #[.int .i64 N, .slice a1 n1 c1, .slice a2 n2 c2, .int .i64 wait, .int .i64 last] w (SpreadPost N (spreadOf N first l wait last) w) := by
  have hrep := fun (b : Nat) (W : World) (hb : W.heap[b]? = some (.cells #[.int .i64 100061] 3 (0, 0))) => repeatN b 100061 N hN W hb
  have hx0 : Ext w (w.alloc (.cells #[.int .i64 100061] 3)) := (Ext.refl _).alloc _
  have hl1 := h1.1
  have hl2 := h2.1
  have Hrep := Lib.hid hrep
  have Hx0 := Lib.hid hx0
  have H1 := Lib.hid h1
  have H2 := Lib.hid h2
  have Hf := Lib.hid hf
  have Hl := Lib.hid hl
  clear hrep hx0 h1 h2 hf hl
  go_enter Try.func72, Try.ntmps72
  go_wp2_with fail
  go_step3
  go_wp2_with (go_at_call 117; refine (Hrep.out _ _ (alloc_at _ _ _ (by simp))).mono ?_; rintro e w1 ⟨g, rfl, hx1, hg1, hb1⟩)
  have st0 : SpSt w g N (List.replicate N 100061) w1 := ⟨by simp, Hx0.out.trans hx1, hb1⟩
  have hgw : w.heap.size ≤ g := Nat.le_trans (by simp) hg1
  clear hx1 hg1 hb1 Hx0 Hrep
  have St0 := Lib.hid st0
  clear st0
  go_loopw [22] (fun i V => ∃ k : Nat, i = .int .i64 k ∧ k ≤ n1 ∧ SpSt w g N ((first.take k).foldl setZero (List.replicate N 100061)) V) (fun i _ => n1 - (intOf i).toNat)
  case atStart => exact ⟨0, rfl, Nat.zero_le _, St0.out⟩
  case round =>
    obtain ⟨k, rfl, hk, st⟩ := hrel
    by_cases hlt : k < n1
    · have hltB : decide ((k : Int) < (n1 : Int)) = true := by simp; omega
      obtain ⟨b, off, x, rfl, hxk, hbs, c0⟩ := (H1.out.ext st.ext).get k hlt
      have hx := Hf.out x (List.mem_of_getElem? hxk)
      obtain ⟨X, rfl⟩ : ∃ X : Nat, x = (X : Int) := ⟨x.toNat, by omega⟩
      have hXN : X < N := by omega
      have hXB : decide ((X : Int) < (N : Int)) = true := by simp; omega
      have c1 := st.at hXN
      have fz := fun q => ((Ext.refl wr).box st.box).2 q
      have hgl := heap_lt st.box
      have hnext := st.put hgw X 0
      have htk : (first.take (k + 1)).foldl setZero (List.replicate N 100061) = ((first.take k).foldl setZero (List.replicate N 100061)).set X 0 := by
        rw [List.take_add_one, hxk]
        simp [setZero]
      rw [← htk] at hnext
      clear htk hx hxk st
      have Hnext := Lib.hid hnext
      clear hnext
      go_wp2_with fail
      go_roundw
      case rel => exact ⟨k + 1, by go_num, by omega, Hnext.out⟩
      case measure => simp [intOf]; omega
    · have hltB : decide ((k : Int) < (n1 : Int)) = false := by simp; omega
      obtain rfl : k = n1 := by omega
      have hs : (first.take k).foldl setZero (List.replicate N 100061) = sickAt N first := by
        rw [List.take_of_length_le (by omega)]
        rfl
      rw [hs] at st
      clear hs hlt
      have hgoal : spreadL wait last (l.drop 0) (sickAt N first) = spreadOf N first l wait last := rfl
      generalize spreadOf N first l wait last = G at *
      generalize sickAt N first = S0 at *
      have St := Lib.hid st
      have Hgoal := Lib.hid hgoal
      clear st hgoal
      clear St0
      go_wp2_with fail
      go_step3
      go_wp2_with fail
      go_loopw [32] (fun i V => ∃ (j : Nat) (S : List Int), i = .int .i64 j ∧ j ≤ n2 ∧ SpSt w g N S V ∧ spreadL wait last (l.drop j) S = G) (fun i _ => n2 - (intOf i).toNat)
      case atStart => exact ⟨0, S0, rfl, Nat.zero_le _, St.out, Hgoal.out⟩
      case round =>
        obtain ⟨j, S, rfl, hj, st, hsp⟩ := hrel
        by_cases hlt : j < n2
        · have hltB : decide ((j : Int) < (n2 : Int)) = true := by simp; omega
          obtain ⟨b2, o2, m, rfl, hmk, hbs, c0, c1, c2', c3⟩ := H2.out.get j hlt
          obtain ⟨e1, e2, e3, e4⟩ := Hl.out m (List.mem_of_getElem? hmk)
          obtain ⟨A, hA⟩ : ∃ A : Nat, m.a = A := ⟨m.a.toNat, by omega⟩
          obtain ⟨B, hB⟩ : ∃ B : Nat, m.b = B := ⟨m.b.toNat, by omega⟩
          have hdrop := drop_at hmk
          have hway := ways_pass (wait := wait) (S := S) hA hB
          have hAN : A < N := by omega
          have hBN : B < N := by omega
          have i0 : ∀ w, (Instr.index 204 (.agg #[.int .i64 A, .int .i64 B, .int .i64 B, .int .i64 A]) (.int .i64 0)).run Try.prog w = .ok (.agg #[.int .i64 A, .int .i64 B]) w := fun _ => by kernel_rfl
          have i1 : ∀ w, (Instr.index 204 (.agg #[.int .i64 A, .int .i64 B, .int .i64 B, .int .i64 A]) (.int .i64 1)).run Try.prog w = .ok (.agg #[.int .i64 B, .int .i64 A]) w := fun _ => by kernel_rfl
          rw [hA] at c0
          rw [hB] at c1
          obtain ⟨md, hmd⟩ : ∃ md, m.day = md := ⟨_, rfl⟩
          rw [hmd] at c2' e4 hway
          rw [hdrop] at hsp
          unfold spreadL at hsp
          rw [hmd] at hsp
          have hfin : (if last < md then S else spreadL wait last (l.drop (j + 1)) (ways wait m S 2)) = G := by
            rw [← hsp]
            simp only [ways, hmd]
          clear hsp hdrop hmk hA hB hmd e1 e2 e3 c3 hbs
          obtain ⟨ed1, ed2⟩ := e4
          obtain ⟨hw1, hw2⟩ := hw
          have St := Lib.hid st
          have Hway := Lib.hid hway
          have Hfin := Lib.hid hfin
          have I0 := Lib.hid i0
          have I1 := Lib.hid i1
          have C0 := Lib.hid c0
          have C1 := Lib.hid c1
          have C2' := Lib.hid c2'
          clear st hway hfin i0 i1 c0 c1 c2'
          go_upto_region 11 with fail
          refine wp_region_ext (by kernel_rfl) (by kernel_rfl) (fun f hf hs => ?_)
          have f0 := fun q => (hf q).cell (St.out.ext.cell C0.out)
          have f1 := fun q => (hf q).cell (St.out.ext.cell C1.out)
          clear hf hs
          repeat (go_big_quiet_step (fail))
          refine wpQuiet_nil ?_
          intro W1 hW1
          clear f0 f1
          have st1 := St.out.more hW1
          have St1 := Lib.hid st1
          clear st1
          clear hW1 St C0 C1
          go_upto_region 11 with fail
          go_loopw [58] (fun i V => ∃ d : Nat, i = .int .i64 d ∧ d ≤ 2 ∧ SpSt w g N (ways wait m S d) V ∧ (1 ≤ d → ¬last < md)) (fun i _ => 2 - (intOf i).toNat)
          case atStart => exact ⟨0, rfl, by omega, St1.out, fun h => by omega⟩
          case round =>
            obtain ⟨d, rfl, hd, st, hla⟩ := hrel
            have hd3 : d = 0 ∨ d = 1 ∨ d = 2 := by omega
            rcases hd3 with rfl | rfl | rfl
            · rw [show ((0 : Nat) : Int) = 0 from rfl]
              have hltB2 : decide ((0 : Int) < 2) = true := by simp
              have ix := I0.out
              have hnx : ways wait m S (0 + 1) = passOn wait A B md (ways wait m S 0) := Hway.out.1
              obtain ⟨T, hT⟩ : ∃ T, ways wait m S 0 = T := ⟨_, rfl⟩
              rw [hT] at hnx st
              have hcP := st.at (k := A) hAN
              have hcQ := st.at (k := B) hBN
              obtain ⟨tP, htP⟩ : ∃ tP, T.getD A 0 = tP := ⟨_, rfl⟩
              obtain ⟨tQ, htQ⟩ : ∃ tQ, T.getD B 0 = tQ := ⟨_, rfl⟩
              rw [htP] at hcP
              rw [htQ] at hcQ
              have hPB : decide ((A : Int) < (N : Int)) = true := by simp; omega
              have hQB : decide ((B : Int) < (N : Int)) = true := by simp; omega
              have hgl := heap_lt st.box
              have hcD := st.ext.cell C2'.out
              have St := Lib.hid st
              have HcP := Lib.hid hcP
              have HcQ := Lib.hid hcQ
              have HcD := Lib.hid hcD
              have Hnx := Lib.hid hnx
              have HT := Lib.hid hT
              have HtP := Lib.hid htP
              have HtQ := Lib.hid htQ
              clear st hcP hcQ hcD hnx hT htP htQ
              go_upto_region 13 with fail
              have hx13 := (Ext.refl wr).alloc (.cells #[.int .i64 A, .int .i64 B] 113)
              have b13 := heap_alloc_new wr (.cells #[.int .i64 A, .int .i64 B] 113)
              generalize wr.alloc (.cells #[.int .i64 A, .int .i64 B] 113) = W13 at *
              generalize wr.heap.size = p16 at *
              have cD := hx13.cell HcD.out
              have cP := hx13.cell HcP.out
              have cQ := hx13.cell HcQ.out
              have st3 := St.out.more hx13
              have CD := Lib.hid cD
              have B13 := Lib.hid b13
              have CP := Lib.hid cP
              have CQ := Lib.hid cQ
              have St3 := Lib.hid st3
              clear b13 cP cQ st3
              clear hx13 ix HcP HcQ HcD St
              by_cases hlm : last < md
              · have hlD : decide (last < md) = true := decide_eq_true hlm
                have hG := Hfin.out
                rw [if_pos hlm] at hG
                have st4 := St3.out
                rw [← HT.out] at st4
                simp only [ways] at st4
                rw [hG] at st4
                have hbx := st4.box
                have hle4 := st4.len
                have hxe := st4.ext
                have Hbx := Lib.hid hbx
                have Hle4 := Lib.hid hle4
                have Hxe := Lib.hid hxe
                clear hbx hle4 hxe
                clear hG st4 hlm St3 B13 CP CQ CD
                go_wp2_with fail
                go_ret
                exact ⟨g, rfl, Hxe.out, hgw, Hbx.out, Hle4.out⟩
              · have hlD : decide (last < md) = false := decide_eq_false hlm
                go_upto_region 14 with fail
                refine wp_region_ext (by kernel_rfl) (by kernel_rfl) (fun f hf hs => ?_)
                have fB := fun q => ((hf q).box B13.out).1
                have fP := fun q => (hf q).cell CP.out
                have fD := fun q => (hf q).cell CD.out
                clear hf hs
                repeat (go_big_quiet_step (fail))
                refine wpQuiet_nil ?_
                intro W14 hW14
                clear fB fP fD
                have st4 := St3.out.more hW14
                have b14 := hW14.heap B13.out
                have cQ4 := hW14.cell CQ.out
                have cD4 := hW14.cell CD.out
                have St4 := Lib.hid st4
                have B14 := Lib.hid b14
                have CQ4 := Lib.hid cQ4
                have CD4 := Lib.hid cD4
                clear st4 b14 cQ4 cD4
                clear cD hW14 St3 B13 CP CQ CD
                by_cases hle : tP ≤ md
                · have hleB : decide (tP ≤ md) = true := decide_eq_true hle
                  have hnx2 := Hnx.out.trans (pass_yes (wait := wait) (Q := B) (by rw [HtP.out]; exact hle))
                  rw [HtQ.out] at hnx2
                  obtain ⟨v, hv⟩ : ∃ v, (if md + wait < tQ then md + wait else tQ) = v := ⟨_, rfl⟩
                  have hmn := fun W => run_min2 tQ (md + wait) W
                  simp only [hv] at hmn
                  rw [hv] at hnx2
                  clear hv
                  have Hnx2 := Lib.hid hnx2
                  clear hnx2
                  go_upto_region 15 with fail
                  refine wp_region_plan (.take [0, 1, 2, 3, 4, 5, 6, 7, 8, 9, 10, 11, 12, 13, 14, 15, 16] (.fin (.one 17 .done))) [17] (Ext W14) _ (by kernel_rfl) (by kernel_rfl) rfl (EC.ext W14) ((Ext.refl _).drew) ?_
                  simp only [planOf, treeOf, oneOp, twoOp, opsOf, consOp, callOC, oneOC, twoOC, List.getElem?_toArray, List.getElem?_cons_succ, List.getElem?_cons_zero]
                  intro ι _ f hf
                  have fB := fun q => ((hf q).box B14.out).1
                  have fQ := fun q => (hf q).cell CQ4.out
                  have fD := fun q => (hf q).cell CD4.out
                  clear hf
                  repeat (go_big_quiet_step (fail))
                  refine wpQuiet_nil ?_
                  clear fB fQ fD
                  intro W15 hW15
                  refine wpOT_one ?_
                  have st5 := St4.out.more hW15
                  have fz := fun q => ((Ext.refl W15).box st5.box).2 q
                  have hgl5 := heap_lt st5.box
                  have cQ5 := hW15.cell CQ4.out
                  have st6 := st5.put hgw B v
                  rw [← Hnx2.out] at st6
                  have St6 := Lib.hid st6
                  clear st6
                  clear Hnx2 Hnx B14 CQ4 CD4 St4
                  go_wp2_with fail
                  refine wpOT_done ?_
                  go_wp2_with fail
                  go_roundw
                  case rel => exact ⟨0 + 1, by go_num, by omega, St6.out, fun _ => by omega⟩
                  case measure => simp [intOf]
                · have hleB : decide (tP ≤ md) = false := decide_eq_false hle
                  have hnx2 := Hnx.out.trans (pass_no (wait := wait) (Q := B) (by rw [HtP.out]; exact hle))
                  have st6 := St4.out
                  rw [← hnx2] at st6
                  have St6 := Lib.hid st6
                  clear st6
                  clear hnx2 Hnx B14 CQ4 CD4 St4
                  go_wp2_with fail
                  go_roundw
                  case rel => exact ⟨0 + 1, by go_num, by omega, St6.out, fun _ => by omega⟩
                  case measure => simp [intOf]
            · rw [show ((1 : Nat) : Int) = 1 from rfl]
              have hltB2 : decide ((1 : Int) < 2) = true := by simp
              have ix := I1.out
              have hnx : ways wait m S (1 + 1) = passOn wait B A md (ways wait m S 1) := Hway.out.2
              obtain ⟨T, hT⟩ : ∃ T, ways wait m S 1 = T := ⟨_, rfl⟩
              rw [hT] at hnx st
              have hcP := st.at (k := B) hBN
              have hcQ := st.at (k := A) hAN
              obtain ⟨tP, htP⟩ : ∃ tP, T.getD B 0 = tP := ⟨_, rfl⟩
              obtain ⟨tQ, htQ⟩ : ∃ tQ, T.getD A 0 = tQ := ⟨_, rfl⟩
              rw [htP] at hcP
              rw [htQ] at hcQ
              have hPB : decide ((B : Int) < (N : Int)) = true := by simp; omega
              have hQB : decide ((A : Int) < (N : Int)) = true := by simp; omega
              have hgl := heap_lt st.box
              have hcD := st.ext.cell C2'.out
              have St := Lib.hid st
              have HcP := Lib.hid hcP
              have HcQ := Lib.hid hcQ
              have HcD := Lib.hid hcD
              have Hnx := Lib.hid hnx
              have HT := Lib.hid hT
              have HtP := Lib.hid htP
              have HtQ := Lib.hid htQ
              clear st hcP hcQ hcD hnx hT htP htQ
              go_upto_region 13 with fail
              have hx13 := (Ext.refl wr).alloc (.cells #[.int .i64 B, .int .i64 A] 113)
              have b13 := heap_alloc_new wr (.cells #[.int .i64 B, .int .i64 A] 113)
              generalize wr.alloc (.cells #[.int .i64 B, .int .i64 A] 113) = W13 at *
              generalize wr.heap.size = p16 at *
              have cD := hx13.cell HcD.out
              have cP := hx13.cell HcP.out
              have cQ := hx13.cell HcQ.out
              have st3 := St.out.more hx13
              have CD := Lib.hid cD
              have B13 := Lib.hid b13
              have CP := Lib.hid cP
              have CQ := Lib.hid cQ
              have St3 := Lib.hid st3
              clear b13 cP cQ st3
              clear hx13 ix HcP HcQ HcD St
              have hlm := hla (by omega)
              have hlD : decide (last < md) = false := decide_eq_false hlm
              go_upto_region 14 with fail
              refine wp_region_ext (by kernel_rfl) (by kernel_rfl) (fun f hf hs => ?_)
              have fB := fun q => ((hf q).box B13.out).1
              have fP := fun q => (hf q).cell CP.out
              have fD := fun q => (hf q).cell CD.out
              clear hf hs
              repeat (go_big_quiet_step (fail))
              refine wpQuiet_nil ?_
              intro W14 hW14
              clear fB fP fD
              have st4 := St3.out.more hW14
              have b14 := hW14.heap B13.out
              have cQ4 := hW14.cell CQ.out
              have cD4 := hW14.cell CD.out
              have St4 := Lib.hid st4
              have B14 := Lib.hid b14
              have CQ4 := Lib.hid cQ4
              have CD4 := Lib.hid cD4
              clear st4 b14 cQ4 cD4
              clear cD hW14 St3 B13 CP CQ CD
              by_cases hle : tP ≤ md
              · have hleB : decide (tP ≤ md) = true := decide_eq_true hle
                have hnx2 := Hnx.out.trans (pass_yes (wait := wait) (Q := A) (by rw [HtP.out]; exact hle))
                rw [HtQ.out] at hnx2
                obtain ⟨v, hv⟩ : ∃ v, (if md + wait < tQ then md + wait else tQ) = v := ⟨_, rfl⟩
                have hmn := fun W => run_min2 tQ (md + wait) W
                simp only [hv] at hmn
                rw [hv] at hnx2
                clear hv
                have Hnx2 := Lib.hid hnx2
                clear hnx2
                go_upto_region 15 with fail
                refine wp_region_plan (.take [0, 1, 2, 3, 4, 5, 6, 7, 8, 9, 10, 11, 12, 13, 14, 15, 16] (.fin (.one 17 .done))) [17] (Ext W14) _ (by kernel_rfl) (by kernel_rfl) rfl (EC.ext W14) ((Ext.refl _).drew) ?_
                simp only [planOf, treeOf, oneOp, twoOp, opsOf, consOp, callOC, oneOC, twoOC, List.getElem?_toArray, List.getElem?_cons_succ, List.getElem?_cons_zero]
                intro ι _ f hf
                have fB := fun q => ((hf q).box B14.out).1
                have fQ := fun q => (hf q).cell CQ4.out
                have fD := fun q => (hf q).cell CD4.out
                clear hf
                repeat (go_big_quiet_step (fail))
                refine wpQuiet_nil ?_
                clear fB fQ fD
                intro W15 hW15
                refine wpOT_one ?_
                have st5 := St4.out.more hW15
                have fz := fun q => ((Ext.refl W15).box st5.box).2 q
                have hgl5 := heap_lt st5.box
                have cQ5 := hW15.cell CQ4.out
                have st6 := st5.put hgw A v
                rw [← Hnx2.out] at st6
                have St6 := Lib.hid st6
                clear st6
                clear Hnx2 Hnx B14 CQ4 CD4 St4
                go_wp2_with fail
                refine wpOT_done ?_
                go_wp2_with fail
                go_roundw
                case rel => exact ⟨1 + 1, by go_num, by omega, St6.out, fun _ => by omega⟩
                case measure => simp [intOf]
              · have hleB : decide (tP ≤ md) = false := decide_eq_false hle
                have hnx2 := Hnx.out.trans (pass_no (wait := wait) (Q := A) (by rw [HtP.out]; exact hle))
                have st6 := St4.out
                rw [← hnx2] at st6
                have St6 := Lib.hid st6
                clear st6
                clear hnx2 Hnx B14 CQ4 CD4 St4
                go_wp2_with fail
                go_roundw
                case rel => exact ⟨1 + 1, by go_num, by omega, St6.out, fun _ => by omega⟩
                case measure => simp [intOf]
            · rw [show ((2 : Nat) : Int) = 2 from rfl]
              have hlm := hla (by omega)
              have hG := Hfin.out
              rw [if_neg hlm] at hG
              have St := Lib.hid st
              have HG := Lib.hid hG
              clear st hG
              go_wp2_with fail
              go_roundw
              case rel => exact ⟨j + 1, _, by go_num, by omega, St.out, HG.out⟩
              case measure => simp [intOf]; omega
        · have hltB : decide ((j : Int) < (n2 : Int)) = false := by simp; omega
          have hG : S = G := by
            rw [List.drop_of_length_le (by omega)] at hsp
            exact hsp
          subst hG
          have hbx := st.box
          have hle4 := st.len
          have hxe := st.ext
          have Hbx := Lib.hid hbx
          have Hle4 := Lib.hid hle4
          have Hxe := Lib.hid hxe
          clear hbx hle4 hxe
          clear st hsp
          go_wp2_with fail
          rw [Exit.noGoto_ret]
          go_ret
          exact ⟨g, rfl, Hxe.out, hgw, Hbx.out, Hle4.out⟩
end Go.Proofs.Ytcoelhpmkhimpaa

namespace Go.Proofs.Ytcoelhpmkhimpaa
open Go.RowKit
set_option linter.unusedVariables false
set_option linter.unusedSimpArgs false
theorem odd_any (N : Nat) (hN : 1 ≤ N ∧ N ≤ 30) (m : Meet) (hm : MeetOk N m) (q0 : Nat) (w : World) (hq : w.heap[q0]? = some (.cells #[.int .i64 N] 3 (0, 0))) : Calls Try.prog 66 #[m.val, .pointer (some ⟨q0, 0, none⟩)] w fun e w' => e = .returned (.bool false) ∧ Ext w w' := by
  obtain ⟨ma, mb, md, mc⟩ := m
  obtain ⟨h1, h2, h3, h4⟩ := hm
  unfold Meet.val
  simp only at h1 h2 h3 h4 ⊢
  have i1 : (inB ma 0 ((N : Int) - 1) && inB mb 0 ((N : Int) - 1)) = true := by
    simp [inB]
    omega
  have i2 : inB md 0 100000 = true := by
    simp [inB]
    omega
  have i3 : (ma == mb) = false := by simpa using h3
  have hx6 : Ext w (w.alloc (.cells #[.int .i64 ma, .int .i64 mb, .int .i64 md, .bool mc] 74)) := (Ext.refl _).alloc _
  have hp6 := heap_alloc_new w (.cells #[.int .i64 ma, .int .i64 mb, .int .i64 md, .bool mc] 74)
  obtain ⟨y6, _⟩ := (Ext.refl _).box hp6
  have c0 := ((Ext.refl w).box hq).1 0
  have hql := heap_lt hq
  have Hx6 := Lib.hid hx6
  have Hp6 := Lib.hid hp6
  have I1 := Lib.hid i1
  have I2 := Lib.hid i2
  have Hq := Lib.hid hq
  clear hx6 hp6 i1 i2 hq
  clear h1 h2 h3 h4
  go_enter Try.func66, Try.ntmps66
  go_wp2_with (first
    | (have q := hx1; clear q; go_at_call 64; refine (fromC1 (alloc_at _ _ _ (by simp)) I2.out).mono ?_; rintro e v2 ⟨rfl, hx2⟩)
    | (go_at_call 64; refine (fromC2 (alloc_at _ _ _ (by simp)) I1.out).mono ?_; rintro e v1 ⟨rfl, hx1⟩; have hv1 := ((Ext.refl (w.alloc (.cells #[.int .i64 ma, .int .i64 mb, .int .i64 md, .bool mc] 74))).alloc _).trans hx1; clear y6; obtain ⟨y6, _⟩ := (Ext.refl v1).box (hv1.heap Hp6.out); have hl6 := heap_lt (hv1.heap Hp6.out)))
  go_ret
  exact ⟨rfl, Hx6.out.trans ((hv1.alloc _).trans hx2)⟩
theorem far_any (m : Meet) (hm : m.close = true) (w : World) : Calls Try.prog 74 #[m.val] w fun e w' => e = .returned (.bool false) ∧ Ext w w' := by
  obtain ⟨ma, mb, md, mc⟩ := m
  simp only at hm
  subst hm
  unfold Meet.val
  simp only
  go_enter Try.func74, Try.ntmps74
  go_wp2_with fail
  go_ret
  exact ⟨rfl, (Ext.refl _).alloc _⟩
theorem idxI_no {α : Type} (l : List α) : idxI (fun _ => false) l = -1 := by
  apply idxI_none
  intro j y hy
  rfl
theorem delete_any (a : Option Addr) (n c : Nat) (l : List Meet) (hc : ∀ m ∈ l, m.close = true) (w : World) (hl : MeetsAt w a n l) (hn : n ≤ 1000000000) : Calls Try.prog 73 #[.slice a n c, .func (.func 74) #[] #[]] w fun e w' => e = .returned (.slice a n c) ∧ Ext w w' := by
  have h := indexFunc_meet74 a n c l (fun _ => false) w hl hn (fun o ho W hW => far_any o (hc o ho) W)
  rw [idxI_no] at h
  have H := Lib.hid h
  clear h
  clear hl hc
  go_enter Try.func73, Try.ntmps73
  go_wp2_with (go_at_call 114; refine H.out.mono ?_; rintro e w1 ⟨rfl, hx1⟩)
  go_ret
  exact ⟨rfl, hx1⟩
end Go.Proofs.Ytcoelhpmkhimpaa

namespace Go.Proofs.Ytcoelhpmkhimpaa
open Go.RowKit
set_option linter.unusedVariables false
set_option linter.unusedSimpArgs false
theorem infoU8 : (Try.prog.info? 5).map (fun i => (i.zero, i.size, i.bytes)) = some (some (.int .u8 0), 1, 1) := by kernel_rfl
theorem made_u8 (m : Nat) : madeCells (Value.int .u8 0).cells m = Array.replicate m (.int .u8 0) := by
  apply Array.ext
  · simp [size_madeCells]
  · intro i h1 h2
    have h2' : i < m := by simpa using h2
    simp [madeCells, Value.cells, Nat.mod_one]
def kvs (S : List Int) : Array Value := (S.map (Value.int .u8)).toArray
theorem kvs_zero (m : Nat) : Array.replicate m (Value.int .u8 0) = kvs (List.replicate m 0) := by
  unfold kvs
  simp
theorem mk75 (m : Nat) (hm : m ≤ 1000000) (w : World) : (Instr.makeSlice 75 (.int .i64 m) (.int .i64 m)).run Try.prog w = .ok (.slice (some ⟨w.heap.size, 0, none⟩) m m) (w.alloc (.cells (kvs (List.replicate m 0)) 5)) := by
  obtain ⟨i, h1, h2, h3, h4⟩ := info_parts infoU8
  have := run_makeSlice (P := Try.prog) w 75 5 i (.int .u8 0) Try.underlying75 h1 h2 .i64 .i64 m m (by omega) (Int.le_refl _) (by rw [h3]; simp; omega) (by rw [h4]; omega) (by omega)
  rw [h3, Int.toNat_natCast, Nat.mul_one, made_u8, kvs_zero] at this
  exact this
theorem kvs_set (S : List Int) (k : Nat) (v : Int) : (kvs S).setIfInBounds k (.int .u8 v) = kvs (S.set k v) := by
  unfold kvs
  rw [List.setIfInBounds_toArray, List.map_set]
/-- so many are known -/
structure KnSt (w : World) (g N : Nat) (F : Nat → Int) (k : Nat) (V : World) : Prop where
  ext : Ext w V
  box : ∃ S : List Int, V.heap[g]? = some (.cells (kvs S) 5 (0, 0)) ∧ S.length = N ∧ ∀ i, i < N → S.getD i 0 = if i < k then F i else 0
theorem KnSt.put {w V : World} {g N : Nat} {F : Nat → Int} {k : Nat} (h : KnSt w g N F k V) (hg : w.heap.size ≤ g) (hk : k < N) : KnSt w g N F (k + 1) (V.setCell ⟨g, k, none⟩ (.int .u8 (F k))) := by
  obtain ⟨h1, S, h2, h3, h4⟩ := h
  refine ⟨h1.setCell (p := ⟨g, k, none⟩) hg _, S.set k (F k), ?_, by rw [List.length_set, h3], fun i hi => ?_⟩
  · rw [heap_setCell_box, h2]
    exact congrArg (fun x => some (Obj.cells x 5 (0, 0))) (kvs_set S k _)
  · rw [List.getD_eq_getElem?_getD, List.getElem?_set]
    by_cases e : k = i
    · subst e
      rw [if_pos rfl, if_pos (by omega), if_pos (by omega)]
      rfl
    · rw [if_neg e, ← List.getD_eq_getElem?_getD, h4 i hi]
      by_cases e2 : i < k
      · rw [if_pos e2, if_pos (by omega)]
      · rw [if_neg e2, if_neg (by omega)]
theorem KnSt.skip {w V : World} {g N : Nat} {F : Nat → Int} {k : Nat} (h : KnSt w g N F k V) (h0 : F k = 0) : KnSt w g N F (k + 1) V := by
  obtain ⟨h1, S, h2, h3, h4⟩ := h
  refine ⟨h1, S, h2, h3, fun i hi => ?_⟩
  rw [h4 i hi]
  by_cases e : i < k
  · rw [if_pos e, if_pos (by omega)]
  · by_cases e2 : i = k
    · subst e2
      rw [if_neg (by omega), if_pos (by omega), h0]
    · rw [if_neg e, if_neg (by omega)]
theorem KnSt.fin {w V : World} {g N : Nat} {F : Nat → Int} (h : KnSt w g N F N V) : Ext w V ∧ IntsAt .u8 V (some ⟨g, 0, none⟩) N ((List.range N).map F) := by
  obtain ⟨h1, S, h2, h3, h4⟩ := h
  refine ⟨h1, by simp, fun hn => ⟨g, 0, rfl, fun k hk j v hv => ?_⟩⟩
  cases j with
  | zero =>
    cases hv
    rw [cell_of_row V g _ _ 5 (0, 0) h2]
    unfold kvs
    rw [List.getElem?_toArray, List.getElem?_map]
    have e := h4 k hk
    rw [if_pos hk] at e
    have e2 : S[k]? = some (S.getD k 0) := by simp [List.getD, h3, hk]
    rw [show 0 + k * 1 + 0 = k by omega, e2, e]
    simp [List.getD, hk]
  | succ j => simp at hv
/-- meetings that Mange takes, here -/
structure MangeIn (N : Nat) (first : List Int) (l : List Meet) (s : Span) (day : Int) : Prop where
  n : 1 ≤ N ∧ N ≤ 30
  wait : 1 ≤ s.lo ∧ s.lo ≤ s.hi ∧ s.hi ≤ 60
  day : 0 ≤ day ∧ day ≤ 100000
  first : first.length ≤ 30 ∧ ∀ i ∈ first, 0 ≤ i ∧ i < N
  meets : l.length < 20 ∧ ∀ m ∈ l, MeetOk N m
  close : ∀ m ∈ l, m.close = true
def MangePost (N : Nat) (first : List Int) (l : List Meet) (s : Span) (day : Int) (w : World) (e : Ending) (w' : World) : Prop := ∃ g, e = .returned (.tuple #[.slice (some ⟨g, 0, none⟩) N N, .int .i64 0]) ∧ Ext w w' ∧ w.heap.size ≤ g ∧ IntsAt .u8 w' (some ⟨g, 0, none⟩) N (mangeOf N first l s day)
theorem Owns.shape {w : World} {B : Nat} {e : TypeId} {sz : Nat} {a : Option Addr} {n c : Nat} {rows : List (List Value)} (h : Owns w B e sz (.slice a n c) rows) : (a = none → n = 0 ∧ c = 0) ∧ (∀ x, a = some x → ∃ b o, x = ⟨b, o, none⟩) ∧ ∀ x, a = some x → B ≤ x.block := by
  obtain ⟨ho, hr⟩ := h
  rcases ho.2 with ⟨h1, h0⟩ | ⟨g, cap, cur, h1, hg, _⟩
  · cases h1
    exact ⟨fun _ => ⟨rfl, rfl⟩, fun x hx => by (cases hx), fun x hx => by (cases hx)⟩
  · cases h1
    exact ⟨fun hx => by (cases hx), fun x hx => by cases hx; exact ⟨_, _, rfl⟩, fun x hx => by cases hx; exact hg⟩
theorem meets_owned {w : World} {B : Nat} {a : Option Addr} {n c : Nat} {l : List Meet} (h : Owns w B 74 4 (.slice a n c) (meetRows l)) : MeetsAt w a n l := by
  obtain ⟨a', c', e, h1, h2, h3, h4⟩ := h.slAt
  cases e
  rw [meetRows_len] at h4 ⊢
  exact ⟨rfl, h4.congr fun i hi => by simp [meetRows, List.getD, List.getElem?_map, List.getElem?_eq_getElem hi]⟩
theorem closeM_all {l : List Meet} (h : ∀ m ∈ l, m.close = true) : closeM l = l := by
  unfold closeM
  rw [List.filter_eq_self]
  exact h
set_option maxRecDepth 100000 in
set_option maxHeartbeats 8000000 in
theorem mange_any (N : Nat) (a1 : Option Addr) (n1 c1 : Nat) (first : List Int) (a2 : Option Addr) (n2 c2 : Nat) (l : List Meet) (wl wh : Int) (day : Int) (w : World) (h1 : IntsAt .i64 w a1 n1 first) (h2 : MeetsAt w a2 n2 l)
    (ha : a2 = none → n2 = 0 ∧ c2 = 0) (hoff : ∀ x, a2 = some x → ∃ b o, x = ⟨b, o, none⟩) (hi : MangeIn N first l ⟨wl, wh⟩ day) : Calls Try.prog 25 #[.int .i64 N, .slice a1 n1 c1, .slice a2 n2 c2, .agg #[.int .i64 wl, .int .i64 wh], .int .i64 day] w (MangePost N first l ⟨wl, wh⟩ day w) := by
  obtain ⟨⟨hn1, hn2⟩, ⟨hw1, hw2, hw3⟩, ⟨hd1, hd2⟩, ⟨hf1, hf2⟩, ⟨hm1, hm2⟩, hcl⟩ := hi
  simp only at hw1 hw2 hw3
  have hl1 := h1.1
  have hl2 := h2.1
  have hx0 : Ext w ((w.alloc (.cells #[.int .i64 N] 3)).alloc (.cells #[.int .i64 wl, .int .i64 wh] 23)) := ((Ext.refl w).alloc _).alloc _
  have g5 : ((w.alloc (.cells #[.int .i64 N] 3)).alloc (.cells #[.int .i64 wl, .int .i64 wh] 23)).heap[w.heap.size]? = some (.cells #[.int .i64 N] 3 (0, 0)) := ((Ext.refl _).alloc _).heap (heap_alloc_new w _)
  have g8 : ((w.alloc (.cells #[.int .i64 N] 3)).alloc (.cells #[.int .i64 wl, .int .i64 wh] 23)).heap[w.heap.size + 1]? = some (.cells #[.int .i64 wl, .int .i64 wh] 23 (0, 0)) := alloc_at _ _ _ (by simp)
  have i1 : inB (N : Int) 1 30 = true := by simp [inB]; omega
  have i2 : spanOk ⟨wl, wh⟩ 1 60 = true := by simp [spanOk]; omega
  have i3 : inB day 0 100000 = true := by simp [inB]; omega
  have hfa : (first.all fun x => inB x 0 ((N : Int) - 1)) = true := by
    rw [List.all_eq_true]
    intro x hx
    have := hf2 x hx
    simp [inB]
    omega
  have hfr : ∀ V, Ext w V → Calls Try.prog 64 #[.int .i64 0, .int .i64 ((N : Int) - 1), .slice a1 n1 c1] V fun e w' => e = .returned (.bool true) ∧ Ext V w' := fun V hV => by
    have := fromC_any 0 ((N : Int) - 1) a1 n1 c1 first V (h1.ext hV) (by omega)
    rw [hfa] at this
    exact this
  have hcn : ∀ V, Ext w V → V.heap[w.heap.size]? = some (.cells #[.int .i64 N] 3 (0, 0)) → Calls Try.prog 67 #[.slice a2 n2 c2, .func (.func 66) #[] #[.pointer (some ⟨w.heap.size, 0, none⟩)]] V fun e w' => e = .returned (.bool false) ∧ Ext V w' := fun V hV hq => by
    have := contains_meet66 a2 n2 c2 w.heap.size l (fun _ => false) V (h2.ext hV) (by omega) (fun o ho W hW => odd_any N ⟨hn1, hn2⟩ o (hm2 o ho) w.heap.size W (hW.heap hq))
    rw [show l.any (fun _ => false) = false from by simp] at this
    exact this
  have hc1 := fun (V : World) (hV : Ext w V) => cloneM_any a2 n2 c2 l V (h2.ext hV) (by omega) ha hoff
  have hso := fun (V : World) (B : Nat) (a : Option Addr) (n c : Nat) (ho : Owns V B 74 4 (.slice a n c) (meetRows l)) (hn : n < 20) => stable_any B a n c l V ho hn
  have hsp := fun (V : World) (hV : Ext w V) (a : Option Addr) (n c : Nat) (wt : Int) (hm : MeetsAt V a n (sortM l)) (hn : n ≤ 1000) (hw : 1 ≤ wt ∧ wt ≤ 60) => spread_any N ⟨hn1, hn2⟩ a1 n1 c1 first a n c (sortM l) wt day V (h1.ext hV) hf2 (by omega) hm (fun m h => hm2 m (sortM_mem.1 h)) hn hw
  have hc2 := fun (V : World) (a : Option Addr) (n c : Nat) (hm : MeetsAt V a n (sortM l)) (hn : n ≤ 100000) (h3 : a = none → n = 0 ∧ c = 0) (h4 : ∀ x, a = some x → ∃ b o, x = ⟨b, o, none⟩) => cloneM_any a n c (sortM l) V hm hn h3 h4
  have hde := fun (V : World) (a : Option Addr) (n c : Nat) (hm : MeetsAt V a n (sortM l)) (hn : n ≤ 1000000000) => delete_any a n c (sortM l) (fun m h => hcl m (sortM_mem.1 h)) V hm hn
  have hmk := mk75 N (by omega)
  have hcs : closeM (sortM l) = sortM l := closeM_all fun m h => hcl m (sortM_mem.1 h)
  have hres : mangeOf N first l ⟨wl, wh⟩ day = (List.range N).map (knownAt (spreadOf N first (sortM l) wl day) (spreadOf N first (sortM l) wh day) day) := by
    unfold mangeOf
    rw [hcs]
  have hf30 : decide (30 < (n1 : Int)) = false := decide_eq_false (by omega)
  have hm200 : decide (200 < (n2 : Int)) = false := decide_eq_false (by omega)
  have hsl := sortM_len l
  have Hx0 := Lib.hid hx0
  have G5 := Lib.hid g5
  have G8 := Lib.hid g8
  have I1 := Lib.hid i1
  have I2 := Lib.hid i2
  have I3 := Lib.hid i3
  have Hfr := Lib.hid hfr
  have Hcn := Lib.hid hcn
  have Hc1 := Lib.hid hc1
  have Hso := Lib.hid hso
  have Hsp := Lib.hid hsp
  have Hc2 := Lib.hid hc2
  have Hde := Lib.hid hde
  have Hres := Lib.hid hres
  have Hsl := Lib.hid hsl
  clear hx0 g5 g8 i1 i2 i3 hfr hcn hc1 hso hsp hc2 hde hres hsl
  clear hfa hcs h1 h2 ha hoff hf2 hm2 hcl
  go_enter Try.func25, Try.ntmps25
  go_upto_region 1 with fail
  generalize (w.alloc (.cells #[.int .i64 N] 3)).alloc (.cells #[.int .i64 wl, .int .i64 wh] 23) = W0 at *
  obtain ⟨y5, _⟩ := (Ext.refl W0).box G5.out
  obtain ⟨y8, _⟩ := (Ext.refl W0).box G8.out
  have hl8 := heap_lt G8.out
  go_upto_region 6 with (first
    | (have q := hx2; clear q; go_at_call 64; refine (fromC1 (alloc_at _ _ _ (by simp)) I3.out).mono ?_; rintro e v3 ⟨rfl, hx3⟩; have hv3 := (hv2.alloc _).trans hx3)
    | (have q := hx1; clear q; go_at_call 65; refine (ordC1 (alloc_at _ _ _ (by simp)) I2.out).mono ?_; rintro e v2 ⟨rfl, hx2⟩; have hv2 := (hv1.alloc _).trans hx2)
    | (go_at_call 64; refine (fromC1 (alloc_at _ _ _ (by simp)) I1.out).mono ?_; rintro e v1 ⟨rfl, hx1⟩; have hv1 := ((Ext.refl W0).alloc _).trans hx1; clear y8; obtain ⟨y8, _⟩ := (Ext.refl v1).box (hv1.heap G8.out); have hl81 := heap_lt (hv1.heap G8.out)))
  have g5 := hv3.heap G5.out
  have g8 := hv3.heap G8.out
  have hxw := Hx0.out.trans hv3
  clear hx1 hx2 hx3 hv1 hv2 hv3 y5 y8 G5 G8 Hx0 I1 I2 I3 hl8 hl81
  obtain ⟨y5, _⟩ := (Ext.refl v3).box g5
  obtain ⟨y8, _⟩ := (Ext.refl v3).box g8
  have hl5 := heap_lt g5
  have hl8 := heap_lt g8
  have G5 := Lib.hid g5
  have G8 := Lib.hid g8
  have Hxw := Lib.hid hxw
  clear g5 g8 hxw
  go_upto_region 8 with (first
    | (go_at_call 64; refine (Hfr.out _ Hxw.out).mono ?_; rintro e v4 ⟨rfl, hx4⟩; have g54 := hx4.heap G5.out; have hxw4 := Hxw.out.trans hx4; have G54 := Lib.hid g54; have Hxw4 := Lib.hid hxw4; clear g54 hxw4)
    | (go_at_call 67; refine (Hcn.out _ Hxw4.out G54.out).mono ?_; rintro e v5 ⟨rfl, hx5⟩))
  have g55 := hx5.heap G54.out
  have g85 := hx5.heap (hx4.heap G8.out)
  have hxw5 := Hxw4.out.trans hx5
  clear hx4 hx5 y5 y8 hl5 hl8 G5 G8 Hxw G54 Hxw4 Hfr Hcn
  have hc := Hc1.out v5 hxw5
  have G55 := Lib.hid g55
  have G85 := Lib.hid g85
  have Hxw5 := Lib.hid hxw5
  have Hc := Lib.hid hc
  clear g55 g85 hxw5 hc
  clear Hc1
  go_upto_region 9 with (go_at_call 68; refine Hc.out.mono ?_; rintro e v6 ⟨a6, c6, rfl, hx6, ho6⟩)
  rw [hl2] at ho6
  have hsh := ho6.shape
  have hs := Hso.out v6 _ a6 n2 c6 ho6 (by omega)
  have Hx6 := Lib.hid hx6
  have Hs := Lib.hid hs
  have Hsh := Lib.hid hsh
  clear hx6 hs hsh
  clear ho6 Hso Hc
  go_upto_region 10 with (go_at_call 69; refine Hs.out.mono ?_; rintro e v7 ⟨⟨v, rfl⟩, hm7, hb7⟩)
  have hx7 : Ext v5 v7 := But.ext Hx6.out hb7 (fun b => by rintro ⟨x, hx, rfl⟩; exact Hsh.out.2.2 x hx)
  have g57 := hx7.heap G55.out
  have g87 := hx7.heap G85.out
  have hxw7 := Hxw5.out.trans hx7
  have hp := Hsp.out v7 hxw7 a6 n2 c6 wl hm7 (by omega) ⟨hw1, by omega⟩
  obtain ⟨y5, _⟩ := (Ext.refl v7).box g57
  obtain ⟨y8, _⟩ := (Ext.refl v7).box g87
  have hl5 := heap_lt g57
  have hl8 := heap_lt g87
  have G57 := Lib.hid g57
  have G87 := Lib.hid g87
  have Hxw7 := Lib.hid hxw7
  have Hp := Lib.hid hp
  have Hm7 := Lib.hid hm7
  clear g57 g87 hxw7 hp hm7
  clear hx7 hb7 Hx6 Hs G55 G85 Hxw5
  go_upto_region 11 with (go_at_call 72; refine Hp.out.mono ?_; rintro e v8 ⟨g14, rfl, hx8, hg14, hb14, hn14⟩)
  have g58 := hx8.heap G57.out
  have g88 := hx8.heap G87.out
  have hxw8 := Hxw7.out.trans hx8
  have hm8 := Hm7.out.ext hx8
  have hc := Hc2.out v8 a6 n2 c6 hm8 (by omega) Hsh.out.1 Hsh.out.2.1
  have hge14 := Nat.le_trans hxw8.size (Nat.le_refl _)
  have hgw14 : w.heap.size ≤ g14 := Nat.le_trans Hxw7.out.size hg14
  have G58 := Lib.hid g58
  have G88 := Lib.hid g88
  have Hxw8 := Lib.hid hxw8
  have Hc := Lib.hid hc
  have Hb14 := Lib.hid hb14
  have Hn14 := Lib.hid hn14
  clear g58 g88 hxw8 hc hb14 hn14
  clear hx8 Hm7 Hp G57 G87 Hc2 y5 y8 hl5 hl8 hg14 hge14 hm8
  go_upto_region 12 with (first
    | (go_at_call 68; refine Hc.out.mono ?_; rintro e v9 ⟨a9, c9, rfl, hx9, ho9⟩; have hs9 := Hsl.out; rw [hl2] at hs9; rw [hs9] at ho9; have hmr := meets_owned ho9; have hd := Hde.out v9 a9 n2 c9 hmr (by omega); have Hd := Lib.hid hd; have Hmr := Lib.hid hmr; rw [hs9]; clear ho9 hs9 hmr hd)
    | (go_at_call 73; refine Hd.out.mono ?_; rintro e v10 ⟨rfl, hx10⟩))
  have hx11 := hx9.trans hx10
  have hp := Hsp.out v10 (Hxw8.out.trans hx11) a9 n2 c9 wh (Hmr.out.ext hx10) (by omega) ⟨by omega, by omega⟩
  have g50 := hx11.heap G58.out
  have g80 := hx11.heap G88.out
  have hb14 := hx11.heap Hb14.out
  have hxw10 := Hxw8.out.trans hx11
  obtain ⟨y5, _⟩ := (Ext.refl v10).box g50
  obtain ⟨y8, _⟩ := (Ext.refl v10).box g80
  have hl5 := heap_lt g50
  have hl8 := heap_lt g80
  have G50 := Lib.hid g50
  have G80 := Lib.hid g80
  have Hxw10 := Lib.hid hxw10
  have Hp := Lib.hid hp
  have Hb14 := Lib.hid hb14
  clear g50 g80 hxw10 hp hb14
  clear hx9 hx10 hx11 Hsp G58 G88 Hxw8 Hd Hmr Hc
  go_upto_region 13 with (go_at_call 72; refine Hp.out.mono ?_; rintro e v11 ⟨g16, rfl, hx11, hg16, hb16, hn16⟩)
  have g51 := hx11.heap G50.out
  have hb14 := hx11.heap Hb14.out
  have hxw11 := Hxw10.out.trans hx11
  obtain ⟨y5, _⟩ := (Ext.refl v11).box g51
  have hl5 := heap_lt g51
  have hgw16 : w.heap.size ≤ g16 := Nat.le_trans Hxw10.out.size hg16
  have Hb14 := Lib.hid hb14
  have Hb16 := Lib.hid hb16
  have Hxw11 := Lib.hid hxw11
  clear hb14 hb16 hxw11
  clear hx11 y8 hl8 hg16 g51 G50 G80 Hxw10 Hp
  go_upto_region 15 with fail
  have hb14 := ((Ext.refl v11).alloc (.cells (kvs (List.replicate N 0)) 5)).heap Hb14.out
  have hb16 := ((Ext.refl v11).alloc (.cells (kvs (List.replicate N 0)) 5)).heap Hb16.out
  have hst : KnSt w v11.heap.size N (knownAt (spreadOf N first (sortM l) wl day) (spreadOf N first (sortM l) wh day) day) 0 (v11.alloc (.cells (kvs (List.replicate N 0)) 5)) := ⟨Hxw11.out.alloc _, _, heap_alloc_new v11 _, by simp, fun i hi => by simp [List.getD, hi]⟩
  have hne14 := heap_lt Hb14.out
  have hne16 := heap_lt Hb16.out
  have hgw17 := Hxw11.out.size
  have hn14 := Hn14.out
  generalize spreadOf N first (sortM l) wl day = Ea at *
  generalize spreadOf N first (sortM l) wh day = La at *
  generalize v11.alloc (.cells (kvs (List.replicate N 0)) 5) = V0 at *
  generalize v11.heap.size = g17 at *
  have Hst := Lib.hid hst
  have Hb14 := Lib.hid hb14
  have Hb16 := Lib.hid hb16
  have Hne14 := Lib.hid hne14
  have Hne16 := Lib.hid hne16
  have Hgw17 := Lib.hid hgw17
  have Hn14 := Lib.hid hn14
  have Hn16 := Lib.hid hn16
  have Hgw14 := Lib.hid hgw14
  have Hgw16 := Lib.hid hgw16
  clear hst hb14 hb16 hne14 hne16 hgw17 hn14 hn16 hgw14 hgw16
  clear y5 hl5 hmk
  go_loopw [79] (fun i V => ∃ k : Nat, i = .int .i64 k ∧ k ≤ N ∧ KnSt w g17 N (knownAt Ea La day) k V ∧ V.heap[g14]? = some (.cells (ivs Ea) 3 (0, 0)) ∧ V.heap[g16]? = some (.cells (ivs La) 3 (0, 0))) (fun i _ => N - (intOf i).toNat)
  case atStart => exact ⟨0, rfl, Nat.zero_le _, Hst.out, Hb14.out, Hb16.out⟩
  case round =>
    obtain ⟨k, rfl, hk, st, b14, b16⟩ := hrel
    by_cases hlt : k < N
    · have hltB : decide ((k : Int) < (N : Int)) = true := by simp; omega
      obtain ⟨eE, hE⟩ : ∃ eE, Ea.getD k 0 = eE := ⟨_, rfl⟩
      obtain ⟨eL, hL⟩ : ∃ eL, La.getD k 0 = eL := ⟨_, rfl⟩
      have c14 := ivs_at b14 (k := k) (by rw [Hn14.out]; exact hlt)
      have c16 := ivs_at b16 (k := k) (by rw [Hn16.out]; exact hlt)
      have l14 := heap_lt b14
      have l16 := heap_lt b16
      rw [hE] at c14
      rw [hL] at c16
      have hF : knownAt Ea La day k = if eL ≤ day then 2 else if eE ≤ day then 1 else 0 := by
        unfold knownAt
        rw [hE, hL]
      obtain ⟨S, hSb, hSl, -⟩ := st.box
      have c17 : wr.cell? ⟨g17, k, none⟩ = some (.int .u8 (S.getD k 0)) := by
        rw [cell_of_row _ _ _ _ _ _ hSb]
        unfold kvs
        rw [List.getElem?_toArray, List.getElem?_map]
        simp [List.getD, hSl, hlt]
      have fz := fun q => ((Ext.refl wr).box hSb).2 q
      have l17 := heap_lt hSb
      have hput := st.put Hgw17.out hlt
      have hn1 := fun v => (Below.heap_setCell wr ⟨g17, k, none⟩ v g14 (by have := Hne14.out; simp only; omega)).trans b14
      have hn2 := fun v => (Below.heap_setCell wr ⟨g17, k, none⟩ v g16 (by have := Hne16.out; simp only; omega)).trans b16
      clear hSb hE hL
      generalize S.getD k 0 = old at *
      have Hput := Lib.hid hput
      have Hn1 := Lib.hid hn1
      have Hn2 := Lib.hid hn2
      have B14 := Lib.hid b14
      have B16 := Lib.hid b16
      clear hput hn1 hn2 b14 b16
      by_cases hle : eL ≤ day
      · have hleB : decide (eL ≤ day) = true := decide_eq_true hle
        rw [if_pos hle] at hF
        rw [hF] at Hput
        have HF := Lib.hid hF
        have St := Lib.hid st
        clear hF st
        go_wp2_with fail
        go_roundw
        case rel => exact ⟨k + 1, by go_num, by omega, Hput.out, Hn1.out _, Hn2.out _⟩
        case measure => simp [intOf]; omega
      · have hleB : decide (eL ≤ day) = false := decide_eq_false hle
        rw [if_neg hle] at hF
        by_cases hle2 : eE ≤ day
        · have hleB2 : decide (eE ≤ day) = true := decide_eq_true hle2
          rw [if_pos hle2] at hF
          rw [hF] at Hput
          have HF := Lib.hid hF
          have St := Lib.hid st
          clear hF st
          go_wp2_with fail
          go_roundw
          case rel => exact ⟨k + 1, by go_num, by omega, Hput.out, Hn1.out _, Hn2.out _⟩
          case measure => simp [intOf]; omega
        · have hleB2 : decide (eE ≤ day) = false := decide_eq_false hle2
          rw [if_neg hle2] at hF
          have hskip := st.skip hF
          have HF := Lib.hid hF
          have St := Lib.hid st
          have Hskip := Lib.hid hskip
          clear hF st hskip
          go_wp2_with fail
          go_roundw
          case rel => exact ⟨k + 1, by go_num, by omega, Hskip.out, B14.out, B16.out⟩
          case measure => simp [intOf]; omega
    · have hltB : decide ((k : Int) < (N : Int)) = false := by simp; omega
      obtain rfl : k = N := by omega
      have hf := st.fin
      rw [← Hres.out] at hf
      have Hf := Lib.hid hf
      clear hf
      clear st b14 b16
      go_wp2_with fail
      go_ret2
      exact ⟨g17, rfl, Hf.out.1, Hgw17.out, Hf.out.2⟩
end Go.Proofs.Ytcoelhpmkhimpaa

namespace Go.Proofs.Ytcoelhpmkhimpaa
open Go.RowKit
set_option linter.unusedVariables false
set_option linter.unusedSimpArgs false
theorem rangd_any (a b : Int) (w : World) : Calls Try.prog 37 #[.int .i64 a, .int .i64 b] w fun e w' => e = .returned (.agg #[.int .i64 a, .int .i64 b]) ∧ Ext w w' := by
  go_enter Try.func37, Try.ntmps37
  go_wp2_with fail
  refine bodyPost_ret (results_cell_row rfl _ _ w.heap.size 23 #[.int .i64 a, .int .i64 b] (0, 0) _ rfl (heap_alloc_new w _) Try.underlying23 rfl (by kernel_rfl)) rfl ?_
  exact ⟨rfl, (Ext.refl _).alloc _⟩
def familyL : List Animal := [⟨1, -1, ⟨0, 0⟩, []⟩, ⟨2, 1, ⟨1400, 2000⟩, []⟩, ⟨3, 2, ⟨3000, 4000⟩, []⟩, ⟨9, -1, ⟨0, 0⟩, []⟩]
theorem family_ok : HerdOk familyL := by
  have hm : ∀ l : List Mark, l = [] → MarksOk l := fun l h => by subst h; intro k m hm; simp at hm
  have hl : familyL.length = 4 := rfl
  refine ⟨by decide, fun i a h => ?_, fun i hi => ?_⟩
  · have hi : i < 4 := (List.getElem?_eq_some_iff.1 h).1
    have : i = 0 ∨ i = 1 ∨ i = 2 ∨ i = 3 := by omega
    rcases this with rfl | rfl | rfl | rfl <;> (cases h; exact ⟨by decide, by decide, by first | exact .inl rfl | exact .inr ⟨0, by decide⟩ | exact .inr ⟨1, by decide⟩, by decide, hm _ rfl⟩)
  · rw [hl] at hi
    have h0 : Line familyL 0 [0] := .root (by decide)
    have h1 : Line familyL 1 [1, 0] := .step (by decide) h0
    have : i = 0 ∨ i = 1 ∨ i = 2 ∨ i = 3 := by omega
    rcases this with rfl | rfl | rfl | rfl
    · exact ⟨_, h0⟩
    · exact ⟨_, h1⟩
    · exact ⟨_, .step (by decide) h1⟩
    · exact ⟨_, .root (by decide)⟩
theorem family_kin : kinOf familyL 2 0 = (2, 0, 0) := by decide
theorem family_mange : mangeOf 2 [0] [⟨0, 1, 5, true⟩] ⟨3, 4⟩ 9 = [2, 2] := by decide
theorem family_at {V : World} {b : Nat} (h : V.heap[b]? = some (.cells #[.int .i64 1, .int .i64 (-1), .int .i64 0, .int .i64 0, .slice none 0 0, .int .i64 2, .int .i64 1, .int .i64 1400, .int .i64 2000, .slice none 0 0, .int .i64 3, .int .i64 2, .int .i64 3000, .int .i64 4000, .slice none 0 0, .int .i64 9, .int .i64 (-1), .int .i64 0, .int .i64 0, .slice none 0 0] 69 (0, 0))) :
    AnimalsAt V (some ⟨b, 0, none⟩) 4 familyL := by
  refine ⟨rfl, fun _ => ⟨b, 0, rfl, fun k f hf => ?_⟩⟩
  have hk : k < 4 := (List.getElem?_eq_some_iff.1 hf).1
  have : k = 0 ∨ k = 1 ∨ k = 2 ∨ k = 3 := by omega
  rcases this with rfl | rfl | rfl | rfl <;>
  · cases hf
    refine ⟨none, 0, 0, fun j v hv => ?_, by decide, by decide, rfl, fun h => by omega⟩
    have hj : j < 5 := (List.getElem?_eq_some_iff.1 hv).1
    have : j = 0 ∨ j = 1 ∨ j = 2 ∨ j = 3 ∨ j = 4 := by omega
    rw [cell_of_row _ _ _ _ _ _ h]
    rcases this with rfl | rfl | rfl | rfl | rfl <;> (cases hv; rfl)
theorem family_any (w : World) : Calls Try.prog 60 #[] w fun e w' => ∃ b, e = .returned (.slice (some ⟨b, 0, none⟩) 4 4) ∧ Ext w w' ∧ AnimalsAt w' (some ⟨b, 0, none⟩) 4 familyL := by
  have hr := rangd_any
  have Hr := Lib.hid hr
  clear hr
  go_enter Try.func60, Try.ntmps60
  go_wp2_with (go_at_call 37; refine (Hr.out _ _ _).mono ?_; rintro e w1 ⟨rfl, hx1⟩)
  go_ret
  refine ⟨_, rfl, Ext.alloc (Ext.trans (by assumption) (by assumption)) _, family_at (heap_alloc_new _ _)⟩
theorem meets_one {V : World} {b : Nat} {m : Meet} (h : V.heap[b]? = some (.cells #[.int .i64 m.a, .int .i64 m.b, .int .i64 m.day, .bool m.close] 74 (0, 0))) : MeetsAt V (some ⟨b, 0, none⟩) 1 [m] := by
  refine ⟨rfl, fun _ => ⟨b, 0, rfl, fun k hk j v hv => ?_⟩⟩
  obtain rfl : k = 0 := by omega
  rw [cell_of_row _ _ _ _ _ _ h, ← hv]
  simp [Meet.cells]
set_option maxRecDepth 100000 in
theorem alive02_any (w : World) : Calls Try.prog 20 #[] w fun e w' => e = .returned (.bool true) ∧ Ext w w' := by
  have hr := rangd_any
  have hf := family_any
  have hk := fun (V : World) (b : Nat) (h : AnimalsAt V (some ⟨b, 0, none⟩) 4 familyL) => kin_any (w := V) (c := 4) (l := familyL) family_ok h (by decide) (ida := 3) (idb := 1) (i := 2) (j := 0) (by decide) (by decide)
  rw [family_kin, show familyL.length = 4 from rfl] at hk
  have hm := fun (V : World) (b1 b2 : Nat) (h1 : V.heap[b1]? = some (.cells #[.int .i64 0] 3 (0, 0))) (h2 : MeetsAt V (some ⟨b2, 0, none⟩) 1 [⟨0, 1, 5, true⟩]) => mange_any 2 (some ⟨b1, 0, none⟩) 1 1 [0] (some ⟨b2, 0, none⟩) 1 1 [⟨0, 1, 5, true⟩] 3 4 9 V (ints_built (l := [0]) h1) h2 (by simp) (fun x hx => by cases hx; exact ⟨_, _, rfl⟩)
    ⟨by decide, by decide, by decide, ⟨by decide, by simp⟩, ⟨by decide, fun m hm => by simp at hm; subst hm; exact ⟨by decide, by decide, by decide, by decide⟩⟩, fun m hm => by simp at hm; subst hm; rfl⟩
  unfold MangePost at hm
  rw [family_mange] at hm
  have Hr := Lib.hid hr
  have Hf := Lib.hid hf
  have Hk := Lib.hid hk
  have Hm := Lib.hid hm
  clear hr hf hk hm
  go_enter Try.func20, Try.ntmps20
  go_upto_region 2 with (first
    | (have q := hx1; clear q; go_at_call 26; refine (Hk.out _ _ ha1).mono ?_; rintro e w2 ⟨rfl, hx2⟩)
    | (go_at_call 60; refine (Hf.out _).mono ?_; rintro e w1 ⟨b, rfl, hx1, ha1⟩))
  have hxa := hx1.trans hx2
  have Hxa := Lib.hid hxa
  clear hxa
  clear hx1 hx2 ha1 Hf Hk
  go_upto_region 3 with (first
    | (go_at_call 37; refine (Hr.out _ _ _).mono ?_; rintro e w4 ⟨rfl, hx4⟩)
    | (go_at_call 25; refine (Hm.out _ _ _ (hx4.heap (((Ext.refl _).alloc _).heap (heap_alloc_new _ _))) (meets_one (m := ⟨0, 1, 5, true⟩) (hx4.heap (alloc_at _ _ _ (by simp))))).mono ?_; rintro e w5 ⟨g, rfl, hx5, hg5, hi5⟩))
  have hcv : (convert 75 9 (.slice (some ⟨g, 0, none⟩) 2 2)).run Try.prog w5 = .ok (.string ⟨#[2, 2]⟩) w5 := by
    refine run_convert_bytes_back w5 75 9 5 ⟨g, 0, none⟩ 2 [2, 2] Try.underlying75 Try.underlying5 Try.underlying9 (fun j hj => ?_)
    obtain ⟨b, off, x, e1, e2, _, e4⟩ := hi5.get j hj
    cases e1
    rw [addr_add', e4]
    have hj2 : j = 0 ∨ j = 1 := by simp at hj; omega
    rcases hj2 with rfl | rfl <;> (cases e2; rfl)
  have hxb := Hxa.out.trans (((Ext.refl w2).alloc _).alloc _ |>.trans hx4 |>.trans hx5)
  have Hxb := Lib.hid hxb
  clear hxb
  clear hx4 hx5 hi5 Hm Hr Hxa
  go_wp2_with fail
  go_ret
  exact ⟨rfl, Hxb.out⟩
end Go.Proofs.Ytcoelhpmkhimpaa

namespace Go.Proofs.Ytcoelhpmkhimpaa
set_option linter.unusedVariables false
/-- how many mothers an animal has -/
def deep (l : List Animal) (i : Nat) : Nat := (lineOf l i).length - 1
/-- the meeting of an animal with its mother -/
def meetOf (l : List Animal) (hi : Int) (i : Nat) : Option Meet := (mom l i).map fun m => ⟨(i : Int), (m : Int), (deep l i : Int) * hi, true⟩
def familyM (l : List Animal) (hi : Int) (k : Nat) : List Meet := (List.range k).filterMap (meetOf l hi)
theorem lineOf_root {l : List Animal} (h : HerdOk l) {i : Nat} (hi : i < l.length) (hm : mom l i = none) : lineOf l i = [i] := (h.lineIs hi).det (.root hm)
theorem lineOf_step {l : List Animal} (h : HerdOk l) {i m : Nat} (hi : i < l.length) (hm : mom l i = some m) : lineOf l i = i :: lineOf l m := (h.lineIs hi).det (.step hm (h.lineIs (mom_lt hm)))
theorem deep_step {l : List Animal} (h : HerdOk l) {i m : Nat} (hi : i < l.length) (hm : mom l i = some m) : deep l i = deep l m + 1 := by
  unfold deep
  rw [lineOf_step h hi hm]
  have := (h.lineIs (mom_lt hm)).len_pos
  simp
  omega
theorem deep_lt {l : List Animal} (h : HerdOk l) {i : Nat} (hi : i < l.length) : deep l i + 1 ≤ l.length := by
  unfold deep
  have h1 := (h.lineIs hi).len hi
  have h2 := (h.lineIs hi).len_pos
  omega
theorem self_on {l : List Animal} (h : HerdOk l) {i : Nat} (hi : i < l.length) : i ∈ lineOf l i := by
  have := h.lineIs hi
  cases hm : mom l i with
  | none => rw [lineOf_root h hi hm]; simp
  | some m => rw [lineOf_step h hi hm]; simp
/-- what comes from an animal that is on a line -/
theorem line_in {l : List Animal} (h : HerdOk l) : ∀ (L : List Nat) (i : Nat), Line l i L → i < l.length → ∀ x ∈ L, ∀ y ∈ lineOf l x, y ∈ L := by
  intro L i hL
  induction hL with
  | @root i hm =>
    intro hi x hx y hy
    simp at hx
    subst hx
    rw [lineOf_root h hi hm] at hy
    exact hy
  | @step i m L hm t ih =>
    intro hi x hx y hy
    rcases List.mem_cons.1 hx with rfl | hx
    · rw [lineOf_step h hi hm] at hy
      rw [(h.lineIs (mom_lt hm)).det t] at hy
      exact hy
    · exact List.mem_cons_of_mem _ (ih (mom_lt hm) x hx y hy)
theorem familyM_mem {l : List Animal} {hi : Int} {k : Nat} {x : Meet} : x ∈ familyM l hi k ↔ ∃ i m, i < k ∧ mom l i = some m ∧ x = ⟨(i : Int), (m : Int), (deep l i : Int) * hi, true⟩ := by
  unfold familyM
  rw [List.mem_filterMap]
  constructor
  · rintro ⟨i, hi', hx⟩
    unfold meetOf at hx
    cases hm : mom l i with
    | none => rw [hm] at hx; cases hx
    | some m =>
      rw [hm] at hx
      simp at hx
      exact ⟨i, m, List.mem_range.1 hi', hm, hx.symm⟩
  · rintro ⟨i, m, hi', hm, rfl⟩
    exact ⟨i, List.mem_range.2 hi', by unfold meetOf; rw [hm]; rfl⟩
theorem getI_set {s : List Int} {p q : Int} {v : Int} (hp : 0 ≤ p) (hq : 0 ≤ q ∧ q < s.length) : getI (s.set q.toNat v) p = if p = q then v else getI s p := by
  unfold getI
  rw [List.getD_eq_getElem?_getD, List.getD_eq_getElem?_getD, List.getElem?_set]
  by_cases h : p = q
  · subst h
    rw [if_pos rfl, if_pos (by omega), if_pos rfl]
    rfl
  · rw [if_neg h, if_neg (by omega)]
theorem passOn_get {wait p q day x : Int} {s : List Int} (hx : 0 ≤ x) (hq : 0 ≤ q ∧ q < s.length) : getI (passOn wait p q day s) x = if getI s p ≤ day ∧ x = q then min (getI s q) (day + wait) else getI s x := by
  unfold passOn
  by_cases h : getI s p ≤ day
  · rw [if_pos h, getI_set hx hq]
    by_cases e : x = q <;> simp [h, e]
  · rw [if_neg h]
    simp [h]
/-- what is passed on never comes later -/
theorem passOn_le {wait p q day x : Int} {s : List Int} (hx : 0 ≤ x) (hq : 0 ≤ q ∧ q < s.length) : getI (passOn wait p q day s) x ≤ getI s x := by
  rw [passOn_get hx hq]
  split
  · rename_i h
    rw [h.2]
    omega
  · omega
/-- who is sick for sure, and since when -/
structure Late (l : List Animal) (hi : Int) (f : Nat) (P : List Meet) (s : List Int) : Prop where
  len : s.length = l.length
  first : getI s f ≤ 0
  all : ∀ i m, i < l.length → mom l i = some m → f ∈ lineOf l m → (⟨(i : Int), (m : Int), (deep l i : Int) * hi, true⟩ : Meet) ∈ P → getI s i ≤ ((deep l i : Int) + 1) * hi
theorem late_step {l : List Animal} (h : HerdOk l) {hi : Int} (hh : 1 ≤ hi) {f : Nat} {P R : List Meet} {s : List Int} {x : Meet} (hS : Rises (P ++ x :: R)) (hmem : ∀ y, y ∈ P ++ x :: R ↔ y ∈ familyM l hi l.length) (hL : Late l hi f P s) :
    Late l hi f (P ++ [x]) (passOn hi x.b x.a x.day (passOn hi x.a x.b x.day s)) := by
  obtain ⟨i, m, hi', hm, rfl⟩ := familyM_mem.1 ((hmem x).1 (by simp))
  have hm' := mom_lt hm
  simp only
  have hb : (0 : Int) ≤ (m : Int) ∧ (m : Int) < s.length := by rw [hL.len]; omega
  have ha : (0 : Int) ≤ (i : Int) ∧ (i : Int) < (passOn hi (i : Int) (m : Int) ((deep l i : Int) * hi) s).length := by rw [passOn_len, hL.len]; omega
  have le1 : ∀ y : Int, 0 ≤ y → getI (passOn hi (m : Int) (i : Int) ((deep l i : Int) * hi) (passOn hi (i : Int) (m : Int) ((deep l i : Int) * hi) s)) y ≤ getI s y := fun y hy =>
    Int.le_trans (passOn_le hy ha) (passOn_le hy hb)
  refine ⟨by rw [passOn_len, passOn_len, hL.len], Int.le_trans (le1 _ (by omega)) hL.first, fun j k hj hk hf hin => ?_⟩
  rcases List.mem_append.1 hin with hin | hin
  · exact Int.le_trans (le1 _ (by omega)) (hL.all j k hj hk hf hin)
  · have hin := List.mem_singleton.1 hin
    simp only [Meet.mk.injEq, and_true] at hin
    obtain ⟨e1, e2, _⟩ := hin
    obtain rfl : j = i := by omega
    obtain rfl : k = m := by omega
    -- the mother is sick by then
    have hdj := deep_step h hi' hm
    have hmo : getI s k ≤ (deep l j : Int) * hi := by
      by_cases hkf : k = f
      · subst hkf
        have h1 := hL.first
        have h2 := Int.mul_nonneg (show (0 : Int) ≤ deep l j by omega) (show 0 ≤ hi by omega)
        omega
      · cases hmm : mom l k with
        | none =>
          rw [lineOf_root h hm' hmm] at hf
          simp at hf
          omega
        | some g =>
          rw [lineOf_step h hm' hmm] at hf
          have hf' : f ∈ lineOf l g := by
            rcases List.mem_cons.1 hf with e | e
            · omega
            · exact e
          have hin' : (⟨(k : Int), (g : Int), (deep l k : Int) * hi, true⟩ : Meet) ∈ P ++ (⟨(j : Int), (k : Int), (deep l j : Int) * hi, true⟩ : Meet) :: R := (hmem _).2 (familyM_mem.2 ⟨k, g, hm', hmm, rfl⟩)
          have hlt : (deep l k : Int) * hi < (deep l j : Int) * hi := by
            rw [hdj]
            have : ((deep l k + 1 : Nat) : Int) * hi = (deep l k : Int) * hi + hi := by
              rw [Int.natCast_add, Int.add_mul]
              omega
            omega
          have hP : (⟨(k : Int), (g : Int), (deep l k : Int) * hi, true⟩ : Meet) ∈ P := by
            rcases List.mem_append.1 hin' with e | e
            · exact e
            · exfalso
              rcases List.mem_cons.1 e with e | e
              · simp only [Meet.mk.injEq] at e
                omega
              · have := (List.pairwise_cons.1 (List.pairwise_append.1 hS).2.1).1 _ e
                simp only at this
                omega
          have := hL.all k g hm' hmm hf' hP
          rw [hdj]
          exact this
    have hmo2 : getI (passOn hi (j : Int) (k : Int) ((deep l j : Int) * hi) s) k ≤ (deep l j : Int) * hi := Int.le_trans (passOn_le (by omega) hb) hmo
    rw [passOn_get (by omega) ha, if_pos ⟨hmo2, rfl⟩, Int.add_mul]
    omega
theorem late_all {l : List Animal} (h : HerdOk l) {hi : Int} (hh : 1 ≤ hi) {f : Nat} {last : Int} (hlast : (l.length : Int) * hi ≤ last) : ∀ (R P : List Meet) (s : List Int), Rises (P ++ R) → (∀ y, y ∈ P ++ R ↔ y ∈ familyM l hi l.length) → Late l hi f P s →
    Late l hi f (P ++ R) (spreadL hi last R s)
  | [], P, s, hS, hmem, hL => by rw [List.append_nil]; exact hL
  | x :: R, P, s, hS, hmem, hL => by
    have hx : ¬last < x.day := by
      obtain ⟨i, m, hi', hm, rfl⟩ := familyM_mem.1 ((hmem x).1 (by simp))
      simp only
      have h1 := deep_lt h hi'
      have h2 := Int.mul_le_mul_of_nonneg_right (show (deep l i : Int) ≤ l.length by omega) (show 0 ≤ hi by omega)
      omega
    unfold spreadL
    rw [if_neg hx]
    have ih := late_all h hh hlast R (P ++ [x]) _ (by simpa using hS) (by simpa using hmem) (late_step h hh hS hmem hL)
    simpa using ih
/-- who is no kin stays well -/
structure Well' (l : List Animal) (f : Nat) (s : List Int) : Prop where
  len : s.length = l.length
  all : ∀ i, i < l.length → (∀ x ∈ lineOf l i, x ∉ lineOf l f) → getI s i = 100061
theorem well_step {l : List Animal} (h : HerdOk l) {wait hi : Int} {f : Nat} (hf : f < l.length) {s : List Int} {x : Meet} (hx : x ∈ familyM l hi l.length) (hd : x.day < 100061) (hW : Well' l f s) :
    Well' l f (passOn wait x.b x.a x.day (passOn wait x.a x.b x.day s)) := by
  obtain ⟨i, m, hi', hm, rfl⟩ := familyM_mem.1 hx
  have hm' := mom_lt hm
  simp only at hd ⊢
  have hb : (0 : Int) ≤ (m : Int) ∧ (m : Int) < s.length := by rw [hW.len]; omega
  have ha : (0 : Int) ≤ (i : Int) ∧ (i : Int) < (passOn wait (i : Int) (m : Int) ((deep l i : Int) * hi) s).length := by rw [passOn_len, hW.len]; omega
  have hst := lineOf_step h hi' hm
  -- mother and calf are both kin, or both not
  have d1 : (∀ x ∈ lineOf l i, x ∉ lineOf l f) → ∀ x ∈ lineOf l m, x ∉ lineOf l f := fun hno x hx => hno x (by rw [hst]; exact List.mem_cons_of_mem _ hx)
  have d2 : (∀ x ∈ lineOf l m, x ∉ lineOf l f) → ∀ x ∈ lineOf l i, x ∉ lineOf l f := fun hno x hx hxf => by
    rw [hst] at hx
    rcases List.mem_cons.1 hx with rfl | hx
    · have hin := line_in h _ _ (h.lineIs hf) hf x hxf m (by rw [hst]; exact List.mem_cons_of_mem _ (self_on h hm'))
      exact hno m (self_on h hm') hin
    · exact hno x hx hxf
  have w1 : ∀ j, j < l.length → (∀ x ∈ lineOf l j, x ∉ lineOf l f) → getI (passOn wait (i : Int) (m : Int) ((deep l i : Int) * hi) s) j = 100061 := fun j hj hno => by
    rw [passOn_get (by omega) hb]
    split
    · rename_i e
      obtain rfl : j = m := by omega
      have := hW.all i hi' (d2 hno)
      omega
    · exact hW.all j hj hno
  refine ⟨by rw [passOn_len, passOn_len, hW.len], fun j hj hno => ?_⟩
  rw [passOn_get (by omega) ha]
  split
  · rename_i e
    obtain rfl : j = i := by omega
    have := w1 m hm' (d1 hno)
    omega
  · exact w1 j hj hno
theorem well_all {l : List Animal} (h : HerdOk l) {wait hi : Int} {f : Nat} (hf : f < l.length) {last : Int} (hlast : last < 100061) : ∀ (R : List Meet) (s : List Int), (∀ y ∈ R, y ∈ familyM l hi l.length) → Well' l f s → Well' l f (spreadL wait last R s)
  | [], s, _, hW => hW
  | x :: R, s, hR, hW => by
    unfold spreadL
    split
    · exact hW
    · exact well_all h hf hlast R _ (fun y hy => hR y (List.mem_cons_of_mem _ hy)) (well_step h hf (hR x (by simp)) (by omega) hW)
theorem sick_one (n f : Nat) (hf : f < n) : getI (sickAt n [(f : Int)]) f = 0 ∧ ∀ i, i < n → i ≠ f → getI (sickAt n [(f : Int)]) i = 100061 := by
  unfold sickAt
  simp only [List.foldl_cons, List.foldl_nil]
  constructor
  · rw [getI_set (by omega) (by simp; omega), if_pos rfl]
  · intro i hi hne
    rw [getI_set (by omega) (by simp; omega), if_neg (by omega)]
    unfold getI
    rw [List.getD_eq_getElem?_getD, List.getElem?_replicate, if_pos (by omega)]
    rfl
theorem closeM_family {l : List Animal} {hi : Int} : closeM (sortM (familyM l hi l.length)) = sortM (familyM l hi l.length) := by
  unfold closeM
  rw [List.filter_eq_self]
  intro x hx
  obtain ⟨i, m, _, _, rfl⟩ := familyM_mem.1 (sortM_mem.1 hx)
  rfl
theorem getD_known {n : Nat} {g : Nat → Int} {i : Nat} (hi : i < n) : ((List.range n).map g).getD i 0 = g i := by
  rw [List.getD_eq_getElem?_getD, List.getElem?_map, List.getElem?_range hi]
  rfl
/-- all that come from a sick mother are sick at last -/
theorem from_sick {l : List Animal} (h : HerdOk l) {w : Span} (h1 : 1 ≤ w.lo) (h2 : w.lo ≤ w.hi) {f i : Nat} (hf : f < l.length) (hi : i < l.length) (hfrom : f ∈ lineOf l i) :
    (mangeOf l.length [(f : Int)] (familyM l w.hi l.length) w ((l.length : Int) * w.hi + w.hi)).getD i 0 = 2 := by
  have hL : Late l w.hi f [] (sickAt l.length [(f : Int)]) := ⟨sickAt_len _ _, by rw [(sick_one _ _ hf).1]; omega, fun _ _ _ _ _ hin => by cases hin⟩
  have hA := late_all h (hi := w.hi) (by omega) (f := f) (last := (l.length : Int) * w.hi + w.hi) (by omega) (sortM (familyM l w.hi l.length)) [] _ (by simpa using sortM_rises _) (by simp [sortM_mem]) hL
  unfold mangeOf
  rw [getD_known hi]
  unfold knownAt
  rw [closeM_family]
  have hle : getI (spreadOf l.length [(f : Int)] (sortM (familyM l w.hi l.length)) w.hi ((l.length : Int) * w.hi + w.hi)) i ≤ (l.length : Int) * w.hi + w.hi := by
    unfold spreadOf
    cases hm : mom l i with
    | none =>
      rw [lineOf_root h hi hm] at hfrom
      simp at hfrom
      subst hfrom
      have := hA.first
      have := Int.mul_nonneg (show (0 : Int) ≤ l.length by omega) (show 0 ≤ w.hi by omega)
      omega
    | some m =>
      by_cases e : i = f
      · subst e
        have := hA.first
        have := Int.mul_nonneg (show (0 : Int) ≤ l.length by omega) (show 0 ≤ w.hi by omega)
        omega
      · rw [lineOf_step h hi hm] at hfrom
        have hfm : f ∈ lineOf l m := by
          rcases List.mem_cons.1 hfrom with e' | e'
          · omega
          · exact e'
        have k1 := hA.all i m hi hm hfm (by simp only [List.nil_append]; exact sortM_mem.2 (familyM_mem.2 ⟨i, m, hi, hm, rfl⟩))
        have k2 := deep_lt h hi
        have k3 := Int.mul_le_mul_of_nonneg_right (show (deep l i : Int) + 1 ≤ l.length by omega) (show 0 ≤ w.hi by omega)
        omega
  unfold getI at hle
  rw [Int.toNat_natCast] at hle
  rw [if_pos hle]
/-- none that is no kin of hers is -/
theorem none_sick {l : List Animal} (h : HerdOk l) {w : Span} (h1 : 1 ≤ w.lo) (h2 : w.lo ≤ w.hi) (h3 : w.hi ≤ 60) {f i : Nat} (hf : f < l.length) (hi : i < l.length) (hno : ∀ x ∈ lineOf l i, x ∉ lineOf l f) :
    (mangeOf l.length [(f : Int)] (familyM l w.hi l.length) w ((l.length : Int) * w.hi + w.hi)).getD i 0 = 0 := by
  have hn := h.len
  have hb := Int.mul_le_mul_of_nonneg_right (show (l.length : Int) ≤ 16 by omega) (show 0 ≤ w.hi by omega)
  have hW : Well' l f (sickAt l.length [(f : Int)]) := ⟨sickAt_len _ _, fun j hj hj' => (sick_one _ _ hf).2 j hj fun e => by
    subst e
    exact hj' j (self_on h hj) (self_on h hj)⟩
  have g := fun wait => (well_all h (wait := wait) hf (last := (l.length : Int) * w.hi + w.hi) (by omega) (sortM (familyM l w.hi l.length)) _ (fun y hy => sortM_mem.1 hy) hW).all i hi hno
  unfold mangeOf
  rw [getD_known hi]
  unfold knownAt
  rw [closeM_family]
  have g1 := g w.hi
  have g2 := g w.lo
  unfold getI at g1 g2
  rw [Int.toNat_natCast] at g1 g2
  unfold spreadOf
  rw [if_neg (by omega), if_neg (by omega)]
end Go.Proofs.Ytcoelhpmkhimpaa

namespace Go.Proofs.Ytcoelhpmkhimpaa
open Go.RowKit
set_option linter.unusedVariables false
set_option linter.unusedSimpArgs false
theorem great_marks {l : List Animal} (h : great2B l = false) : l.length ≤ 20 ∧ ∀ x ∈ l, x.marks.length ≤ 1000000000 := by
  unfold great2B at h
  rw [Bool.or_eq_false_iff] at h
  obtain ⟨h1, h2⟩ := h
  refine ⟨by simpa using h1, fun x hx => ?_⟩
  rw [List.any_eq_false] at h2
  have := h2 x hx
  simp at this
  omega
set_option maxRecDepth 100000 in
set_option maxHeartbeats 16000000 in
theorem mange1
    (a : Option Addr) (n c : Nat) (l : List Animal) (z : Int) (s0 s1 : Int) (w : World) (hl : AnimalsAt w a n l) (hnc : n ≤ c) (hcm : c ≤ maxLen) (hz0 : 0 ≤ z) (hz1 : z ≤ 255)
    (hg : great2B l = true) :
    Calls Try.prog 5 #[.slice a n c, .int .u8 z, .agg #[.int .i64 s0, .int .i64 s1]] w fun e w' => e = .returned (.bool true) ∧ Ext w w' := by
  have hgr := fun W (hW : Ext w W) => great2_any a n c l W (hl.ext hW) (Nat.le_trans hnc hcm)
  have hx0 : Ext w (w.alloc (.cells #[.int .i64 s0, .int .i64 s1] 23)) := (Ext.refl _).alloc _
  have hb0 := heap_alloc_new w (.cells #[.int .i64 s0, .int .i64 s1] 23)
  obtain ⟨W0, hW0⟩ : ∃ W0, w.alloc (.cells #[.int .i64 s0, .int .i64 s1] 23) = W0 := ⟨_, rfl⟩
  rw [hW0] at hx0 hb0
  rw [hg] at hgr
  have Hgr := Lib.hid hgr
  have Hx0 := Lib.hid hx0
  have Hb0 := Lib.hid hb0
  clear hgr hx0 hb0
  clear hl
  go_enter Try.func5, Try.ntmps5
  go_wp2_with (first
    | (go_at_call 20; refine (alive02_any _).mono ?_; rintro e v1 ⟨rfl, hx1⟩; have hy1 := Hx0.out.trans hx1; have hb1 := hx1.heap Hb0.out; have Hy1 := Lib.hid hy1; have Hb1 := Lib.hid hb1; clear hx1 hy1 hb1)
    | (go_at_call 21; refine (Hgr.out _ Hy1.out).mono ?_; rintro e v2 ⟨rfl, hx2⟩; have hy2 := Hy1.out.trans hx2; have hb2 := hx2.heap Hb1.out; obtain ⟨za, _⟩ := (Ext.refl v2).box hb2; have hl2 := heap_lt hb2; have Hy2 := Lib.hid hy2; have Hb2 := Lib.hid hb2; clear hx2 hy2 hb2)
    )
  go_ret
  exact ⟨rfl, Hy2.out⟩
set_option maxRecDepth 100000 in
set_option maxHeartbeats 16000000 in
theorem mange2
    (a : Option Addr) (n c : Nat) (l : List Animal) (z : Int) (s0 s1 : Int) (w : World) (hl : AnimalsAt w a n l) (hnc : n ≤ c) (hcm : c ≤ maxLen) (hz0 : 0 ≤ z) (hz1 : z ≤ 255)
    (hg : great2B l = false) (hn : n = 0) :
    Calls Try.prog 5 #[.slice a n c, .int .u8 z, .agg #[.int .i64 s0, .int .i64 s1]] w fun e w' => e = .returned (.bool true) ∧ Ext w w' := by
  have hgr := fun W (hW : Ext w W) => great2_any a n c l W (hl.ext hW) (Nat.le_trans hnc hcm)
  have hx0 : Ext w (w.alloc (.cells #[.int .i64 s0, .int .i64 s1] 23)) := (Ext.refl _).alloc _
  have hb0 := heap_alloc_new w (.cells #[.int .i64 s0, .int .i64 s1] 23)
  obtain ⟨W0, hW0⟩ : ∃ W0, w.alloc (.cells #[.int .i64 s0, .int .i64 s1] 23) = W0 := ⟨_, rfl⟩
  rw [hW0] at hx0 hb0
  obtain ⟨hg1, hg2⟩ := great_marks hg
  have hck := fun W (hW : Ext w W) => check2_any a n c l W (hl.ext hW) (by have := hl.1; omega) hg2
  rw [hg] at hgr
  subst hn
  skip
  skip
  skip
  have Hgr := Lib.hid hgr
  have Hx0 := Lib.hid hx0
  have Hb0 := Lib.hid hb0
  have Hck := Lib.hid hck
  clear hgr hx0 hb0 hck
  clear hl hg1 hg2
  go_enter Try.func5, Try.ntmps5
  go_wp2_with (first
    | (go_at_call 20; refine (alive02_any _).mono ?_; rintro e v1 ⟨rfl, hx1⟩; have hy1 := Hx0.out.trans hx1; have hb1 := hx1.heap Hb0.out; have Hy1 := Lib.hid hy1; have Hb1 := Lib.hid hb1; clear hx1 hy1 hb1)
    | (go_at_call 21; refine (Hgr.out _ Hy1.out).mono ?_; rintro e v2 ⟨rfl, hx2⟩; have hy2 := Hy1.out.trans hx2; have hb2 := hx2.heap Hb1.out; obtain ⟨za, _⟩ := (Ext.refl v2).box hb2; have hl2 := heap_lt hb2; have Hy2 := Lib.hid hy2; have Hb2 := Lib.hid hb2; clear hx2 hy2 hb2)
    | (go_at_call 22; refine (Hck.out _ Hy2.out).mono ?_; rintro e v3 ⟨k, rfl, hk, hx3⟩; clear za hl2; have hy3 := Hy2.out.trans hx3; have hb3 := hx3.heap Hb2.out; obtain ⟨za, _⟩ := (Ext.refl v3).box hb3; have hl3 := heap_lt hb3; have Hk := Lib.hid hk; have Hy3 := Lib.hid hy3; have Hb3 := Lib.hid hb3; clear hx3 hy3 hb3 hk; by_cases h0 : k = 0)
    )
  all_goals (go_ret; exact ⟨rfl, Hy3.out⟩)
set_option maxRecDepth 100000 in
set_option maxHeartbeats 16000000 in
theorem mange3
    (a : Option Addr) (n c : Nat) (l : List Animal) (z : Int) (s0 s1 : Int) (w : World) (hl : AnimalsAt w a n l) (hnc : n ≤ c) (hcm : c ≤ maxLen) (hz0 : 0 ≤ z) (hz1 : z ≤ 255)
    (hg : great2B l = false) (hn : 0 < n) (hs1 : s0 < 1) :
    Calls Try.prog 5 #[.slice a n c, .int .u8 z, .agg #[.int .i64 s0, .int .i64 s1]] w fun e w' => e = .returned (.bool true) ∧ Ext w w' := by
  have hgr := fun W (hW : Ext w W) => great2_any a n c l W (hl.ext hW) (Nat.le_trans hnc hcm)
  have hx0 : Ext w (w.alloc (.cells #[.int .i64 s0, .int .i64 s1] 23)) := (Ext.refl _).alloc _
  have hb0 := heap_alloc_new w (.cells #[.int .i64 s0, .int .i64 s1] 23)
  obtain ⟨W0, hW0⟩ : ∃ W0, w.alloc (.cells #[.int .i64 s0, .int .i64 s1] 23) = W0 := ⟨_, rfl⟩
  rw [hW0] at hx0 hb0
  obtain ⟨hg1, hg2⟩ := great_marks hg
  have hck := fun W (hW : Ext w W) => check2_any a n c l W (hl.ext hW) (by have := hl.1; omega) hg2
  rw [hg] at hgr
  have hnB : ((n : Int) == 0) = false := by (simp; omega)
  have hsB : decide (s0 < 1) = true := decide_eq_true hs1
  skip
  skip
  have Hgr := Lib.hid hgr
  have Hx0 := Lib.hid hx0
  have Hb0 := Lib.hid hb0
  have Hck := Lib.hid hck
  clear hgr hx0 hb0 hck
  clear hl hg1 hg2
  go_enter Try.func5, Try.ntmps5
  go_wp2_with (first
    | (go_at_call 20; refine (alive02_any _).mono ?_; rintro e v1 ⟨rfl, hx1⟩; have hy1 := Hx0.out.trans hx1; have hb1 := hx1.heap Hb0.out; have Hy1 := Lib.hid hy1; have Hb1 := Lib.hid hb1; clear hx1 hy1 hb1)
    | (go_at_call 21; refine (Hgr.out _ Hy1.out).mono ?_; rintro e v2 ⟨rfl, hx2⟩; have hy2 := Hy1.out.trans hx2; have hb2 := hx2.heap Hb1.out; obtain ⟨za, _⟩ := (Ext.refl v2).box hb2; have hl2 := heap_lt hb2; have Hy2 := Lib.hid hy2; have Hb2 := Lib.hid hb2; clear hx2 hy2 hb2)
    | (go_at_call 22; refine (Hck.out _ Hy2.out).mono ?_; rintro e v3 ⟨k, rfl, hk, hx3⟩; clear za hl2; have hy3 := Hy2.out.trans hx3; have hb3 := hx3.heap Hb2.out; obtain ⟨za, _⟩ := (Ext.refl v3).box hb3; have hl3 := heap_lt hb3; have Hk := Lib.hid hk; have Hy3 := Lib.hid hy3; have Hb3 := Lib.hid hb3; clear hx3 hy3 hb3 hk; by_cases h0 : k = 0)
    )
  all_goals (go_ret; exact ⟨rfl, Hy3.out⟩)
set_option maxRecDepth 100000 in
set_option maxHeartbeats 16000000 in
theorem mange4
    (a : Option Addr) (n c : Nat) (l : List Animal) (z : Int) (s0 s1 : Int) (w : World) (hl : AnimalsAt w a n l) (hnc : n ≤ c) (hcm : c ≤ maxLen) (hz0 : 0 ≤ z) (hz1 : z ≤ 255)
    (hg : great2B l = false) (hn : 0 < n) (hs1 : ¬s0 < 1) (hs2 : s1 < s0) :
    Calls Try.prog 5 #[.slice a n c, .int .u8 z, .agg #[.int .i64 s0, .int .i64 s1]] w fun e w' => e = .returned (.bool true) ∧ Ext w w' := by
  have hgr := fun W (hW : Ext w W) => great2_any a n c l W (hl.ext hW) (Nat.le_trans hnc hcm)
  have hx0 : Ext w (w.alloc (.cells #[.int .i64 s0, .int .i64 s1] 23)) := (Ext.refl _).alloc _
  have hb0 := heap_alloc_new w (.cells #[.int .i64 s0, .int .i64 s1] 23)
  obtain ⟨W0, hW0⟩ : ∃ W0, w.alloc (.cells #[.int .i64 s0, .int .i64 s1] 23) = W0 := ⟨_, rfl⟩
  rw [hW0] at hx0 hb0
  obtain ⟨hg1, hg2⟩ := great_marks hg
  have hck := fun W (hW : Ext w W) => check2_any a n c l W (hl.ext hW) (by have := hl.1; omega) hg2
  rw [hg] at hgr
  have hnB : ((n : Int) == 0) = false := by (simp; omega)
  have hsB : decide (s0 < 1) = false := decide_eq_false hs1
  have hsC : decide (s1 < s0) = true := decide_eq_true hs2
  skip
  have Hgr := Lib.hid hgr
  have Hx0 := Lib.hid hx0
  have Hb0 := Lib.hid hb0
  have Hck := Lib.hid hck
  clear hgr hx0 hb0 hck
  clear hl hg1 hg2
  go_enter Try.func5, Try.ntmps5
  go_wp2_with (first
    | (go_at_call 20; refine (alive02_any _).mono ?_; rintro e v1 ⟨rfl, hx1⟩; have hy1 := Hx0.out.trans hx1; have hb1 := hx1.heap Hb0.out; have Hy1 := Lib.hid hy1; have Hb1 := Lib.hid hb1; clear hx1 hy1 hb1)
    | (go_at_call 21; refine (Hgr.out _ Hy1.out).mono ?_; rintro e v2 ⟨rfl, hx2⟩; have hy2 := Hy1.out.trans hx2; have hb2 := hx2.heap Hb1.out; obtain ⟨za, _⟩ := (Ext.refl v2).box hb2; have hl2 := heap_lt hb2; have Hy2 := Lib.hid hy2; have Hb2 := Lib.hid hb2; clear hx2 hy2 hb2)
    | (go_at_call 22; refine (Hck.out _ Hy2.out).mono ?_; rintro e v3 ⟨k, rfl, hk, hx3⟩; clear za hl2; have hy3 := Hy2.out.trans hx3; have hb3 := hx3.heap Hb2.out; obtain ⟨za, _⟩ := (Ext.refl v3).box hb3; have hl3 := heap_lt hb3; have Hk := Lib.hid hk; have Hy3 := Lib.hid hy3; have Hb3 := Lib.hid hb3; clear hx3 hy3 hb3 hk; by_cases h0 : k = 0)
    )
  all_goals (go_ret; exact ⟨rfl, Hy3.out⟩)
set_option maxRecDepth 100000 in
set_option maxHeartbeats 16000000 in
theorem mange5
    (a : Option Addr) (n c : Nat) (l : List Animal) (z : Int) (s0 s1 : Int) (w : World) (hl : AnimalsAt w a n l) (hnc : n ≤ c) (hcm : c ≤ maxLen) (hz0 : 0 ≤ z) (hz1 : z ≤ 255)
    (hg : great2B l = false) (hn : 0 < n) (hs1 : ¬s0 < 1) (hs2 : ¬s1 < s0) (hs3 : 60 < s1) :
    Calls Try.prog 5 #[.slice a n c, .int .u8 z, .agg #[.int .i64 s0, .int .i64 s1]] w fun e w' => e = .returned (.bool true) ∧ Ext w w' := by
  have hgr := fun W (hW : Ext w W) => great2_any a n c l W (hl.ext hW) (Nat.le_trans hnc hcm)
  have hx0 : Ext w (w.alloc (.cells #[.int .i64 s0, .int .i64 s1] 23)) := (Ext.refl _).alloc _
  have hb0 := heap_alloc_new w (.cells #[.int .i64 s0, .int .i64 s1] 23)
  obtain ⟨W0, hW0⟩ : ∃ W0, w.alloc (.cells #[.int .i64 s0, .int .i64 s1] 23) = W0 := ⟨_, rfl⟩
  rw [hW0] at hx0 hb0
  obtain ⟨hg1, hg2⟩ := great_marks hg
  have hck := fun W (hW : Ext w W) => check2_any a n c l W (hl.ext hW) (by have := hl.1; omega) hg2
  rw [hg] at hgr
  have hnB : ((n : Int) == 0) = false := by (simp; omega)
  have hsB : decide (s0 < 1) = false := decide_eq_false hs1
  have hsC : decide (s1 < s0) = false := decide_eq_false hs2
  have hsD : decide (60 < s1) = true := decide_eq_true hs3
  have Hgr := Lib.hid hgr
  have Hx0 := Lib.hid hx0
  have Hb0 := Lib.hid hb0
  have Hck := Lib.hid hck
  clear hgr hx0 hb0 hck
  clear hl hg1 hg2
  go_enter Try.func5, Try.ntmps5
  go_wp2_with (first
    | (go_at_call 20; refine (alive02_any _).mono ?_; rintro e v1 ⟨rfl, hx1⟩; have hy1 := Hx0.out.trans hx1; have hb1 := hx1.heap Hb0.out; have Hy1 := Lib.hid hy1; have Hb1 := Lib.hid hb1; clear hx1 hy1 hb1)
    | (go_at_call 21; refine (Hgr.out _ Hy1.out).mono ?_; rintro e v2 ⟨rfl, hx2⟩; have hy2 := Hy1.out.trans hx2; have hb2 := hx2.heap Hb1.out; obtain ⟨za, _⟩ := (Ext.refl v2).box hb2; have hl2 := heap_lt hb2; have Hy2 := Lib.hid hy2; have Hb2 := Lib.hid hb2; clear hx2 hy2 hb2)
    | (go_at_call 22; refine (Hck.out _ Hy2.out).mono ?_; rintro e v3 ⟨k, rfl, hk, hx3⟩; clear za hl2; have hy3 := Hy2.out.trans hx3; have hb3 := hx3.heap Hb2.out; obtain ⟨za, _⟩ := (Ext.refl v3).box hb3; have hl3 := heap_lt hb3; have Hk := Lib.hid hk; have Hy3 := Lib.hid hy3; have Hb3 := Lib.hid hb3; clear hx3 hy3 hb3 hk; by_cases h0 : k = 0)
    )
  all_goals (go_ret; exact ⟨rfl, Hy3.out⟩)
end Go.Proofs.Ytcoelhpmkhimpaa

namespace Go.Proofs.Ytcoelhpmkhimpaa
open Go.RowKit
set_option linter.unusedVariables false
set_option linter.unusedSimpArgs false
theorem familyM_none {l : List Animal} {hi : Int} {k : Nat} (h : mom l k = none) : familyM l hi (k + 1) = familyM l hi k := by
  unfold familyM
  rw [List.range_succ, List.filterMap_append]
  simp [meetOf, h]
theorem familyM_some {l : List Animal} {hi : Int} {k m : Nat} (h : mom l k = some m) : familyM l hi (k + 1) = familyM l hi k ++ [⟨(k : Int), (m : Int), (deep l k : Int) * hi, true⟩] := by
  unfold familyM
  rw [List.range_succ, List.filterMap_append]
  simp [meetOf, h]
theorem familyM_len {l : List Animal} {hi : Int} (k : Nat) : (familyM l hi k).length ≤ k := by
  unfold familyM
  have := List.length_filterMap_le (meetOf l hi) (List.range k)
  simpa using this
theorem deep_bd {l : List Animal} (h : HerdOk l) {i : Nat} (hi : i < l.length) {s1 : Int} (h0 : 0 ≤ s1) (h1 : s1 ≤ 60) : 0 ≤ (deep l i : Int) * s1 ∧ (deep l i : Int) * s1 ≤ 1000 := by
  have := deep_lt h hi
  have := h.len
  refine ⟨Int.mul_nonneg (by omega) h0, ?_⟩
  have := Int.mul_le_mul_of_nonneg_right (show (deep l i : Int) ≤ 15 by omega) h0
  omega
theorem family_in {l : List Animal} (h : HerdOk l) (h0 : 0 < l.length) {s0 s1 : Int} (hs0 : 1 ≤ s0) (hs1 : s0 ≤ s1) (hs2 : s1 ≤ 60) {R : Nat} (hR : R < l.length) : MangeIn l.length [(R : Int)] (familyM l s1 l.length) ⟨s0, s1⟩ ((l.length : Int) * s1 + s1) := by
  have hlen := h.len
  have hm := Int.mul_le_mul_of_nonneg_right (show (l.length : Int) ≤ 16 by omega) (show 0 ≤ s1 by omega)
  have hm0 := Int.mul_nonneg (show (0 : Int) ≤ l.length by omega) (show 0 ≤ s1 by omega)
  refine ⟨by omega, ⟨hs0, hs1, hs2⟩, by omega, ⟨by simp, fun i hi => ?_⟩, ⟨?_, fun m hm => ?_⟩, fun m hm => ?_⟩
  · simp at hi
    omega
  · have := familyM_len (l := l) (hi := s1) l.length
    omega
  · obtain ⟨i, j, hi, hj, rfl⟩ := familyM_mem.1 hm
    have hjl := mom_lt hj
    have hd := deep_step h hi hj
    have hb := deep_bd h hi (show 0 ≤ s1 by omega) hs2
    refine ⟨by simp only; omega, by simp only; omega, fun e => ?_, by simp only; omega⟩
    simp only at e
    have : i = j := by omega
    subst this
    omega
  · obtain ⟨i, j, hi, hj, rfl⟩ := familyM_mem.1 hm
    rfl
theorem mom_cases {l : List Animal} (h : HerdOk l) {k : Nat} {x : Animal} (hx : l[k]? = some x) : (x.mother = -1 ∧ mom l k = none ∧ deep l k = 0) ∨ (x.mother ≠ -1 ∧ ∃ m, mom l k = some m ∧ atOf l x.mother = (m : Int) ∧ 0 < deep l k) := by
  have hk := (List.getElem?_eq_some_iff.1 hx).1
  have ha := h.each k x hx
  by_cases e : x.mother = -1
  · have hm : mom l k = none := by
      unfold mom
      rw [hx]
      simp [e]
    refine .inl ⟨e, hm, ?_⟩
    unfold deep
    rw [lineOf_root h hk hm]
    rfl
  · obtain ⟨j, hj⟩ := ha.dam.resolve_left e
    have hm : mom l k = some j := by
      unfold mom
      rw [hx]
      simp [e, hj]
    refine .inr ⟨e, j, hm, ?_, ?_⟩
    · unfold atOf
      rw [hj]
    · have := deep_step h hk hm
      omega
theorem lineOf_head {l : List Animal} (h : HerdOk l) {i : Nat} (hi : i < l.length) : (lineOf l i)[0]? = some i := by
  cases hm : mom l i with
  | none => rw [lineOf_root h hi hm]; rfl
  | some m => rw [lineOf_step h hi hm]; rfl
theorem kinF_err {T : List Nat} : ∀ {L : List Nat} {k : Nat}, (kinF T L k).2.2 = 0 ∨ (kinF T L k).2.2 = 6
  | [], k => .inr rfl
  | x :: r, k => by
    unfold kinF
    split
    · exact .inl rfl
    · exact kinF_err
/-- what the law asks of one animal -/
theorem family_says {l : List Animal} (h : HerdOk l) {w : Span} (h1 : 1 ≤ w.lo) (h2 : w.lo ≤ w.hi) (h3 : w.hi ≤ 60) {f i : Nat} (hf : f < l.length) (hi : i < l.length) :
    ∃ u d e : Int, kinOf l i f = (u, d, e) ∧ ((e = 0 ∧ d = 0 ∧ (mangeOf l.length [(f : Int)] (familyM l w.hi l.length) w ((l.length : Int) * w.hi + w.hi)).getD i 0 = 2) ∨ (e = 0 ∧ d ≠ 0) ∨ (e = 6 ∧ (mangeOf l.length [(f : Int)] (familyM l w.hi l.length) w ((l.length : Int) * w.hi + w.hi)).getD i 0 = 0)) := by
  obtain ⟨⟨u, d, e⟩, hk⟩ : ∃ r, kinOf l i f = r := ⟨_, rfl⟩
  refine ⟨u, d, e, hk, ?_⟩
  have he : e = 0 ∨ e = 6 := by
    have := kinF_err (T := lineOf l f) (L := lineOf l i) (k := 0)
    unfold kinOf at hk
    rw [hk] at this
    exact this
  unfold kinOf at hk
  rcases he with rfl | rfl
  · by_cases hd : d = 0
    · subst hd
      refine .inl ⟨rfl, rfl, from_sick h h1 h2 hf hi ?_⟩
      obtain ⟨x, hx, ht⟩ := kin_from (T := lineOf l f) (L := lineOf l i) (k := 0) (by rw [hk]) (by rw [hk])
      rw [lineOf_head h hf] at ht
      cases ht
      exact hx
    · exact .inr (.inl ⟨rfl, hd⟩)
  · refine .inr (.inr ⟨rfl, none_sick h h1 h2 h3 hf hi ?_⟩)
    exact kin_none (T := lineOf l f) (L := lineOf l i) (k := 0) (by rw [hk])
theorem Owns.bd {w : World} {B : Nat} {e : TypeId} {sz : Nat} {a : Option Addr} {n c : Nat} {rows : List (List Value)} (h : Owns w B e sz (.slice a n c) rows) : ∀ y, (Value.slice a n c).ownBlock = some y → B ≤ y ∧ y < w.heap.size := by
  obtain ⟨ho, hr⟩ := h
  rcases ho.2 with ⟨h1, h0⟩ | ⟨g, cap, cur, h1, hg, hh, _⟩
  · cases h1
    intro y hy
    cases hy
  · cases h1
    intro y hy
    cases hy
    exact ⟨hg, heap_lt hh⟩
theorem meetRows_append (A B : List Meet) : meetRows (A ++ B) = meetRows A ++ meetRows B := by simp [meetRows]
theorem meet_src (W : World) (m : Meet) : SlAt (W.alloc (.cells m.cells.toArray 74)) 4 (some ⟨W.heap.size, 0, none⟩) 1 (fun k => (meetRows [m]).getD k []) :=
  slAt_one (fun j v hv => by
    rw [cell_of_row _ _ _ _ 74 (0, 0) (heap_alloc_new W _), Nat.zero_add, List.getElem?_toArray]
    exact hv)
set_option maxRecDepth 100000 in
set_option maxHeartbeats 16000000 in
theorem mange6
    (a : Option Addr) (n c : Nat) (l : List Animal) (z : Int) (s0 s1 : Int) (w : World) (hl : AnimalsAt w a n l) (hnc : n ≤ c) (hcm : c ≤ maxLen) (hz0 : 0 ≤ z) (hz1 : z ≤ 255)
    (hg : great2B l = false) (hn : 0 < n) (hs1 : ¬s0 < 1) (hs2 : ¬s1 < s0) (hs3 : ¬60 < s1) :
    Calls Try.prog 5 #[.slice a n c, .int .u8 z, .agg #[.int .i64 s0, .int .i64 s1]] w fun e w' => e = .returned (.bool true) ∧ Ext w w' := by
  have hgr := fun W (hW : Ext w W) => great2_any a n c l W (hl.ext hW) (Nat.le_trans hnc hcm)
  have hx0 : Ext w (w.alloc (.cells #[.int .i64 s0, .int .i64 s1] 23)) := (Ext.refl _).alloc _
  have hb0 := heap_alloc_new w (.cells #[.int .i64 s0, .int .i64 s1] 23)
  obtain ⟨W0, hW0⟩ : ∃ W0, w.alloc (.cells #[.int .i64 s0, .int .i64 s1] 23) = W0 := ⟨_, rfl⟩
  rw [hW0] at hx0 hb0
  obtain ⟨hg1, hg2⟩ := great_marks hg
  have hck := fun W (hW : Ext w W) => check2_any a n c l W (hl.ext hW) (by have := hl.1; omega) hg2
  rw [hg] at hgr
  have hnB : ((n : Int) == 0) = false := by (simp; omega)
  have hsB : decide (s0 < 1) = false := decide_eq_false hs1
  have hsC : decide (s1 < s0) = false := decide_eq_false hs2
  have hsD : decide (60 < s1) = false := decide_eq_false hs3
  have hll := hl.1
  have hnz' : (n : Int) ≠ 0 := by omega
  have hla := fun W (hW : Ext w W) => hl.ext hW
  obtain ⟨R, hR⟩ : ∃ R : Nat, z.tmod n = R := ⟨(z.tmod n).toNat, by
    rw [Int.tmod_eq_emod_of_nonneg hz0]
    have := Int.emod_nonneg z (show (n : Int) ≠ 0 by omega)
    omega⟩
  have hRn : R < n := by
    have := Int.emod_lt_of_pos z (show (0 : Int) < n by omega)
    rw [Int.tmod_eq_emod_of_nonneg hz0] at hR
    omega
  have Hgr := Lib.hid hgr
  have Hx0 := Lib.hid hx0
  have Hb0 := Lib.hid hb0
  have Hck := Lib.hid hck
  have Hla := Lib.hid hla
  clear hgr hx0 hb0 hck hla
  clear hl hg1 hg2
  go_enter Try.func5, Try.ntmps5
  go_upto_region 6 with (first
    | (go_at_call 20; refine (alive02_any _).mono ?_; rintro e v1 ⟨rfl, hx1⟩; have hy1 := Hx0.out.trans hx1; have hb1 := hx1.heap Hb0.out; have Hy1 := Lib.hid hy1; have Hb1 := Lib.hid hb1; clear hx1 hy1 hb1)
    | (go_at_call 21; refine (Hgr.out _ Hy1.out).mono ?_; rintro e v2 ⟨rfl, hx2⟩; have hy2 := Hy1.out.trans hx2; have hb2 := hx2.heap Hb1.out; obtain ⟨za, _⟩ := (Ext.refl v2).box hb2; have hl2 := heap_lt hb2; have Hy2 := Lib.hid hy2; have Hb2 := Lib.hid hb2; clear hx2 hy2 hb2)
    | (go_at_call 22; refine (Hck.out _ Hy2.out).mono ?_; rintro e v3 ⟨k, rfl, hk, hx3⟩; clear za hl2; have hy3 := Hy2.out.trans hx3; have hb3 := hx3.heap Hb2.out; obtain ⟨za, _⟩ := (Ext.refl v3).box hb3; have hl3 := heap_lt hb3; have Hk := Lib.hid hk; have Hy3 := Lib.hid hy3; have Hb3 := Lib.hid hb3; clear hx3 hy3 hb3 hk; by_cases h0 : k = 0)
    )
  · obtain rfl := h0
    have hok := Hk.out rfl
    have hlen := hok.len
    have hnl : l.length ≤ c ∧ c ≤ maxLen := ⟨by omega, hcm⟩
    have hln : ∀ V, Ext w V → ∀ (id : Int) (i : Nat), placeOf l id = some i → Calls Try.prog 23 #[.slice a n c, .int .i64 id] V (LinePost (deep l i) V) := fun V hV id i hi => by
      have hlV := Hla.out V hV
      rw [← hll] at hlV ⊢
      exact line23_any hok hlV hnl hi
    have hat : ∀ V, Ext w V → ∀ (id : Int), Calls Try.prog 24 #[.slice a n c, .int .i64 id] V fun e w' => e = .returned (.int .i64 (atOf l id)) ∧ Ext V w' := fun V hV id => at2_any a n c l id V (Hla.out V hV) (by omega)
    have hkn : ∀ V, Ext w V → ∀ (ida idb : Int) (i j : Nat), placeOf l ida = some i → placeOf l idb = some j → Calls Try.prog 26 #[.slice a n c, .int .i64 ida, .int .i64 idb] V (KinPost (kinOf l i j) V) := fun V hV ida idb i j hi hj => by
      have hlV := Hla.out V hV
      rw [← hll] at hlV ⊢
      exact kin_any hok hlV hnl hi hj
    have hmi := family_in hok (by omega) (s0 := s0) (s1 := s1) (by omega) hs2 hs3 (R := R) (by omega)
    have hmg : ∀ V (b1 : Nat) (a2 : Option Addr) (n2 c2 : Nat) (day : Int), V.heap[b1]? = some (.cells #[.int .i64 R] 3 (0, 0)) → MeetsAt V a2 n2 (familyM l s1 n) → (a2 = none → n2 = 0 ∧ c2 = 0) → (∀ x, a2 = some x → ∃ b o, x = ⟨b, o, none⟩) → (n : Int) * s1 + s1 = day → Calls Try.prog 25 #[.int .i64 n, .slice (some ⟨b1, 0, none⟩) 1 1, .slice a2 n2 c2, .agg #[.int .i64 s0, .int .i64 s1], .int .i64 day] V (MangePost n [(R : Int)] (familyM l s1 n) ⟨s0, s1⟩ day V) := fun V b1 a2 n2 c2 day h1 h2 h3 h4 h5 => by
      rw [hll] at hmi
      subst h5
      exact mange_any n (some ⟨b1, 0, none⟩) 1 1 [(R : Int)] a2 n2 c2 (familyM l s1 n) s0 s1 _ V (ints_built (l := [(R : Int)]) h1) h2 h3 h4 hmi
    have hP0 := Int.mul_nonneg (show (0 : Int) ≤ (n : Int) by omega) (show (0 : Int) ≤ s1 by omega)
    have hP1 := Int.mul_le_mul_of_nonneg_right (show (n : Int) ≤ 16 by omega) (show (0 : Int) ≤ s1 by omega)
    obtain ⟨P, hP⟩ : ∃ P, (n : Int) * s1 = P := ⟨_, rfl⟩
    rw [hP] at hP0 hP1
    have hfs : ∀ i, i < n → _ := fun i hi => family_says (w := ⟨s0, s1⟩) hok (by simp only; omega) (by simp only; omega) (by simp only; omega) (f := R) (i := i) (by omega) (by omega)
    rw [hll] at hfs
    obtain ⟨M, hM⟩ : ∃ M, mangeOf n [(R : Int)] (familyM l s1 n) ⟨s0, s1⟩ ((n : Int) * s1 + s1) = M := ⟨_, rfl⟩
    rw [hM] at hfs
    have hmc := fun k x h => mom_cases hok (k := k) (x := x) h
    have hdb := fun k (hk : k < n) => deep_bd hok (i := k) (by omega) (show 0 ≤ s1 by omega) (by omega)
    have hdl := fun k (hk : k < n) => deep_lt hok (i := k) (by omega)
    have hid := fun k x (h : l[k]? = some x) => (hok.each k x h).at'
    have ho0 : Owns v3 v3.heap.size 74 4 (.slice none 0 0) (meetRows (familyM l s1 0)) := Owns.nil _ _ _ _
    have hfl := fun k => familyM_len (l := l) (hi := s1) k
    have Hln := Lib.hid hln
    have Hat := Lib.hid hat
    have Hkn := Lib.hid hkn
    have Hmg := Lib.hid hmg
    have Hfs := Lib.hid hfs
    have HM := Lib.hid hM
    have Hmc := Lib.hid hmc
    have Hdb := Lib.hid hdb
    have Hdl := Lib.hid hdl
    have Hid := Lib.hid hid
    have Ho0 := Lib.hid ho0
    have Hok := Lib.hid hok
    have Hfl := Lib.hid hfl
    have HP := Lib.hid hP
    clear hln hat hkn hmg hfs hM hmc hdb hdl hid ho0 hok hfl hP
    clear Hk Hgr Hx0 Hb0 Hck hmi za
    go_upto_region 7 with fail
    go_loopw [9, 64] (fun m i V => ∃ (k : Nat) (va : Option Addr) (vc q : Nat), i = .int .i64 k ∧ k ≤ n ∧ m = .slice va q vc ∧ q = (familyM l s1 k).length ∧ Owns V v3.heap.size 74 4 (.slice va q vc) (meetRows (familyM l s1 k)) ∧ Ext v3 V) (fun _ i _ => n - (intOf i).toNat)
    case atStart => exact ⟨0, none, 0, 0, rfl, Nat.zero_le _, rfl, rfl, Ho0.out, Ext.refl _⟩
    case round =>
      obtain ⟨k, va, vc, q, rfl, hk, rfl, hq, how, hxv⟩ := hrel
      have Hq := Lib.hid hq
      clear hq
      by_cases hlt : k < n
      · have hltB : decide ((k : Int) < (n : Int)) = true := by simp; omega
        have hxw := Hy3.out.trans hxv
        obtain ⟨b, off, x, ka, kn, kc, rfl, hxk, hbs, c0, c1, c2, c3, c4, hk1, hk2, hmk⟩ := (Hla.out _ hxw).get k hlt
        have hlk := fun V (hV : Ext w V) => Hln.out V hV x.id k (Hid.out k x hxk)
        have hdk := Hdl.out k hlt
        have hbk := Hdb.out k hlt
        have hcase := Hmc.out k x hxk
        obtain ⟨xi, xm, ⟨x0, x1⟩, xs⟩ := x
        simp only at c0 c1 c2 c3 hlk hcase
        obtain ⟨D, hD⟩ : ∃ D, deep l k = D := ⟨_, rfl⟩
        rw [hD] at hlk hdk hbk hcase
        rw [hll] at hdk
        have hown := how.bd
        clear hxk hbs hmk hk1 hk2
        have Hlk := Lib.hid hlk
        have How := Lib.hid how
        have Hxv := Lib.hid hxv
        have Hxw := Lib.hid hxw
        have Hcase := Lib.hid hcase
        have Hown := Lib.hid hown
        clear hlk how hxv hxw hcase hown
        go_upto_region 9 with fail
        have hx9 := (Ext.refl wr).alloc (.cells #[.int .i64 xi, .int .i64 xm, .int .i64 x0, .int .i64 x1, .slice ka kn kc] 69)
        have b9 := heap_alloc_new wr (.cells #[.int .i64 xi, .int .i64 xm, .int .i64 x0, .int .i64 x1, .slice ka kn kc] 69)
        have hp11 : ∃ p, wr.heap.size = p := ⟨_, rfl⟩
        obtain ⟨p11, hp11⟩ := hp11
        generalize hW9 : wr.alloc (.cells #[.int .i64 xi, .int .i64 xm, .int .i64 x0, .int .i64 x1, .slice ka kn kc] 69) = W9 at *
        rw [hp11] at b9
        rw [hp11]
        have hxw9 := Hxw.out.trans hx9
        obtain ⟨y11, _⟩ := (Ext.refl W9).box b9
        have hl9 := heap_lt b9
        clear hW9 c0 c1 c2 c3 c4
        have Hx9 := Lib.hid hx9
        have B9 := Lib.hid b9
        have Hxw9 := Lib.hid hxw9
        have Hp11 := Lib.hid hp11
        clear hx9 b9 hxw9 hp11
        go_upto_region 10 with (go_at_call 23; refine (Hlk.out _ Hxw9.out).mono ?_; rintro e v5 ⟨la, lc, rfl, hlc1, hlc2, hx5⟩)
        have b5 := hx5.heap B9.out
        have hx95 := Hx9.out.trans hx5
        have how5 := How.out.ext hx95
        have hxv5 := Hxv.out.trans hx95
        have hxw5 := Hxw.out.trans hx95
        clear y11 hl9 Hlk Hx9 Hxw9 hx5
        obtain ⟨y11, _⟩ := (Ext.refl v5).box b5
        have hl5 := heap_lt b5
        have bs5 := hxv5.heap Hb3.out
        obtain ⟨y5, _⟩ := (Ext.refl v5).box bs5
        have hls5 := heap_lt bs5
        have hDn : decide ((n : Int) ≤ (D : Int)) = false := by simp; omega
        have B5 := Lib.hid b5
        have Hx95 := Lib.hid hx95
        have How5 := Lib.hid how5
        have Hxv5 := Lib.hid hxv5
        have Hxw5 := Lib.hid hxw5
        have Bs5 := Lib.hid bs5
        clear b5 hx95 how5 hxv5 hxw5 bs5
        rcases Hcase.out with ⟨rfl, hmo, rfl⟩ | ⟨hne, m, hmo, hatm, hD0⟩
        · have hfm := familyM_none (hi := s1) hmo
          have Hfm := Lib.hid hfm
          clear hfm
          rw [← Hfm.out] at How5
          have hq' := Hq.out
          rw [← Hfm.out] at hq'
          have Hq' := Lib.hid hq'
          clear hq'
          clear hD
          go_wp2_with fail
          go_roundw
          case rel => exact ⟨k + 1, va, vc, q, by go_num, by omega, rfl, Hq'.out, How5.out, Hxv5.out⟩
          case measure => simp [intOf]; omega
        · have hfm := familyM_some (hi := s1) hmo
          rw [hD] at hfm
          obtain ⟨hb0, hb1⟩ := hbk
          obtain ⟨T, hT⟩ : ∃ T, (D : Int) * s1 = T := ⟨_, rfl⟩
          rw [hT] at hfm hb0 hb1
          have hq20 := Hfl.out k
          have hneB : (xm != -1) = true := by simp [hne]
          have hD0B : decide (0 < (D : Int)) = true := by simp; omega
          have hon : ∀ y, (Value.slice va q vc).ownBlock = some y → v3.heap.size ≤ y ∧ y < wr.heap.size := Hown.out
          have hn11 : ¬(Value.slice va q vc).ownBlock = some p11 := fun e => by have := hon p11 e; have := Hp11.out; omega
          have hn5 : ¬(Value.slice va q vc).ownBlock = some w.heap.size := fun e => by have := hon _ e; omega
          have hat1 := Hat.out v5.drew (Hxw5.out.drew) xm
          rw [hatm] at hat1
          clear hD hon
          have Hfm := Lib.hid hfm
          have Hn11 := Lib.hid hn11
          have Hn5 := Lib.hid hn5
          have Hat1 := Lib.hid hat1
          clear hfm hn11 hn5 hat1
          go_upto_region 13 with fail
          clear y11 y5
          refine wp_region_tree (.take [0, 1, 2, 3, 4, 6, 7, 8, 9, 10] (.one 5 (.take [11] (.one 12 (.one 13 (.take [14] .done)))))) (But (fun b => (Value.slice va q vc).ownBlock = some b) v5) _ (by kernel_rfl) (by kernel_rfl) rfl (((Ext.refl v5).drew).but _) ?_
          intro ι _ f hf hs
          have f0 := fun q => ((hf q).boxI B5.out Hn11.out).1
          have f1 := fun q => ((hf q).boxI Bs5.out Hn5.out).1
          have HS := Lib.hid hs
          clear hf hs
          simp only [treeOf, oneOp, twoOp, opsOf, consOp, List.getElem?_toArray, List.getElem?_cons_succ, List.getElem?_cons_zero]
          refine wpOT_take ?_
          repeat (go_big_quiet_step (fail))
          refine wpQuiet_nil ?_
          clear f0 f1
          refine wpOT_one ?_
          go_wp2_with (go_at_call 24; refine (Hat1.out).mono ?_; rintro e v6 ⟨rfl, hx6⟩)
          have hx56 := ((Ext.refl v5).drew).trans hx6
          clear hx6
          refine ⟨HS.out _ (hx56.but _), ?_⟩
          refine wpOT_take ?_
          repeat (go_big_quiet_step (fail))
          refine wpQuiet_nil ?_
          refine wpOT_one ?_
          go_wp2_with fail
          have hx57 := hx56.alloc (.cells #[.int .i64 k, .int .i64 m, .int .i64 T, .bool true] 74)
          refine ⟨HS.out _ (hx57.but _), ?_⟩
          refine wpOT_one ?_
          have hoq := How5.out.ext hx57
          have hB3 := Hxv5.out.size
          have hB5 := hx57.size
          have hqs : (meetRows (familyM l s1 k)).length + 1 ≤ 1000000000 := by rw [meetRows_len]; omega
          have Hoq := Lib.hid hoq
          have HB3 := Lib.hid hB3
          have HB5 := Lib.hid hB5
          have Hqs := Lib.hid hqs
          clear hoq hB3 hB5 hqs
          go_wp2_with (at_builtin; refine wpList_app elem66 _ rfl (.tmp 97) (.tmp 109) rfl v3.heap.size (.slice va q vc) (meetRows (familyM l s1 k)) rfl Hoq.out (some ⟨v6.heap.size, 0, none⟩) 1 1 (meetRows [⟨k, m, T, true⟩]) rfl rfl (meet_src v6 ⟨k, m, T, true⟩) (meetRows_row _) Hqs.out (Nat.le_trans HB3.out HB5.out) ?_; intro v8 w8 ho8 hg8 _; have hb8 := (hx57.but (fun b => (Value.slice va q vc).ownBlock = some b)).trans (but_grownI hg8); have hxv8 := (Hxv5.out.trans hx57).app Hoq.out hg8; clear hg8; rw [← meetRows_append, ← Hfm.out] at ho8; obtain ⟨va8, vc8, hv8, -⟩ := ho8.slAt; rw [meetRows_len] at hv8; subst hv8; have Ho8 := Lib.hid ho8; have Hb8 := Lib.hid hb8; have Hxv8 := Lib.hid hxv8; clear ho8 hb8 hxv8)
          refine ⟨HS.out _ Hb8.out, ?_⟩
          clear hx56 hx57 Hoq
          refine wpOT_take ?_
          repeat (go_big_quiet_step (fail))
          refine wpQuiet_nil ?_
          refine wpOT_done ?_
          clear HS
          go_wp2_with fail
          go_roundw
          case rel => exact ⟨k + 1, va8, vc8, _, by go_num, by omega, rfl, rfl, Ho8.out, Hxv8.out⟩
          case measure => simp [intOf]; omega
      · have hltB : decide ((k : Int) < (n : Int)) = false := by simp; omega
        obtain rfl : k = n := by omega
        have hsh := how.shape
        have hxw := Hy3.out.trans hxv
        have bs5 := hxv.heap Hb3.out
        obtain ⟨y5, _⟩ := (Ext.refl wr).box bs5
        have hls5 := heap_lt bs5
        have hrow : MeetsAt wr va q (familyM l s1 k) := by
          have := meets_owned how
          exact this
        have hmg := Hmg.out ((wr.alloc (.cells #[.int .i64 R] 3))) wr.heap.size va q vc (P + s1) (heap_alloc_new _ _) (hrow.ext ((Ext.refl wr).alloc _)) hsh.1 hsh.2.1 (by rw [HP.out])
        have hP := HP.out
        have hM := HM.out
        rw [hP] at hM
        unfold MangePost at hmg
        rw [hM] at hmg
        have Hmg := Lib.hid hmg
        have Hxw := Lib.hid hxw
        have Hrow := Lib.hid hrow
        clear hmg hxw hrow
        clear hsh hM how hxv
        go_upto_region 19 with (go_at_call 25; refine Hmg.out.mono ?_; rintro e v9 ⟨g, rfl, hx9, hgg, hi9⟩)
        have hx59 := ((Ext.refl wr).alloc (.cells #[.int .i64 R] 3)).trans hx9
        have hxw9 := Hxw.out.trans hx59
        clear hx9 hgg y5 hls5 Hmg bs5 Hrow Hmc Hdb Hdl Hfl Hln Hat HM Ho0 hP
        have Hi9 := Lib.hid hi9
        have Hxw9 := Lib.hid hxw9
        have Hx59 := Lib.hid hx59
        clear hi9 hxw9 hx59
        go_loopw [141] (fun i V => ∃ k2 : Nat, i = .int .i64 k2 ∧ k2 ≤ k ∧ Ext v9 V) (fun i _ => k - (intOf i).toNat)
        case atStart => exact ⟨0, rfl, Nat.zero_le _, Ext.refl _⟩
        case round =>
          obtain ⟨k2, rfl, hk2, hxv⟩ := hrel
          by_cases hlt2 : k2 < k
          · have hltB2 : decide ((k2 : Int) < (k : Int)) = true := by simp; omega
            have hltR : decide ((R : Int) < (k : Int)) = true := by simp; omega
            have hxw2 := Hxw9.out.trans hxv
            obtain ⟨b, off, x, ka, kn, kc, rfl, hxk, hbs, c0, c1, c2, c3, c4, hk1, hk2', hmk⟩ := (Hla.out _ hxw2).get k2 hlt2
            obtain ⟨b', off', r, ka', kn', kc', hbb, hrk, _, d0, _⟩ := (Hla.out _ hxw2).get R hRn
            cases hbb
            obtain ⟨gb, go, kv, hgb, hkv, hgl, g0⟩ := (Hi9.out.ext hxv).get k2 hlt2
            cases hgb
            rw [Nat.zero_add] at g0
            have hkk := fun V (hV : Ext w V) => Hkn.out V hV x.id r.id k2 R (Hid.out k2 x hxk) (Hid.out R r hrk)
            obtain ⟨u, d, e, hke, hsays⟩ := Hfs.out k2 hlt2
            have hkv2 : M.getD k2 0 = kv := by rw [List.getD_eq_getElem?_getD, hkv]; rfl
            rw [hkv2] at hsays
            unfold KinPost at hkk
            rw [hke] at hkk
            obtain ⟨xi, xm, ⟨x0, x1⟩, xs⟩ := x
            simp only at c0 c1 c2 c3 hkk
            clear hxk hbs hmk hk1 hk2' hrk hkv hke hkv2
            go_upto_region 21 with fail
            have hx20 := (Ext.refl wr).alloc (.cells #[.int .i64 xi, .int .i64 xm, .int .i64 x0, .int .i64 x1, .slice ka kn kc] 69)
            have b20 := heap_alloc_new wr (.cells #[.int .i64 xi, .int .i64 xm, .int .i64 x0, .int .i64 x1, .slice ka kn kc] 69)
            generalize wr.alloc (.cells #[.int .i64 xi, .int .i64 xm, .int .i64 x0, .int .i64 x1, .slice ka kn kc] 69) = W20 at *
            generalize wr.heap.size = p17 at *
            have hkk2 := fun V (hV : Ext W20 V) => hkk V ((hxw2.trans hx20).trans hV)
            have d20 := hx20.cell d0
            have g20 := hx20.cell g0
            have hxv20 := hxv.trans hx20
            clear hkk c0 c1 c2 c3 c4 d0 g0 hx20 hxv hxw2
            have Hkk2 := Lib.hid hkk2
            have D20 := Lib.hid d20
            have G20 := Lib.hid g20
            have Hxv20 := Lib.hid hxv20
            have B20 := Lib.hid b20
            have Hsays := Lib.hid hsays
            clear hkk2 d20 g20 hxv20 b20 hsays
            refine wp_region_ext (by kernel_rfl) (by kernel_rfl) (fun f hf hs => ?_)
            have f0 := fun q => ((hf q).box B20.out).1
            have f1 := fun q => (hf q).cell D20.out
            have Hf := Lib.hid hf
            have HS := Lib.hid hs
            clear hf hs
            repeat (go_big_quiet_step ((go_at_call 26; exact Calls.ext_of (Hf.out _) HS.out (Hkk2.out _ (Hf.out _)))))
            refine wpQuiet_nil ?_
            intro W21 hW21
            clear f0 f1
            have g21 := hW21.cell G20.out
            have hgl21 := block_lt_of_cell g21
            have hxv21 := Hxv20.out.trans hW21
            have Hxv21 := Lib.hid hxv21
            clear hxv21
            clear hW21 B20 D20 G20 Hkk2
            simp only at hgl21
            rcases Hsays.out with ⟨rfl, rfl, rfl⟩ | ⟨rfl, hd⟩ | ⟨rfl, rfl⟩
            · go_wp2_with fail
              go_roundw
              case rel => exact ⟨k2 + 1, by go_num, by omega, Hxv21.out⟩
              case measure => simp [intOf]; omega
            · have hdB : (d == 0) = false := by simp [hd]
              go_wp2_with fail
              go_roundw
              case rel => exact ⟨k2 + 1, by go_num, by omega, Hxv21.out⟩
              case measure => simp [intOf]; omega
            · go_wp2_with fail
              go_roundw
              case rel => exact ⟨k2 + 1, by go_num, by omega, Hxv21.out⟩
              case measure => simp [intOf]; omega
          · have hltB2 : decide ((k2 : Int) < (k : Int)) = false := by simp; omega
            have hxe := Hxw9.out.trans hxv
            have Hxe := Lib.hid hxe
            clear hxe
            clear hxv
            go_wp2_with fail
            go_ret
            exact ⟨rfl, Hxe.out⟩
  · go_ret
    exact ⟨rfl, Hy3.out⟩
theorem mange_law
    (a : Option Addr) (n c : Nat) (l : List Animal) (z : Int) (s0 s1 : Int) (w : World) (hl : AnimalsAt w a n l) (hnc : n ≤ c) (hcm : c ≤ maxLen) (hz0 : 0 ≤ z) (hz1 : z ≤ 255)
    :
    Calls Try.prog 5 #[.slice a n c, .int .u8 z, .agg #[.int .i64 s0, .int .i64 s1]] w fun e w' => e = .returned (.bool true) ∧ Ext w w' := by
  cases hg : great2B l with
  | true => exact mange1 a n c l z s0 s1 w hl hnc hcm hz0 hz1 hg
  | false =>
    rcases Nat.eq_zero_or_pos n with hn | hn
    · exact mange2 a n c l z s0 s1 w hl hnc hcm hz0 hz1 hg hn
    · by_cases hs1 : s0 < 1
      · exact mange3 a n c l z s0 s1 w hl hnc hcm hz0 hz1 hg hn hs1
      · by_cases hs2 : s1 < s0
        · exact mange4 a n c l z s0 s1 w hl hnc hcm hz0 hz1 hg hn hs1 hs2
        · by_cases hs3 : 60 < s1
          · exact mange5 a n c l z s0 s1 w hl hnc hcm hz0 hz1 hg hn hs1 hs2 hs3
          · exact mange6 a n c l z s0 s1 w hl hnc hcm hz0 hz1 hg hn hs1 hs2 hs3
theorem topMange_any (a : Option Addr) (n c : Nat) (l : List Animal) (z : Int) (s : Span) (w : World) (hl : AnimalsAt w a n l) (hnc : n ≤ c) (hcm : c ≤ maxLen) (hz0 : 0 ≤ z) (hz1 : z ≤ 255) : Calls Try.prog 5 #[.slice a n c, .int .u8 z, .agg s.cells.toArray] w fun e w' => e = .returned (.bool true) ∧ Ext w w' :=
  mange_law a n c l z s.lo s.hi w hl hnc hcm hz0 hz1
end Go.Proofs.Ytcoelhpmkhimpaa

namespace Go.Proofs.Ytcoelhpmkhimpaa
open Go.RowKit Go.ChangeShapes Go.WideShapes Go.ChangeAt
set_option linter.unusedVariables false
theorem c67 : Try.prog.cellsOf 67 = 1 := by kernel_rfl
section
variable {H : Type} {enc : TypeId × Value → H} {w : World} {base : Nat} {spare : Nat → Bool} {held : Bool}
theorem take_mark {fuel : Nat} {cs : List Value} {x : DataW H × List MemPlace} (hl : cs.length = 2) (h : DataW.trod enc Try.prog w base spare held fuel 194 cs = some x) : ∃ s : Mark, s.cells = cs := by
  obtain ⟨xs, n, _, _, _, hx, hf⟩ := DataW.trod_struct Try.underlying194 h
  obtain ⟨u0, u1, rfl⟩ := tlen2 hl
  obtain ⟨x0, x1, rfl⟩ := tlen2 (show xs.length = 2 from hx)
  have g0 := hf 0 _ rfl
  have g1 := hf 1 _ rfl
  simp [c3] at g0 g1
  obtain ⟨a0, h0, _⟩ := take_int Try.underlying3 g0
  obtain ⟨a1, h1, _⟩ := take_int Try.underlying3 g1
  cases h0; cases h1
  exact ⟨⟨a0, a1⟩, rfl⟩
theorem take_marks {fuel : Nat} {a : Option Addr} {n c : Nat} {x : DataW H × List MemPlace} (h : DataW.trod enc Try.prog w base spare held fuel 67 [.slice a n c] = some x) : n ≤ c ∧ c ≤ maxLen ∧ ∃ l, MarksAt w a n l := by
  obtain ⟨h1, h2, l, h3, h4⟩ := take_slice (sz := 2) Try.underlying67 (by kernel_rfl) (by omega) (fun (y : Mark) cs => y.cells = cs) (fun n cs x hl hx => take_mark hl hx) h
  refine ⟨h1, h2, l, h3, fun hn => ?_⟩
  obtain ⟨b, off, ha, hk⟩ := h4 hn
  refine ⟨b, off, ha, fun k' hk' => ?_⟩
  obtain ⟨y, hy⟩ : ∃ y, l[k']? = some y := ⟨_, List.getElem?_eq_getElem (by omega)⟩
  obtain ⟨cs, h5, rfl⟩ := hk k' y hy
  simpa [List.getD, hy] using h5
theorem take_animal {fuel : Nat} {cs : List Value} {x : DataW H × List MemPlace} (hl : cs.length = 5) (h : DataW.trod enc Try.prog w base spare held fuel 69 cs = some x) : ∃ (f : Animal) (ka : Option Addr) (kn kc : Nat), [.int .i64 f.id, .int .i64 f.mother, .int .i64 f.born.lo, .int .i64 f.born.hi, .slice ka kn kc] = cs ∧ kn ≤ kc ∧ kc ≤ maxLen ∧ MarksAt w ka kn f.marks := by
  obtain ⟨xs, n, _, _, _, hx, hf⟩ := DataW.trod_struct Try.underlying69 h
  obtain ⟨u0, u1, u2, u3, u4, rfl⟩ := tlen5 hl
  obtain ⟨x0, x1, x2, x3, rfl⟩ := tlen4 (show xs.length = 4 from hx)
  have g0 := hf 0 _ rfl
  have g1 := hf 1 _ rfl
  have g2 := hf 2 _ rfl
  have g3 := hf 3 _ rfl
  simp [c3, c23, c67] at g0 g1 g2 g3
  obtain ⟨a0, h0, _⟩ := take_int Try.underlying3 g0
  obtain ⟨a1, h1, _⟩ := take_int Try.underlying3 g1
  obtain ⟨a2, h2⟩ := take_span rfl g2
  obtain ⟨ka, kn, kc, h3⟩ := slice_shape Try.underlying67 g3
  cases h0; cases h1; cases h2; cases h3
  obtain ⟨k1, k2, gs, k3⟩ := take_marks g3
  exact ⟨⟨a0, a1, a2, gs⟩, ka, kn, kc, rfl, k1, k2, k3⟩
theorem take_animals {fuel : Nat} {a : Option Addr} {n c : Nat} {x : DataW H × List MemPlace} (h : DataW.trod enc Try.prog w base spare held fuel 63 [.slice a n c] = some x) : n ≤ c ∧ c ≤ maxLen ∧ ∃ l, AnimalsAt w a n l := by
  obtain ⟨h1, h2, l, h3, h4⟩ := take_slice (sz := 5) Try.underlying63 (by kernel_rfl) (by omega) (fun (f : Animal) cs => ∃ (ka : Option Addr) (kn kc : Nat), [.int .i64 f.id, .int .i64 f.mother, .int .i64 f.born.lo, .int .i64 f.born.hi, .slice ka kn kc] = cs ∧ kn ≤ kc ∧ kc ≤ maxLen ∧ MarksAt w ka kn f.marks) (fun n cs x hl hx => take_animal hl hx) h
  refine ⟨h1, h2, l, h3, fun hn => ?_⟩
  obtain ⟨b, off, ha, hk⟩ := h4 hn
  refine ⟨b, off, ha, fun k' y hy => ?_⟩
  obtain ⟨cs, h5, ka, kn, kc, rfl, h6⟩ := hk k' y hy
  exact ⟨ka, kn, kc, h5, h6⟩
end
end Go.Proofs.Ytcoelhpmkhimpaa

namespace Go.Proofs.Ytcoelhpmkhimpaa.topMangeDone
open Go.ChangeShapes Go.WideShapes Go.ChangeAt Go.RowKit
open Go.ChangeMaps (open_string shut_string)
set_option linter.unusedVariables false

theorem own : ownKnob Try.prog.godebug = none := by kernel_rfl
theorem laidOut : laidOutB Try.prog = true := by kernel_rfl

set_option maxRecDepth 100000 in
theorem lifted (os : Os) (started : os.Started) (H : Type) (enc : TypeId × Value → H) :
    ReturnsInHanded {} Try.checked os 5 .any (Rows.topMangeSpec.pre6 enc Try.prog Try.f5 Rows.topMangeRow.domain false) (Rows.topMangeSpec.post enc Try.prog Try.f5 false true false false) := by
  refine returnsInHanded_of_change (C := Try.checked) own started (by kernel_rfl) Try.func5
    (ChangeSpec.witness6 (enc := enc) (C := Try.checked) false ⟨#[], #[.slice none 0 0, .int .u8 0, .agg #[.int .i64 0, .int .i64 0]], []⟩ 8 (by kernel_rfl) (by kernel_rfl) (by kernel_rfl) (by kernel_rfl)) ?_
  intro W base args ds gs before hval0 hW hcnd _
  have hval : ∀ (j : Nat) t v, Try.f5.params[j]? = some t → args[j]? = some v → Value.okWide Try.prog W .any base t v := hval0
  have hW' := hW
  obtain ⟨p, q, hA0, hV, rfl, hfz, hnd⟩ := hW
  have hA : DataW.TrodAll enc Try.prog W 0 (fun _ => true) true Try.f5.params.toList args.toList ds p := hA0
  rw [Try.params5] at hA hval
  obtain ⟨v0, vs0, d0, ds0, p0, q0, hargs, rfl, rfl, h0, r0⟩ := trodAll_cons hA
  obtain ⟨v1, vs1, d1, ds1, p1, q1, rfl, rfl, rfl, h1, r1⟩ := trodAll_cons r0
  obtain ⟨v2, vs2, d2, ds2, p2, q2, rfl, rfl, rfl, h2, r2⟩ := trodAll_cons r1
  obtain ⟨rfl, rfl, rfl⟩ := trodAll_nil r2
  obtain rfl : args = #[v0, v1, v2] := by cases args; simp_all
  obtain ⟨rfl, rfl⟩ := trodVars_none hV
  obtain ⟨a0, len0, cap0, rfl⟩ := okWide_slice Try.underlying63 (hval 0 63 v0 rfl rfl)
  have k0 := h0
  have lt0 : ∀ x ∈ p0, x.block < W.heap.size := by obtain ⟨m, hm⟩ := k0; exact DataW.trod_lt m _ _ _ hm
  obtain ⟨lc0, cm0, l0, w0⟩ : len0 ≤ cap0 ∧ cap0 ≤ maxLen ∧ ∃ l, AnimalsAt W a0 len0 l := by
    obtain ⟨fuel, hf⟩ := h0
    exact take_animals hf
  obtain ⟨a1, rfl, rfl, rfl, w1⟩ := open_int Try.underlying5 (hval 1 5 v1 rfl rfl) h1
  obtain ⟨cs2, rfl, hz2⟩ := okWide_struct Try.underlying23 (hval 2 23 v2 rfl rfl)
  have k2 := h2
  have lt2 : ∀ x ∈ p2, x.block < W.heap.size := by obtain ⟨m, hm⟩ := k2; exact DataW.trod_lt m _ _ _ hm
  obtain ⟨s2, e2⟩ : ∃ s : Span, s.cells = cs2.toList := by
    obtain ⟨fuel, hf⟩ := h2
    exact take_span (hz2.trans (by kernel_rfl)) hf
  obtain rfl : cs2 = s2.cells.toArray := by rw [e2]
  clear hA0 hval0
  refine (topMange_any a0 len0 cap0 l0 a1 s2 W w0 lc0 cm0 (wf_u8 w1).1 (wf_u8 w1).2).mono fun e W' ⟨he, bel⟩ => ?_
  subst he
  exact ⟨_, rfl, _, _, _, [], _, [], hW', trodAll_mk1 (shut_bool Try.underlying4 _), (trodAll_cons_mk (Below.trod laidOut (by kernel_rfl) (of_decide_eq_true (by kernel_rfl)) k0 bel lt0) (trodAll_cons_mk (shut_int Try.underlying5 w1) (trodAll_cons_mk (Below.trod laidOut (by kernel_rfl) (of_decide_eq_true (by kernel_rfl)) k2 bel lt2) trodAll_mk0))), rfl, bel.frame _, fun h => by cases h⟩

theorem over : Rows.topMangeRow.holds Try.pinned (OpenSpec.ofChange Rows.topMangeSpec) :=
  OpenClaim.holds_of_wide 5 Try.f5 rfl rfl rfl rfl rfl rfl rfl ⟨rfl, rfl, rfl, rfl, rfl⟩ rfl rfl rfl rfl rfl (by kernel_rfl) Try.func5 (by kernel_rfl)
    (of_decide_eq_true (by kernel_rfl)) (by unfold Func.isWrapper; first | (rw [if_pos (by decide +kernel)]; kernel_rfl) | (rw [if_neg (by decide +kernel)]; exact ⟨rfl, rfl⟩))
    (fun os started H enc _ => lifted os started H enc)

theorem proved : Rows.TopMangeSaid := over
#print axioms proved
end Go.Proofs.Ytcoelhpmkhimpaa.topMangeDone
