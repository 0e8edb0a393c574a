/- Contract: slices.Repeat of one number, some times. -/
import Derived.Test.YtcoelhpmkhimpaaRepC
import Derived.Test.YtcoelhpmkhimpaaRepI
import Derived.Test.YtcoelhpmkhimpaaOpenC
namespace Go.Proofs.Ytcoelhpmkhimpaa
open Go.RowKit
set_option linter.unusedVariables false
set_option linter.unusedSimpArgs false
theorem made_ints (m : Nat) : madeCells (Value.int .i64 0).cells m = Array.replicate m (.int .i64 0) := by
  apply Array.ext
  · simp [size_madeCells]
  · intro i h1 h2
    have h2' : i < m := by simpa using h2
    simp [madeCells, Value.cells, Nat.mod_one]
theorem mk34 (m : Nat) (hm : m ≤ 1000000) (w : World) : (Instr.makeSlice 34 (.int .i64 m) (.int .i64 m)).run Try.prog w = .ok (.slice (some ⟨w.heap.size, 0, none⟩) m m) (w.alloc (.cells (Array.replicate m (.int .i64 0)) 3)) := by
  obtain ⟨i, h1, h2, h3, h4⟩ := info_parts infoI3
  have := run_makeSlice (P := Try.prog) w 34 3 i (.int .i64 0) Try.underlying34 h1 h2 .i64 .i64 m m (by omega) (Int.le_refl _) (by rw [h3]; simp; omega) (by rw [h4]; omega) (by omega)
  rw [h3, Int.toNat_natCast, Nat.mul_one, made_ints] at this
  exact this
theorem rep_zero (x : Int) (N : Nat) : (Array.replicate N (.int .i64 0) : Array Value) = (repCells [.int .i64 x] [.int .i64 0] 0 N).toArray := by
  unfold repCells
  simp
theorem rep_all (x : Int) (N : Nat) : (repCells [.int .i64 x] [.int .i64 0] N N).toArray = ivs (List.replicate N x) := by
  unfold repCells ivs
  simp
set_option maxRecDepth 100000 in
set_option maxHeartbeats 4000000 in
theorem repeatN (b : Nat) (x : Int) (N : Nat) (hN : 1 ≤ N ∧ N ≤ 30) (w : World) (hb : w.heap[b]? = some (.cells #[.int .i64 x] 3 (0, 0))) : Calls Try.prog 117 #[.slice (some ⟨b, 0, none⟩) 1 1, .int .i64 N] w fun e w' => ∃ g, e = .returned (.slice (some ⟨g, 0, none⟩) N N) ∧ Ext w w' ∧ w.heap.size ≤ g ∧ w'.heap[g]? = some (.cells (ivs (List.replicate N x)) 3 (0, 0)) := by
  obtain ⟨hN1, hN30⟩ := hN
  have hmk := mk34 N (by omega)
  have hml := mulI N hN30
  have hwr := wrapN N hN30
  obtain ⟨C, hC⟩ : ∃ C : List Value, [Value.int .i64 x] = C := ⟨_, rfl⟩
  obtain ⟨Z, hZ⟩ : ∃ Z : List Value, [Value.int .i64 0] = Z := ⟨_, rfl⟩
  have hr0 := rep_zero x N
  have hrn := rep_all x N
  rw [hC, hZ] at hr0 hrn
  rw [hr0] at hmk
  have hml' : C.length = 1 := by rw [← hC]; rfl
  have hzl' : Z.length = 1 := by rw [← hZ]; rfl
  have hone : ∀ v ∈ C, v.oneCell' = true := fun v hv => by
    rw [← hC] at hv
    simp at hv
    subst hv
    rfl
  have hbC : w.heap[b]? = some (.cells C.toArray 3 (0, 0)) := by rw [← hC]; exact hb
  clear hC hZ hb hr0
  have hx1 : Ext w (w.alloc (.cells (repCells C Z 0 N).toArray 3)) := (Ext.refl _).alloc _
  have hg1 := heap_alloc_new w (.cells (repCells C Z 0 N).toArray 3)
  have hb1 := hx1.heap hbC
  have hcell : ∀ j v, C[j]? = some v → (w.alloc (.cells (repCells C Z 0 N).toArray 3)).cell? ⟨b, 0 + j, none⟩ = some v := fun j v hv => by
    rw [cell_of_row _ b _ _ 3 (0, 0) hb1, Nat.zero_add, List.getElem?_toArray]
    exact hv
  have hst1 : ((repCells C Z 0 N).toArray.toList.take 0 ++ C ++ (repCells C Z 0 N).toArray.toList.drop (0 + C.length)).toArray = (repCells C Z 1 N).toArray := by
    have := repCells_step (c := C) (z := Z) (k := 1) (n := 0) (m := 1) (t := N) hml' hzl' (by omega)
    simp only [List.replicate_one, List.flatten_singleton, Nat.zero_mul, Nat.zero_add] at this
    rw [List.toList_toArray, ← this, Nat.zero_add]
  have hfit : 0 + C.length ≤ (repCells C Z 0 N).toArray.size := by
    rw [List.size_toArray, repCells_len (k := 1) hml' hzl' (by omega), hml']
    omega
  have hx2 : Ext w ((w.alloc (.cells (repCells C Z 0 N).toArray 3)).setRow w.heap.size (repCells C Z 1 N).toArray) := below_setRow hx1 (Nat.le_refl _) _
  have hg2 := setRow_heap (w.alloc (.cells (repCells C Z 0 N).toArray 3)) w.heap.size _ (repCells C Z 1 N).toArray 3 (0, 0) hg1
  have hmn : Nat.min 1 N = 1 := by
    have : Nat.min 1 N = min 1 N := rfl
    omega
  have hcn : C.length = Nat.min 1 N * 1 := by rw [hmn, hml']
  have Hx1 := Lib.hid hx1
  have Hg1 := Lib.hid hg1
  have Hb1 := Lib.hid hb1
  have Hcell := Lib.hid hcell
  have Hone := Lib.hid hone
  have Hml' := Lib.hid hml'
  have Hzl' := Lib.hid hzl'
  have Hst1 := Lib.hid hst1
  have Hfit := Lib.hid hfit
  have Hx2 := Lib.hid hx2
  have Hg2 := Lib.hid hg2
  have Hml := Lib.hid hml
  have Hrn := Lib.hid hrn
  have Hmn := Lib.hid hmn
  have Hcn := Lib.hid hcn
  clear hx1 hg1 hb1 hcell hone hml' hzl' hst1 hfit hx2 hg2 hml hrn hmn hcn
  clear hbC
  have gg1 := trivial
  go_enter Try.func117, Try.ntmps117
  go_wp2_with (first | (go_at_call 98; refine (Hml.out _).mono ?_; rintro e w1 ⟨rfl, rfl⟩) | (have q := gg1; clear q gg1; refine wpList_copy_rows rfl (.tmp 31) (.tmp 32) 34 34 rfl 3 1 Try.underlying34 (by kernel_rfl) w1.heap.size 0 N N b 0 1 1 rfl rfl _ 3 Hg1.out C Hcn.out Hcell.out Hfit.out Hone.out ?_; rw [Hst1.out, Hmn.out]))
  generalize hgw : w1.heap.size = g at *
  have Hgw := Lib.hid hgw
  clear hgw
  go_loopw [8] (fun i wr => ∃ n : Nat, i = .int .i64 n ∧ 1 ≤ n ∧ n ≤ N ∧ Ext w1 wr ∧ wr.heap[g]? = some (.cells (repCells C Z n N).toArray 3 (0, 0))) (fun i _ => N - (intOf i).toNat)
  case atStart => exact ⟨1, rfl, by omega, by omega, Hx2.out, Hg2.out⟩
  case round =>
    clear Hx2 Hg2 Hg1 Hx1 Hst1 Hfit hwr hmk
    obtain ⟨n, rfl, hn1, hn60, hx, hg⟩ := hrel
    by_cases hlt : n < N
    · have hltB : decide ((n : Int) < (N : Int)) = true := by simp; omega
      have hgd : wr.drew.heap[g]? = some (.cells (repCells C Z n N).toArray 3 (0, 0)) := ((Ext.refl wr).drew).heap hg
      obtain ⟨k, hk⟩ : ∃ k, Nat.min n (N - n) = k := ⟨_, rfl⟩
      have hk2 : n + k ≤ N ∧ k ≤ n ∧ 1 ≤ k := by
        have : Nat.min n (N - n) = min n (N - n) := rfl
        omega
      have hcl : (List.replicate k C).flatten.length = k * 1 := flat_len k Hml'.out
      have hnn : (List.replicate k C).flatten.length = Nat.min n (N - n) * 1 := by rw [hk, hcl]
      have hsrc : ∀ j v, (List.replicate k C).flatten[j]? = some v → wr.drew.cell? ⟨g, 0 + j, none⟩ = some v := fun j v hv => by
        rw [cell_of_row _ g _ _ 3 (0, 0) hgd, Nat.zero_add, List.getElem?_toArray]
        exact repCells_pre (r := 0) hk2.2.1 hv
      have hfi : n + (List.replicate k C).flatten.length ≤ (repCells C Z n N).toArray.size := by
        rw [List.size_toArray, repCells_len (k := 1) Hml'.out Hzl'.out (by omega), hcl]
        omega
      have hon : ∀ v ∈ (List.replicate k C).flatten, v.oneCell' = true := fun v hv => by
        obtain ⟨r, hr, hvr⟩ := List.mem_flatten.1 hv
        rw [(List.mem_replicate.1 hr).2] at hvr
        exact Hone.out v hvr
      have hstk : ((repCells C Z n N).toArray.toList.take n ++ (List.replicate k C).flatten ++ (repCells C Z n N).toArray.toList.drop (n + (List.replicate k C).flatten.length)).toArray = (repCells C Z (n + k) N).toArray := by
        have := repCells_step (k := 1) (n := n) Hml'.out Hzl'.out hk2.1
        rw [Nat.mul_one] at this
        rw [List.toList_toArray, this]
      have hxs : Ext w1 (wr.drew.setRow g (repCells C Z (n + k) N).toArray) := below_setRow hx.drew (by rw [Hgw.out]; exact Nat.le_refl _) _
      have hgs := setRow_heap wr.drew g _ (repCells C Z (n + k) N).toArray 3 (0, 0) hgd
      have Hg := Lib.hid hg
      have Hx := Lib.hid hx
      have Hgd := Lib.hid hgd
      have Hnn := Lib.hid hnn
      have Hsrc := Lib.hid hsrc
      have Hfi := Lib.hid hfi
      have Hon := Lib.hid hon
      have Hstk := Lib.hid hstk
      have Hxs := Lib.hid hxs
      have Hgs := Lib.hid hgs
      have Hk := Lib.hid hk
      clear hg hx hgd hnn hsrc hfi hon hstk hxs hgs hk
      clear hcl
      go_upto_region 9 with fail
      refine wp_region_tree (.take [0, 1, 2, 3, 4, 5, 6] (.one 7 (.take [8] (.one 9 .done)))) (Ext w1) _ (by kernel_rfl) (by kernel_rfl) rfl (Hx.out.drew) ?_
      intro ι _ f hf hs
      have HS := Lib.hid hs
      clear hf hs
      simp only [treeOf, oneOp, twoOp, opsOf, consOp, List.getElem?_toArray, List.getElem?_cons_succ, List.getElem?_cons_zero]
      refine wpOT_take ?_
      repeat (go_big_quiet_step (fail))
      refine wpQuiet_nil ?_
      refine wpOT_one ?_
      go_wp2_with (refine wpList_copy_rows rfl (.tmp 41) (.tmp 44) 34 34 rfl 3 1 Try.underlying34 (by kernel_rfl) g n (N - n) (N - n) g 0 n N rfl rfl _ 3 Hgd.out (List.replicate k C).flatten Hnn.out Hsrc.out Hfi.out Hon.out ?_; rw [Hstk.out, Hk.out])
      refine ⟨HS.out _ Hxs.out, ?_⟩
      refine wpOT_take ?_
      repeat (go_big_quiet_step (fail))
      refine wpQuiet_nil ?_
      refine wpOT_one ?_
      go_wp2_with fail
      refine ⟨HS.out _ Hxs.out, ?_⟩
      refine wpOT_done ?_
      clear HS
      go_wp2_with fail
      go_roundw
      case rel => exact ⟨n + k, by go_num, by omega, by omega, Hxs.out, Hgs.out⟩
      case measure => simp [intOf]; omega
    · obtain rfl : n = N := by omega
      have hltB : decide ((n : Int) < (n : Int)) = false := by simp
      have hgf := hg
      rw [Hrn.out] at hgf
      have Hgf := Lib.hid hgf
      have Hx := Lib.hid hx
      clear hgf hx
      clear hg
      go_wp2_with fail
      go_ret
      exact ⟨g, rfl, Hx.out, by rw [Hgw.out]; exact Nat.le_refl _, Hgf.out⟩
end Go.Proofs.Ytcoelhpmkhimpaa
