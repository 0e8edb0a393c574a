/- Contract: slices.Repeat of one day, sixty times. -/
import Derived.Test.YtcoelhpmkhimpaaRowsIn
import Derived.Test.YtcoelhpmkhimpaaRepM
import Derived.Laws.CopyRow
namespace Go.Proofs.Ytcoelhpmkhimpaa
open Go.RowKit
set_option linter.unusedVariables false
set_option linter.unusedSimpArgs false
/-- copy within blocks that are known whole -/
theorem run_copy_rows {P : Program} (w : World) (dT sT ty elem : TypeId) (sz g off dLen dCap sg soff sLen sCap : Nat) (cur : Array Value) (t : TypeId) (cs : List Value)
    (hu : P.underlying dT = some (.slice elem)) (hs : (P.info? elem).map (·.size) = some sz) (hg : w.heap[g]? = some (.cells cur t (0, 0))) (hn : cs.length = Nat.min sLen dLen * sz)
    (hsrc : ∀ j v, cs[j]? = some v → w.cell? ⟨sg, soff + j, none⟩ = some v) (hfit : off + cs.length ≤ cur.size) (h1 : ∀ v ∈ cs, v.oneCell' = true) :
    (Builtin.copy_ #[dT, sT] ty #[.slice (some ⟨g, off, none⟩) dLen dCap, .slice (some ⟨sg, soff, none⟩) sLen sCap]).run P w =
      .ok (goInt (Nat.min sLen dLen : Nat)) (w.setRow g (cur.toList.take off ++ cs ++ cur.toList.drop (off + cs.length)).toArray) := by
  have hl := run_loadCells_list (P := P) w ⟨sg, soff, none⟩ cs (fun j v hv => by rw [addr_add']; exact hsrc j v hv)
  have hst := run_storeCells_at P g off t cs 0 cur w hg (by simpa using hfit) h1
  cases hq : P.info? elem with
  | none => simp [hq] at hs
  | some i =>
    have hi : i.size = sz := by simpa [hq] using hs
    simp [Builtin.copy_, run_underlying hu, Builtin.lenOf, Builtin.firstCells, sizeOf, typeInfo, hq, hi, ← hn, hl, hst]
theorem wpList_copy_rows {P : Program} {w : World} {ops : Array Oper} {rest : List Oper} {o : Oper} {a : Act} {Q : Exit → Act → World → Prop} (hgd : o.guard = none) (d s : Operand) (dT sT : TypeId)
    (ho : o.op = .call { callee := .builtin .copy, args := #[d, s], argTypes := #[dT, sT] }) (elem : TypeId) (sz : Nat) (hu : P.underlying dT = some (.slice elem)) (hsz : (P.info? elem).map (·.size) = some sz)
    (g off dLen dCap sg soff sLen sCap : Nat) (hd : a.eval d = .slice (some ⟨g, off, none⟩) dLen dCap) (hs : a.eval s = .slice (some ⟨sg, soff, none⟩) sLen sCap)
    (cur : Array Value) (t : TypeId) (hg : w.heap[g]? = some (.cells cur t (0, 0))) (cs : List Value) (hn : cs.length = Nat.min sLen dLen * sz)
    (hsrc : ∀ j v, cs[j]? = some v → w.cell? ⟨sg, soff + j, none⟩ = some v) (hfit : off + cs.length ≤ cur.size) (h1 : ∀ v ∈ cs, v.oneCell' = true)
    (h : wpList P ops Q rest (a.put o.dst (.int .i64 (Nat.min sLen dLen : Nat))) (w.setRow g (cur.toList.take off ++ cs ++ cur.toList.drop (off + cs.length)).toArray)) : wpList P ops Q (o :: rest) a w := by
  refine wpList_plain hgd fun K hK => ?_
  have hrun := run_copy_rows (P := P) w dT sT o.type elem sz g off dLen dCap sg soff sLen sCap cur t cs hu hsz hg hn hsrc hfit h1
  unfold Oper.wp
  simp only [execOp, ho, resolve, invoke, builtin, List.map_toArray, List.map_cons, List.map_nil, hd, hs, hrun, Sem.run_bind, Sem.run_pure, Result.andThen_ok]
  exact hK _ _ h
/-- n rows c, then zeros up to t rows -/
def repCells (c z : List Value) (n t : Nat) : List Value := (List.replicate n c ++ List.replicate (t - n) z).flatten
theorem flat_len {c : List Value} {k : Nat} : ∀ n, c.length = k → (List.replicate n c).flatten.length = n * k
  | 0, _ => by simp
  | n + 1, h => by rw [List.replicate_succ, List.flatten_cons, List.length_append, flat_len n h, h, Nat.add_mul]; omega
theorem flat_add (c : List Value) (n k : Nat) : (List.replicate (n + k) c).flatten = (List.replicate n c).flatten ++ (List.replicate k c).flatten := by
  rw [← List.replicate_append_replicate, List.flatten_append]
theorem repCells_len {c z : List Value} {k n t : Nat} (hc : c.length = k) (hz : z.length = k) (hn : n ≤ t) : (repCells c z n t).length = t * k := by
  unfold repCells
  rw [List.flatten_append, List.length_append, flat_len n hc, flat_len _ hz, ← Nat.add_mul]
  congr 1
  omega
theorem repCells_get {c z : List Value} {k n t i j : Nat} (hc : c.length = k) (hi : i < n) (hj : j < k) : (repCells c z n t)[i * k + j]? = c[j]? := by
  unfold repCells
  rw [List.flatten_append, List.getElem?_append_left (by rw [flat_len n hc]; have : (i + 1) * k ≤ n * k := Nat.mul_le_mul_right _ hi; rw [Nat.add_mul] at this; omega)]
  obtain ⟨r, hr⟩ : ∃ r, n = i + (1 + r) := ⟨n - i - 1, by omega⟩
  subst hr
  rw [flat_add, List.getElem?_append_right (by rw [flat_len i hc]; omega), flat_len i hc, flat_add, List.getElem?_append_left (by rw [flat_len 1 hc]; omega)]
  rw [show i * k + j - i * k = j by omega]
  simp
theorem repCells_step {c z : List Value} {k n m t : Nat} (hc : c.length = k) (hz : z.length = k) (h : n + m ≤ t) :
    (repCells c z n t).take (n * k) ++ (List.replicate m c).flatten ++ (repCells c z n t).drop (n * k + (List.replicate m c).flatten.length) = repCells c z (n + m) t := by
  unfold repCells
  obtain ⟨r, rfl⟩ : ∃ r, t = n + m + r := ⟨t - n - m, by omega⟩
  rw [show n + m + r - n = m + r by omega, show n + m + r - (n + m) = r by omega, List.flatten_append, List.flatten_append, flat_len m hc]
  rw [List.take_left' (flat_len n hc), flat_add z m r, ← List.append_assoc, List.drop_append_of_le_length (by rw [List.length_append, flat_len n hc, flat_len m hz]; exact Nat.le_refl _), List.drop_of_length_le (by rw [List.length_append, flat_len n hc, flat_len m hz]; exact Nat.le_refl _), flat_add c n m, List.nil_append]
theorem repCells_pre {c z : List Value} {k n r t j : Nat} {v : Value} (h : k ≤ n) (hj : (List.replicate k c).flatten[j]? = some v) : (repCells c z n t)[j]? = some v := by
  obtain ⟨r, rfl⟩ : ∃ r, n = k + r := ⟨n - k, by omega⟩
  unfold repCells
  rw [List.flatten_append, flat_add, List.append_assoc, List.getElem?_append_left (List.getElem?_eq_some_iff.1 hj).1]
  exact hj
theorem repCells_one {c z : List Value} {k n t : Nat} (hc : ∀ v ∈ c, v.oneCell' = true) (hz : ∀ v ∈ z, v.oneCell' = true) : ∀ v ∈ repCells c z n t, v.oneCell' = true := fun v hv => by
  unfold repCells at hv
  obtain ⟨r, hr, hvr⟩ := List.mem_flatten.1 hv
  rcases List.mem_append.1 hr with h | h
  · rw [(List.mem_replicate.1 h).2] at hvr
    exact hc v hvr
  · rw [(List.mem_replicate.1 h).2] at hvr
    exact hz v hvr
def z8 : List Value := [.int .i64 0, .int .i64 0, .int .i64 0, .int .i64 0, .int .i64 0, .int .i64 0, .int .i64 0, .int .i64 0]
def oDays : Obj := .cells (repCells z8 z8 0 60).toArray 29 (0, 0)
theorem mk48 : ∀ w, (Instr.makeSlice 48 (.int .i64 60) (.int .i64 60)).run Try.prog w = .ok (.slice (some ⟨w.heap.size, 0, none⟩) 60 60) (w.alloc oDays) := fun _ => by kernel_rfl
theorem days_built {w : World} {b : Nat} {m : March} {n : Nat} (hb : w.heap[b]? = some (.cells (repCells m.cells z8 n n).toArray 29 (0, 0))) : DaysAt w (some ⟨b, 0, none⟩) n (List.replicate n m) := by
  refine ⟨by simp, fun _ => ⟨b, 0, rfl, fun k hk j v hv => ?_⟩⟩
  have e : (List.replicate n m).getD k zday = m := by simp [List.getD, hk]
  simp only at hv
  rw [e] at hv
  have hj : j < 8 := by have := (List.getElem?_eq_some_iff.1 hv).1; simpa [March.cells] using this
  rw [cell_of_row w b _ _ 29 (0, 0) hb, Nat.zero_add, List.getElem?_toArray, repCells_get (k := 8) rfl hk hj]
  exact hv
set_option maxRecDepth 100000 in
set_option maxHeartbeats 4000000 in
theorem repeat_any (b : Nat) (m : March) (w : World) (hb : w.heap[b]? = some (.cells m.cells.toArray 29 (0, 0))) : Calls Try.prog 53 #[.slice (some ⟨b, 0, none⟩) 1 1, .int .i64 60] w fun e w' => ∃ g, e = .returned (.slice (some ⟨g, 0, none⟩) 60 60) ∧ Ext w w' ∧ w.heap.size ≤ g ∧ DaysAt w' (some ⟨g, 0, none⟩) 60 (List.replicate 60 m) := by
  have hmk := mk48
  have hml := mul_any
  have hx1 : Ext w (w.alloc oDays) := (Ext.refl _).alloc _
  have hg1 := heap_alloc_new w oDays
  have hb1 := hx1.heap hb
  have hcell : ∀ j v, m.cells[j]? = some v → (w.alloc oDays).cell? ⟨b, 0 + j, none⟩ = some v := fun j v hv => by
    rw [cell_of_row _ b _ _ 29 (0, 0) hb1, Nat.zero_add, List.getElem?_toArray]
    exact hv
  have hone : ∀ v ∈ m.cells, v.oneCell' = true := fun v hv => by
    simp only [March.cells, List.mem_cons, List.not_mem_nil, or_false] at hv
    rcases hv with rfl | rfl | rfl | rfl | rfl | rfl | rfl | rfl <;> rfl
  have hz1 : ∀ v ∈ z8, v.oneCell' = true := fun v hv => by
    simp only [z8, List.mem_cons, List.not_mem_nil, or_false] at hv
    rcases hv with rfl | rfl | rfl | rfl | rfl | rfl | rfl | rfl <;> rfl
  have hml' : m.cells.length = 8 := rfl
  have hd8 := fun (W : World) (g : Nat) (h : W.heap[g]? = some (.cells (repCells m.cells z8 60 60).toArray 29 (0, 0))) => days_built h
  generalize hC : m.cells = C at *
  have hst1 : ((repCells C z8 0 60).toArray.toList.take 0 ++ C ++ (repCells C z8 0 60).toArray.toList.drop (0 + C.length)).toArray = (repCells C z8 1 60).toArray := by
    have := repCells_step (c := C) (z := z8) (k := 8) (n := 0) (m := 1) (t := 60) hml' rfl (by omega)
    simp only [List.replicate_one, List.flatten_singleton, Nat.zero_mul, Nat.zero_add] at this
    rw [List.toList_toArray, ← this, Nat.zero_add]
  have hz0 : (repCells z8 z8 0 60).toArray = (repCells C z8 0 60).toArray := rfl
  unfold oDays at hmk hx1 hg1 hb1 hcell
  rw [hz0] at hmk hx1 hg1 hb1 hcell
  have hfit : 0 + C.length ≤ (repCells C z8 0 60).toArray.size := by
    rw [List.size_toArray, repCells_len (k := 8) hml' rfl (by omega), hml']
    omega
  have hx2 : Ext w ((w.alloc (.cells (repCells C z8 0 60).toArray 29)).setRow w.heap.size (repCells C z8 1 60).toArray) := below_setRow hx1 (Nat.le_refl _) _
  have hg2 := setRow_heap (w.alloc (.cells (repCells C z8 0 60).toArray 29)) w.heap.size _ (repCells C z8 1 60).toArray 29 (0, 0) hg1
  have Hx1 := Lib.hid hx1
  have Hg1 := Lib.hid hg1
  have Hb1 := Lib.hid hb1
  have Hcell := Lib.hid hcell
  have Hone := Lib.hid hone
  have Hz1 := Lib.hid hz1
  have Hml' := Lib.hid hml'
  have Hd8 := Lib.hid hd8
  have Hst1 := Lib.hid hst1
  have Hfit := Lib.hid hfit
  have Hx2 := Lib.hid hx2
  have Hg2 := Lib.hid hg2
  have Hml := Lib.hid hml
  clear hx1 hg1 hb1 hcell hone hz1 hml' hd8 hst1 hfit hx2 hg2 hml
  clear hz0 hC hb
  have gg1 := trivial
  go_enter Try.func53, Try.ntmps53
  go_wp2_with (first | (go_at_call 98; refine (Hml.out _).mono ?_; rintro e w1 ⟨rfl, rfl⟩) | (have q := gg1; clear q gg1; refine wpList_copy_rows rfl (.tmp 31) (.tmp 32) 48 48 rfl 29 8 Try.underlying48 (by kernel_rfl) w1.heap.size 0 60 60 b 0 1 1 rfl rfl _ 29 Hg1.out C (by have := Hml'.out; simpa using this) Hcell.out Hfit.out Hone.out ?_; rw [Hst1.out]))
  generalize hgw : w1.heap.size = g at *
  have Hgw := Lib.hid hgw
  clear hgw
  go_loopw [8] (fun i wr => ∃ n : Nat, i = .int .i64 n ∧ 1 ≤ n ∧ n ≤ 60 ∧ Ext w1 wr ∧ wr.heap[g]? = some (.cells (repCells C z8 n 60).toArray 29 (0, 0))) (fun i _ => 60 - (intOf i).toNat)
  case atStart => exact ⟨1, rfl, by omega, by omega, Hx2.out, Hg2.out⟩
  case round =>
    clear Hx2 Hg2 Hg1 Hx1 Hst1 Hfit
    obtain ⟨n, rfl, hn1, hn60, hx, hg⟩ := hrel
    by_cases hlt : n < 60
    · have hltB : decide ((n : Int) < 60) = true := by simp; omega
      have hgd : wr.drew.heap[g]? = some (.cells (repCells C z8 n 60).toArray 29 (0, 0)) := ((Ext.refl wr).drew).heap hg
      obtain ⟨k, hk⟩ : ∃ k, Nat.min n (60 - n) = k := ⟨_, rfl⟩
      have hk2 : n + k ≤ 60 ∧ k ≤ n ∧ 1 ≤ k := by
        have : Nat.min n (60 - n) = min n (60 - n) := rfl
        omega
      have hcl : (List.replicate k C).flatten.length = k * 8 := flat_len k Hml'.out
      have hnn : (List.replicate k C).flatten.length = Nat.min n (60 - n) * 8 := by rw [hk, hcl]
      have hsrc : ∀ j v, (List.replicate k C).flatten[j]? = some v → wr.drew.cell? ⟨g, 0 + j, none⟩ = some v := fun j v hv => by
        rw [cell_of_row _ g _ _ 29 (0, 0) hgd, Nat.zero_add, List.getElem?_toArray]
        exact repCells_pre (r := 0) hk2.2.1 hv
      have hfi : n * 8 + (List.replicate k C).flatten.length ≤ (repCells C z8 n 60).toArray.size := by
        rw [List.size_toArray, repCells_len (k := 8) Hml'.out rfl (by omega), hcl]
        omega
      have hon : ∀ v ∈ (List.replicate k C).flatten, v.oneCell' = true := fun v hv => by
        obtain ⟨r, hr, hvr⟩ := List.mem_flatten.1 hv
        rw [(List.mem_replicate.1 hr).2] at hvr
        exact Hone.out v hvr
      have hstk : ((repCells C z8 n 60).toArray.toList.take (n * 8) ++ (List.replicate k C).flatten ++ (repCells C z8 n 60).toArray.toList.drop (n * 8 + (List.replicate k C).flatten.length)).toArray = (repCells C z8 (n + k) 60).toArray := by
        rw [List.toList_toArray, repCells_step (k := 8) Hml'.out rfl hk2.1]
      have hxs : Ext w1 (wr.drew.setRow g (repCells C z8 (n + k) 60).toArray) := below_setRow hx.drew (by rw [Hgw.out]; exact Nat.le_refl _) _
      have hgs := setRow_heap wr.drew g _ (repCells C z8 (n + k) 60).toArray 29 (0, 0) hgd
      have Hg := Lib.hid hg
      have Hx := Lib.hid hx
      have Hgd := Lib.hid hgd
      have Hnn := Lib.hid hnn
      have Hsrc := Lib.hid hsrc
      have Hfi := Lib.hid hfi
      have Hon := Lib.hid hon
      have Hstk := Lib.hid hstk
      have Hxs := Lib.hid hxs
      have Hgs := Lib.hid hgs
      have Hk := Lib.hid hk
      clear hg hx hgd hnn hsrc hfi hon hstk hxs hgs hk
      clear hcl
      go_upto_region 9 with fail
      refine wp_region_tree (.take [0, 1, 2, 3, 4, 5, 6] (.one 7 (.take [8] (.one 9 .done)))) (Ext w1) _ (by kernel_rfl) (by kernel_rfl) rfl (Hx.out.drew) ?_
      intro ι _ f hf hs
      have HS := Lib.hid hs
      clear hf hs
      simp only [treeOf, oneOp, twoOp, opsOf, consOp, List.getElem?_toArray, List.getElem?_cons_succ, List.getElem?_cons_zero]
      refine wpOT_take ?_
      repeat (go_big_quiet_step (fail))
      refine wpQuiet_nil ?_
      refine wpOT_one ?_
      go_wp2_with (refine wpList_copy_rows rfl (.tmp 41) (.tmp 44) 48 48 rfl 29 8 Try.underlying48 (by kernel_rfl) g (n * 8) (60 - n) (60 - n) g 0 n 60 rfl rfl _ 29 Hgd.out (List.replicate k C).flatten Hnn.out Hsrc.out Hfi.out Hon.out ?_; rw [Hstk.out, Hk.out])
      refine ⟨HS.out _ Hxs.out, ?_⟩
      refine wpOT_take ?_
      repeat (go_big_quiet_step (fail))
      refine wpQuiet_nil ?_
      refine wpOT_one ?_
      go_wp2_with fail
      refine ⟨HS.out _ Hxs.out, ?_⟩
      refine wpOT_done ?_
      clear HS
      go_wp2_with fail
      go_roundw
      case rel => exact ⟨n + k, by go_num, by omega, by omega, Hxs.out, Hgs.out⟩
      case measure => simp [intOf]; omega
    · obtain rfl : n = 60 := by omega
      have hf := Hd8.out wr g hg
      have Hf := Lib.hid hf
      have Hx := Lib.hid hx
      clear hf hx
      clear hg
      go_wp2_with fail
      go_ret
      exact ⟨g, rfl, Hx.out, by rw [Hgw.out]; exact Nat.le_refl _, Hf.out⟩
end Go.Proofs.Ytcoelhpmkhimpaa
