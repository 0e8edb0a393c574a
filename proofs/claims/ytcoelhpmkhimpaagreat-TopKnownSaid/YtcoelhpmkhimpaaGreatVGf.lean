/- Contract: bits.Mul of 1 and 60. -/
import Derived.Test.YtcoelhpmkhimpaaGreatVGd
import Derived.Test.YtcoelhpmkhimpaaGreatVGe
import Derived.Laws.CopyRow
import Derived.Test.YtcoelhpmkhimpaaGreatVGc
namespace Go.Proofs.YtcoelhpmkhimpaaGreat
open Go.RowKit
set_option linter.unusedVariables false
set_option linter.unusedSimpArgs false
theorem mul64_any (w : World) : Calls Tryz.prog 97 #[.int .u64 1, .int .u64 60] w fun e w' => e = .returned (.tuple #[.int .u64 0, .int .u64 60]) ∧ w' = w := by
  have b1 : bits BinOp.and IntKind.u64 1 4294967295 = 1 := by kernel_rfl
  have b2 : bits BinOp.and IntKind.u64 60 4294967295 = 60 := by kernel_rfl
  have b3 : bits BinOp.and IntKind.u64 0 4294967295 = 0 := by kernel_rfl
  go_enter Tryz.func97, Tryz.ntmps97
  go_wp2_with fail
  go_ret2
  exact ⟨rfl, rfl⟩
theorem mul_any (w : World) : Calls Tryz.prog 67 #[.int .u64 1, .int .u64 60] w fun e w' => e = .returned (.tuple #[.int .u64 0, .int .u64 60]) ∧ w' = w := by
  go_enter Tryz.func67, Tryz.ntmps67
  go_wp2_with (go_at_call 97; refine (mul64_any _).mono ?_; rintro e w1 ⟨rfl, rfl⟩)
  go_ret2
  exact ⟨rfl, rfl⟩
end Go.Proofs.YtcoelhpmkhimpaaGreat

/- Contract: slices.Repeat of one day, sixty times. -/
namespace Go.Proofs.YtcoelhpmkhimpaaGreat
open Go.RowKit
set_option linter.unusedVariables false
set_option linter.unusedSimpArgs false
/-- copy within blocks that are known whole -/
theorem run_copy_rows {P : Program} (w : World) (dT sT ty elem : TypeId) (sz g off dLen dCap sg soff sLen sCap : Nat) (cur : Array Value) (t : TypeId) (cs : List Value)
    (hu : P.underlying dT = some (.slice elem)) (hs : (P.info? elem).map (·.size) = some sz) (hg : w.heap[g]? = some (.cells cur t (0, 0))) (hn : cs.length = Nat.min sLen dLen * sz)
    (hsrc : ∀ j v, cs[j]? = some v → w.cell? ⟨sg, soff + j, none⟩ = some v) (hfit : off + cs.length ≤ cur.size) (h1 : ∀ v ∈ cs, v.oneCell' = true) :
    (Builtin.copy_ #[dT, sT] ty #[.slice (some ⟨g, off, none⟩) dLen dCap, .slice (some ⟨sg, soff, none⟩) sLen sCap]).run P w =
      .ok (goInt (Nat.min sLen dLen : Nat)) (w.setRow g (cur.toList.take off ++ cs ++ cur.toList.drop (off + cs.length)).toArray) := by
  have hl := run_loadCells_list (P := P) w ⟨sg, soff, none⟩ cs (fun j v hv => by rw [addr_add']; exact hsrc j v hv)
  have hst := run_storeCells_at P g off t cs 0 cur w hg (by simpa using hfit) h1
  cases hq : P.info? elem with
  | none => simp [hq] at hs
  | some i =>
    have hi : i.size = sz := by simpa [hq] using hs
    simp [Builtin.copy_, run_underlying hu, Builtin.lenOf, Builtin.firstCells, sizeOf, typeInfo, hq, hi, ← hn, hl, hst]
theorem wpList_copy_rows {P : Program} {w : World} {ops : Array Oper} {rest : List Oper} {o : Oper} {a : Act} {Q : Exit → Act → World → Prop} (hgd : o.guard = none) (d s : Operand) (dT sT : TypeId)
    (ho : o.op = .call { callee := .builtin .copy, args := #[d, s], argTypes := #[dT, sT] }) (elem : TypeId) (sz : Nat) (hu : P.underlying dT = some (.slice elem)) (hsz : (P.info? elem).map (·.size) = some sz)
    (g off dLen dCap sg soff sLen sCap : Nat) (hd : a.eval d = .slice (some ⟨g, off, none⟩) dLen dCap) (hs : a.eval s = .slice (some ⟨sg, soff, none⟩) sLen sCap)
    (cur : Array Value) (t : TypeId) (hg : w.heap[g]? = some (.cells cur t (0, 0))) (cs : List Value) (hn : cs.length = Nat.min sLen dLen * sz)
    (hsrc : ∀ j v, cs[j]? = some v → w.cell? ⟨sg, soff + j, none⟩ = some v) (hfit : off + cs.length ≤ cur.size) (h1 : ∀ v ∈ cs, v.oneCell' = true)
    (h : wpList P ops Q rest (a.put o.dst (.int .i64 (Nat.min sLen dLen : Nat))) (w.setRow g (cur.toList.take off ++ cs ++ cur.toList.drop (off + cs.length)).toArray)) : wpList P ops Q (o :: rest) a w := by
  refine wpList_plain hgd fun K hK => ?_
  have hrun := run_copy_rows (P := P) w dT sT o.type elem sz g off dLen dCap sg soff sLen sCap cur t cs hu hsz hg hn hsrc hfit h1
  unfold Oper.wp
  simp only [execOp, ho, resolve, invoke, builtin, List.map_toArray, List.map_cons, List.map_nil, hd, hs, hrun, Sem.run_bind, Sem.run_pure, Result.andThen_ok]
  exact hK _ _ h
/-- n rows c, then zeros up to t rows -/
def repCells (c z : List Value) (n t : Nat) : List Value := (List.replicate n c ++ List.replicate (t - n) z).flatten
theorem flat_len {c : List Value} {k : Nat} : ∀ n, c.length = k → (List.replicate n c).flatten.length = n * k
  | 0, _ => by simp
  | n + 1, h => by rw [List.replicate_succ, List.flatten_cons, List.length_append, flat_len n h, h, Nat.add_mul]; omega
theorem flat_add (c : List Value) (n k : Nat) : (List.replicate (n + k) c).flatten = (List.replicate n c).flatten ++ (List.replicate k c).flatten := by
  rw [← List.replicate_append_replicate, List.flatten_append]
theorem repCells_len {c z : List Value} {k n t : Nat} (hc : c.length = k) (hz : z.length = k) (hn : n ≤ t) : (repCells c z n t).length = t * k := by
  unfold repCells
  rw [List.flatten_append, List.length_append, flat_len n hc, flat_len _ hz, ← Nat.add_mul]
  congr 1
  omega
theorem repCells_get {c z : List Value} {k n t i j : Nat} (hc : c.length = k) (hi : i < n) (hj : j < k) : (repCells c z n t)[i * k + j]? = c[j]? := by
  unfold repCells
  rw [List.flatten_append, List.getElem?_append_left (by rw [flat_len n hc]; have : (i + 1) * k ≤ n * k := Nat.mul_le_mul_right _ hi; rw [Nat.add_mul] at this; omega)]
  obtain ⟨r, hr⟩ : ∃ r, n = i + (1 + r) := ⟨n - i - 1, by omega⟩
  subst hr
  rw [flat_add, List.getElem?_append_right (by rw [flat_len i hc]; omega), flat_len i hc, flat_add, List.getElem?_append_left (by rw [flat_len 1 hc]; omega)]
  rw [show i * k + j - i * k = j by omega]
  simp
theorem repCells_step {c z : List Value} {k n m t : Nat} (hc : c.length = k) (hz : z.length = k) (h : n + m ≤ t) :
    (repCells c z n t).take (n * k) ++ (List.replicate m c).flatten ++ (repCells c z n t).drop (n * k + (List.replicate m c).flatten.length) = repCells c z (n + m) t := by
  unfold repCells
  obtain ⟨r, rfl⟩ : ∃ r, t = n + m + r := ⟨t - n - m, by omega⟩
  rw [show n + m + r - n = m + r by omega, show n + m + r - (n + m) = r by omega, List.flatten_append, List.flatten_append, flat_len m hc]
  rw [List.take_left' (flat_len n hc), flat_add z m r, ← List.append_assoc, List.drop_append_of_le_length (by rw [List.length_append, flat_len n hc, flat_len m hz]; exact Nat.le_refl _), List.drop_of_length_le (by rw [List.length_append, flat_len n hc, flat_len m hz]; exact Nat.le_refl _), flat_add c n m, List.nil_append]
theorem repCells_pre {c z : List Value} {k n r t j : Nat} {v : Value} (h : k ≤ n) (hj : (List.replicate k c).flatten[j]? = some v) : (repCells c z n t)[j]? = some v := by
  obtain ⟨r, rfl⟩ : ∃ r, n = k + r := ⟨n - k, by omega⟩
  unfold repCells
  rw [List.flatten_append, flat_add, List.append_assoc, List.getElem?_append_left (List.getElem?_eq_some_iff.1 hj).1]
  exact hj
theorem repCells_one {c z : List Value} {k n t : Nat} (hc : ∀ v ∈ c, v.oneCell' = true) (hz : ∀ v ∈ z, v.oneCell' = true) : ∀ v ∈ repCells c z n t, v.oneCell' = true := fun v hv => by
  unfold repCells at hv
  obtain ⟨r, hr, hvr⟩ := List.mem_flatten.1 hv
  rcases List.mem_append.1 hr with h | h
  · rw [(List.mem_replicate.1 h).2] at hvr
    exact hc v hvr
  · rw [(List.mem_replicate.1 h).2] at hvr
    exact hz v hvr
def z8 : List Value := [.int .i64 0, .int .i64 0, .int .i64 0, .int .i64 0, .int .i64 0, .int .i64 0, .int .i64 0, .int .i64 0]
def oDays : Obj := .cells (repCells z8 z8 0 60).toArray 33 (0, 0)
theorem mk48 : ∀ w, (Instr.makeSlice 92 (.int .i64 60) (.int .i64 60)).run Tryz.prog w = .ok (.slice (some ⟨w.heap.size, 0, none⟩) 60 60) (w.alloc oDays) := fun _ => by kernel_rfl
theorem days_built {w : World} {b : Nat} {m : March} {n : Nat} (hb : w.heap[b]? = some (.cells (repCells m.cells z8 n n).toArray 33 (0, 0))) : DaysAt w (some ⟨b, 0, none⟩) n (List.replicate n m) := by
  refine ⟨by simp, fun _ => ⟨b, 0, rfl, fun k hk j v hv => ?_⟩⟩
  have e : (List.replicate n m).getD k zday = m := by simp [List.getD, hk]
  simp only at hv
  rw [e] at hv
  have hj : j < 8 := by have := (List.getElem?_eq_some_iff.1 hv).1; simpa [March.cells] using this
  rw [cell_of_row w b _ _ 33 (0, 0) hb, Nat.zero_add, List.getElem?_toArray, repCells_get (k := 8) rfl hk hj]
  exact hv
set_option maxRecDepth 100000 in
set_option maxHeartbeats 4000000 in
theorem repeat_any (b : Nat) (m : March) (w : World) (hb : w.heap[b]? = some (.cells m.cells.toArray 33 (0, 0))) : Calls Tryz.prog 41 #[.slice (some ⟨b, 0, none⟩) 1 1, .int .i64 60] w fun e w' => ∃ g, e = .returned (.slice (some ⟨g, 0, none⟩) 60 60) ∧ Ext w w' ∧ w.heap.size ≤ g ∧ DaysAt w' (some ⟨g, 0, none⟩) 60 (List.replicate 60 m) := by
  have hmk := mk48
  have hml := mul_any
  have hx1 : Ext w (w.alloc oDays) := (Ext.refl _).alloc _
  have hg1 := heap_alloc_new w oDays
  have hb1 := hx1.heap hb
  have hcell : ∀ j v, m.cells[j]? = some v → (w.alloc oDays).cell? ⟨b, 0 + j, none⟩ = some v := fun j v hv => by
    rw [cell_of_row _ b _ _ 33 (0, 0) hb1, Nat.zero_add, List.getElem?_toArray]
    exact hv
  have hone : ∀ v ∈ m.cells, v.oneCell' = true := fun v hv => by
    simp only [March.cells, List.mem_cons, List.not_mem_nil, or_false] at hv
    rcases hv with rfl | rfl | rfl | rfl | rfl | rfl | rfl | rfl <;> rfl
  have hz1 : ∀ v ∈ z8, v.oneCell' = true := fun v hv => by
    simp only [z8, List.mem_cons, List.not_mem_nil, or_false] at hv
    rcases hv with rfl | rfl | rfl | rfl | rfl | rfl | rfl | rfl <;> rfl
  have hml' : m.cells.length = 8 := rfl
  have hd8 := fun (W : World) (g : Nat) (h : W.heap[g]? = some (.cells (repCells m.cells z8 60 60).toArray 33 (0, 0))) => days_built h
  generalize hC : m.cells = C at *
  have hst1 : ((repCells C z8 0 60).toArray.toList.take 0 ++ C ++ (repCells C z8 0 60).toArray.toList.drop (0 + C.length)).toArray = (repCells C z8 1 60).toArray := by
    have := repCells_step (c := C) (z := z8) (k := 8) (n := 0) (m := 1) (t := 60) hml' rfl (by omega)
    simp only [List.replicate_one, List.flatten_singleton, Nat.zero_mul, Nat.zero_add] at this
    rw [List.toList_toArray, ← this, Nat.zero_add]
  have hz0 : (repCells z8 z8 0 60).toArray = (repCells C z8 0 60).toArray := rfl
  unfold oDays at hmk hx1 hg1 hb1 hcell
  rw [hz0] at hmk hx1 hg1 hb1 hcell
  have hfit : 0 + C.length ≤ (repCells C z8 0 60).toArray.size := by
    rw [List.size_toArray, repCells_len (k := 8) hml' rfl (by omega), hml']
    omega
  have hx2 : Ext w ((w.alloc (.cells (repCells C z8 0 60).toArray 33)).setRow w.heap.size (repCells C z8 1 60).toArray) := below_setRow hx1 (Nat.le_refl _) _
  have hg2 := setRow_heap (w.alloc (.cells (repCells C z8 0 60).toArray 33)) w.heap.size _ (repCells C z8 1 60).toArray 33 (0, 0) hg1
  have Hx1 := Lib.hid hx1
  have Hg1 := Lib.hid hg1
  have Hb1 := Lib.hid hb1
  have Hcell := Lib.hid hcell
  have Hone := Lib.hid hone
  have Hz1 := Lib.hid hz1
  have Hml' := Lib.hid hml'
  have Hd8 := Lib.hid hd8
  have Hst1 := Lib.hid hst1
  have Hfit := Lib.hid hfit
  have Hx2 := Lib.hid hx2
  have Hg2 := Lib.hid hg2
  have Hml := Lib.hid hml
  clear hx1 hg1 hb1 hcell hone hz1 hml' hd8 hst1 hfit hx2 hg2 hml
  clear hz0 hC hb
  have gg1 := trivial
  go_enter Tryz.func41, Tryz.ntmps41
  go_wp2_with (first | (go_at_call 67; refine (Hml.out _).mono ?_; rintro e w1 ⟨rfl, rfl⟩) | (have q := gg1; clear q gg1; refine wpList_copy_rows rfl (.tmp 31) (.tmp 32) 92 92 rfl 33 8 Tryz.underlying92 (by kernel_rfl) w1.heap.size 0 60 60 b 0 1 1 rfl rfl _ 33 Hg1.out C (by have := Hml'.out; simpa using this) Hcell.out Hfit.out Hone.out ?_; rw [Hst1.out]))
  generalize hgw : w1.heap.size = g at *
  have Hgw := Lib.hid hgw
  clear hgw
  go_loopw [8] (fun i wr => ∃ n : Nat, i = .int .i64 n ∧ 1 ≤ n ∧ n ≤ 60 ∧ Ext w1 wr ∧ wr.heap[g]? = some (.cells (repCells C z8 n 60).toArray 33 (0, 0))) (fun i _ => 60 - (intOf i).toNat)
  case atStart => exact ⟨1, rfl, by omega, by omega, Hx2.out, Hg2.out⟩
  case round =>
    clear Hx2 Hg2 Hg1 Hx1 Hst1 Hfit
    obtain ⟨n, rfl, hn1, hn60, hx, hg⟩ := hrel
    by_cases hlt : n < 60
    · have hltB : decide ((n : Int) < 60) = true := by simp; omega
      have hgd : wr.drew.heap[g]? = some (.cells (repCells C z8 n 60).toArray 33 (0, 0)) := ((Ext.refl wr).drew).heap hg
      obtain ⟨k, hk⟩ : ∃ k, Nat.min n (60 - n) = k := ⟨_, rfl⟩
      have hk2 : n + k ≤ 60 ∧ k ≤ n ∧ 1 ≤ k := by
        have : Nat.min n (60 - n) = min n (60 - n) := rfl
        omega
      have hcl : (List.replicate k C).flatten.length = k * 8 := flat_len k Hml'.out
      have hnn : (List.replicate k C).flatten.length = Nat.min n (60 - n) * 8 := by rw [hk, hcl]
      have hsrc : ∀ j v, (List.replicate k C).flatten[j]? = some v → wr.drew.cell? ⟨g, 0 + j, none⟩ = some v := fun j v hv => by
        rw [cell_of_row _ g _ _ 33 (0, 0) hgd, Nat.zero_add, List.getElem?_toArray]
        exact repCells_pre (r := 0) hk2.2.1 hv
      have hfi : n * 8 + (List.replicate k C).flatten.length ≤ (repCells C z8 n 60).toArray.size := by
        rw [List.size_toArray, repCells_len (k := 8) Hml'.out rfl (by omega), hcl]
        omega
      have hon : ∀ v ∈ (List.replicate k C).flatten, v.oneCell' = true := fun v hv => by
        obtain ⟨r, hr, hvr⟩ := List.mem_flatten.1 hv
        rw [(List.mem_replicate.1 hr).2] at hvr
        exact Hone.out v hvr
      have hstk : ((repCells C z8 n 60).toArray.toList.take (n * 8) ++ (List.replicate k C).flatten ++ (repCells C z8 n 60).toArray.toList.drop (n * 8 + (List.replicate k C).flatten.length)).toArray = (repCells C z8 (n + k) 60).toArray := by
        rw [List.toList_toArray, repCells_step (k := 8) Hml'.out rfl hk2.1]
      have hxs : Ext w1 (wr.drew.setRow g (repCells C z8 (n + k) 60).toArray) := below_setRow hx.drew (by rw [Hgw.out]; exact Nat.le_refl _) _
      have hgs := setRow_heap wr.drew g _ (repCells C z8 (n + k) 60).toArray 33 (0, 0) hgd
      have Hg := Lib.hid hg
      have Hx := Lib.hid hx
      have Hgd := Lib.hid hgd
      have Hnn := Lib.hid hnn
      have Hsrc := Lib.hid hsrc
      have Hfi := Lib.hid hfi
      have Hon := Lib.hid hon
      have Hstk := Lib.hid hstk
      have Hxs := Lib.hid hxs
      have Hgs := Lib.hid hgs
      have Hk := Lib.hid hk
      clear hg hx hgd hnn hsrc hfi hon hstk hxs hgs hk
      clear hcl
      go_upto_region 9 with fail
      refine wp_region_tree (.take [0, 1, 2, 3, 4, 5, 6] (.one 7 (.take [8] (.one 9 .done)))) (Ext w1) _ (by kernel_rfl) (by kernel_rfl) rfl (Hx.out.drew) ?_
      intro ι _ f hf hs
      have HS := Lib.hid hs
      clear hf hs
      simp only [treeOf, oneOp, twoOp, opsOf, consOp, List.getElem?_toArray, List.getElem?_cons_succ, List.getElem?_cons_zero]
      refine wpOT_take ?_
      repeat (go_big_quiet_step (fail))
      refine wpQuiet_nil ?_
      refine wpOT_one ?_
      go_wp2_with (refine wpList_copy_rows rfl (.tmp 41) (.tmp 44) 92 92 rfl 33 8 Tryz.underlying92 (by kernel_rfl) g (n * 8) (60 - n) (60 - n) g 0 n 60 rfl rfl _ 33 Hgd.out (List.replicate k C).flatten Hnn.out Hsrc.out Hfi.out Hon.out ?_; rw [Hstk.out, Hk.out])
      refine ⟨HS.out _ Hxs.out, ?_⟩
      refine wpOT_take ?_
      repeat (go_big_quiet_step (fail))
      refine wpQuiet_nil ?_
      refine wpOT_one ?_
      go_wp2_with fail
      refine ⟨HS.out _ Hxs.out, ?_⟩
      refine wpOT_done ?_
      clear HS
      go_wp2_with fail
      go_roundw
      case rel => exact ⟨n + k, by go_num, by omega, by omega, Hxs.out, Hgs.out⟩
      case measure => simp [intOf]; omega
    · obtain rfl : n = 60 := by omega
      have hf := Hd8.out wr g hg
      have Hf := Lib.hid hf
      have Hx := Lib.hid hx
      clear hf hx
      clear hg
      go_wp2_with fail
      go_ret
      exact ⟨g, rfl, Hx.out, by rw [Hgw.out]; exact Nat.le_refl _, Hf.out⟩
end Go.Proofs.YtcoelhpmkhimpaaGreat

/- Contracts: whether a breed, an animal, days are valid (CheckBreed, CheckCamel, checkDays, check). -/
namespace Go.Proofs.YtcoelhpmkhimpaaGreat
open Go.RowKit
set_option linter.unusedVariables false
set_option linter.unusedSimpArgs false
theorem ordC6 {lo hi a0 a1 b0 b1 c0 c1 d0 d1 e0 e1 g0 g1 : Int} {r : Bool} {w : World} {b : Nat} (hb : w.heap[b]? = some (.cells #[.int .i64 a0, .int .i64 a1, .int .i64 b0, .int .i64 b1, .int .i64 c0, .int .i64 c1, .int .i64 d0, .int .i64 d1, .int .i64 e0, .int .i64 e1, .int .i64 g0, .int .i64 g1] 27 (0, 0)))
    (hr : (spanOk ⟨a0, a1⟩ lo hi && spanOk ⟨b0, b1⟩ lo hi && spanOk ⟨c0, c1⟩ lo hi && spanOk ⟨d0, d1⟩ lo hi && spanOk ⟨e0, e1⟩ lo hi && spanOk ⟨g0, g1⟩ lo hi) = r) : Calls Tryz.prog 91 #[.int .i64 lo, .int .i64 hi, .slice (some ⟨b, 0, none⟩) 6 6] w fun e w' => e = .returned (.bool r) ∧ Ext w w' := by
  have := ordC_any lo hi (some ⟨b, 0, none⟩) 6 6 [⟨a0, a1⟩, ⟨b0, b1⟩, ⟨c0, c1⟩, ⟨d0, d1⟩, ⟨e0, e1⟩, ⟨g0, g1⟩] w (spans_built (l := [⟨a0, a1⟩, ⟨b0, b1⟩, ⟨c0, c1⟩, ⟨d0, d1⟩, ⟨e0, e1⟩, ⟨g0, g1⟩]) hb) (by omega)
  subst hr
  simpa [Bool.and_assoc] using this
def breedErr (b : Breed) : Int := if breedOk b then 0 else 10
def camelErr (b : Breed) (c : Camel) : Int := if breedOk b then (if camelOk b c then 0 else 11) else 10
set_option maxHeartbeats 8000000 in
set_option maxRecDepth 100000 in
theorem checkBreed_any (s : Breed) (w : World) : Calls Tryz.prog 90 #[s.val] w fun e w' => e = .returned (.int .i64 (breedErr s)) ∧ Ext w w' := by
  obtain ⟨fu, fe, ⟨r0, r1⟩, ⟨h0, h1⟩, ⟨t0, t1⟩, ⟨b0, b1⟩, ⟨u0, u1⟩, ⟨m0, m1⟩, hl, ⟨s0, s1⟩⟩ := s
  obtain ⟨P1, e1⟩ : ∃ P, (inB fu 1 1000000 && inB fe 1 1000000) = P := ⟨_, rfl⟩
  obtain ⟨P2, e2⟩ : ∃ P, (spanOk ⟨r0, r1⟩ 0 100000 && spanOk ⟨h0, h1⟩ 0 100000 && spanOk ⟨t0, t1⟩ 0 100000 && spanOk ⟨b0, b1⟩ 0 100000 && spanOk ⟨u0, u1⟩ 0 100000 && spanOk ⟨m0, m1⟩ 0 100000) = P := ⟨_, rfl⟩
  obtain ⟨P3, e3⟩ : ∃ P, spanOk ⟨s0, s1⟩ 0 1000000 = P := ⟨_, rfl⟩
  obtain ⟨P4, e4⟩ : ∃ P, inB hl 0 1000 = P := ⟨_, rfl⟩
  have hv : breedErr ⟨fu, fe, ⟨r0, r1⟩, ⟨h0, h1⟩, ⟨t0, t1⟩, ⟨b0, b1⟩, ⟨u0, u1⟩, ⟨m0, m1⟩, hl, ⟨s0, s1⟩⟩ = if (P1 && P4 && P3 && P2) then 0 else 10 := by
    unfold breedErr breedOk rateOk
    simp only
    rw [e1, e2, e3, e4]
  rw [hv]
  clear hv
  unfold Breed.val
  simp only
  have hbx := heap_alloc_new w (.cells #[.int .i64 fu, .int .i64 fe, .int .i64 r0, .int .i64 r1, .int .i64 h0, .int .i64 h1, .int .i64 t0, .int .i64 t1, .int .i64 b0, .int .i64 b1, .int .i64 u0, .int .i64 u1, .int .i64 m0, .int .i64 m1, .int .i64 hl, .int .i64 s0, .int .i64 s1] 29)
  have hxa : Ext w (w.alloc (.cells #[.int .i64 fu, .int .i64 fe, .int .i64 r0, .int .i64 r1, .int .i64 h0, .int .i64 h1, .int .i64 t0, .int .i64 t1, .int .i64 b0, .int .i64 b1, .int .i64 u0, .int .i64 u1, .int .i64 m0, .int .i64 m1, .int .i64 hl, .int .i64 s0, .int .i64 s1] 29)) := (Ext.refl _).alloc _
  obtain ⟨f0, _⟩ := (Ext.refl _).box hbx
  have E1 := Lib.hid e1
  have E2 := Lib.hid e2
  have E3 := Lib.hid e3
  have E4 := Lib.hid e4
  clear e1 e2 e3 e4
  have gg1 := trivial
  have gg2 := trivial
  cases P1
  rotate_left
  cases P2
  rotate_left
  cases P3
  rotate_left
  cases P4
  all_goals
    simp only [Bool.and_false, Bool.false_and, Bool.and_true, Bool.true_and, if_true, Bool.false_eq_true, if_false]
    go_enter Tryz.func90, Tryz.ntmps90
    go_wp2_with (first | (go_at_call 92; first | (have q := gg1; clear q gg1; refine (fromC2 (alloc_at _ _ _ (by simp)) E1.out).mono ?_; rintro e w1 ⟨rfl, hx1⟩; replace hbx := hx1.heap (((Ext.refl _).alloc _).heap hbx); replace hxa := (hxa.alloc _).trans hx1; clear hx1 f0; obtain ⟨f0, _⟩ := (Ext.refl _).box hbx) | (refine (fromC1 (alloc_at _ _ _ (by simp)) E4.out).mono ?_; rintro e w1 ⟨rfl, hx1⟩; replace hxa := (hxa.alloc _).trans hx1)) | (go_at_call 91; first | (have q := gg2; clear q gg2; refine (ordC6 (alloc_at _ _ _ (by simp)) E2.out).mono ?_; rintro e w1 ⟨rfl, hx1⟩; replace hbx := hx1.heap (((Ext.refl _).alloc _).heap hbx); replace hxa := (hxa.alloc _).trans hx1; clear hx1 f0; obtain ⟨f0, _⟩ := (Ext.refl _).box hbx) | (refine (ordC1 (alloc_at _ _ _ (by simp)) E3.out).mono ?_; rintro e w1 ⟨rfl, hx1⟩; replace hbx := hx1.heap (((Ext.refl _).alloc _).heap hbx); replace hxa := (hxa.alloc _).trans hx1; clear hx1 f0; obtain ⟨f0, _⟩ := (Ext.refl _).box hbx)))
    go_ret
    exact ⟨rfl, hxa⟩
set_option maxHeartbeats 8000000 in
set_option maxRecDepth 100000 in
theorem checkCamel_any (s : Breed) (c : Camel) (w : World) : Calls Tryz.prog 63 #[s.val, c.val] w fun e w' => e = .returned (.int .i64 (camelErr s c)) ∧ Ext w w' := by
  have hcb := fun W => checkBreed_any s W
  have hce : camelErr s c = if breedOk s then (if camelOk s c then 0 else 11) else 10 := rfl
  have hbe : breedErr s = if breedOk s then 0 else 10 := rfl
  have hco : camelOk s c = (spanOk c.water 0 s.full && spanOk c.fat 0 s.fed && spanOk c.sore 0 1000) := rfl
  obtain ⟨B, hB⟩ : ∃ B, breedOk s = B := ⟨_, rfl⟩
  rw [hB] at hce hbe
  rw [hce]
  clear hce hB
  obtain ⟨fu, fe, ⟨r0, r1⟩, ⟨h0, h1⟩, ⟨t0, t1⟩, ⟨b0, b1⟩, ⟨u0, u1⟩, ⟨m0, m1⟩, hl, ⟨s0, s1⟩⟩ := s
  obtain ⟨⟨w0, w1⟩, ⟨k0, k1⟩, ⟨o0, o1⟩, mk⟩ := c
  simp only at hco
  unfold Breed.val at *
  unfold Camel.val
  simp only at *
  have hb1 := heap_alloc_new w (.cells #[.int .i64 fu, .int .i64 fe, .int .i64 r0, .int .i64 r1, .int .i64 h0, .int .i64 h1, .int .i64 t0, .int .i64 t1, .int .i64 b0, .int .i64 b1, .int .i64 u0, .int .i64 u1, .int .i64 m0, .int .i64 m1, .int .i64 hl, .int .i64 s0, .int .i64 s1] 29)
  have hb2 := heap_alloc_new (w.alloc (.cells #[.int .i64 fu, .int .i64 fe, .int .i64 r0, .int .i64 r1, .int .i64 h0, .int .i64 h1, .int .i64 t0, .int .i64 t1, .int .i64 b0, .int .i64 b1, .int .i64 u0, .int .i64 u1, .int .i64 m0, .int .i64 m1, .int .i64 hl, .int .i64 s0, .int .i64 s1] 29)) (.cells #[.int .i64 w0, .int .i64 w1, .int .i64 k0, .int .i64 k1, .int .i64 o0, .int .i64 o1, .bool mk] 31)
  have hb1' := ((Ext.refl _).alloc (.cells #[.int .i64 w0, .int .i64 w1, .int .i64 k0, .int .i64 k1, .int .i64 o0, .int .i64 o1, .bool mk] 31)).heap hb1
  have hxa : Ext w ((w.alloc (.cells #[.int .i64 fu, .int .i64 fe, .int .i64 r0, .int .i64 r1, .int .i64 h0, .int .i64 h1, .int .i64 t0, .int .i64 t1, .int .i64 b0, .int .i64 b1, .int .i64 u0, .int .i64 u1, .int .i64 m0, .int .i64 m1, .int .i64 hl, .int .i64 s0, .int .i64 s1] 29)).alloc (.cells #[.int .i64 w0, .int .i64 w1, .int .i64 k0, .int .i64 k1, .int .i64 o0, .int .i64 o1, .bool mk] 31)) := ((Ext.refl _).alloc _).alloc _
  rw [show (w.alloc (.cells #[.int .i64 fu, .int .i64 fe, .int .i64 r0, .int .i64 r1, .int .i64 h0, .int .i64 h1, .int .i64 t0, .int .i64 t1, .int .i64 b0, .int .i64 b1, .int .i64 u0, .int .i64 u1, .int .i64 m0, .int .i64 m1, .int .i64 hl, .int .i64 s0, .int .i64 s1] 29)).heap.size = w.heap.size + 1 by simp] at hb2
  obtain ⟨f0, _⟩ := (Ext.refl _).box hb1'
  obtain ⟨f1, _⟩ := (Ext.refl _).box hb2
  clear hb1
  have hb1 := hb1'
  clear hb1'
  obtain ⟨P1, e1⟩ : ∃ P, spanOk ⟨w0, w1⟩ 0 fu = P := ⟨_, rfl⟩
  obtain ⟨P2, e2⟩ : ∃ P, spanOk ⟨k0, k1⟩ 0 fe = P := ⟨_, rfl⟩
  obtain ⟨P3, e3⟩ : ∃ P, spanOk ⟨o0, o1⟩ 0 1000 = P := ⟨_, rfl⟩
  rw [e1, e2, e3] at hco
  rw [hco]
  clear hco
  rw [hbe] at hcb
  clear hbe
  have Hcb := Lib.hid hcb
  have E1 := Lib.hid e1
  have E2 := Lib.hid e2
  have E3 := Lib.hid e3
  clear hcb e1 e2 e3
  cases B
  · simp only [if_neg (by decide : ¬(false = true))] at Hcb ⊢
    go_enter Tryz.func63, Tryz.ntmps63
    go_wp2_with (go_at_call 90; refine (Hcb.out _).mono ?_; rintro e w9 ⟨rfl, hx1⟩; replace hxa := hxa.trans hx1)
    go_ret
    exact ⟨rfl, hxa⟩
  cases P1
  rotate_left
  cases P2
  rotate_left
  cases P3
  all_goals
    simp only [if_pos (rfl : true = true)] at Hcb ⊢
    go_enter Tryz.func63, Tryz.ntmps63
    go_wp2_with (first | (go_at_call 90; refine (Hcb.out _).mono ?_; rintro e w9 ⟨rfl, hx1⟩; replace hb1 := hx1.heap hb1; replace hb2 := hx1.heap hb2; replace hxa := hxa.trans hx1; clear hx1 f0 f1; obtain ⟨f0, _⟩ := (Ext.refl _).box hb1; obtain ⟨f1, _⟩ := (Ext.refl _).box hb2) | (go_at_call 91; refine (ordC1 (alloc_at _ _ _ (by simp)) (by first | exact E1.out | exact E2.out | exact E3.out)).mono ?_; rintro e w9 ⟨rfl, hx1⟩; replace hb1 := hx1.heap (((Ext.refl _).alloc _).heap hb1); replace hb2 := hx1.heap (((Ext.refl _).alloc _).heap hb2); replace hxa := (hxa.alloc _).trans hx1; clear hx1 f0 f1; obtain ⟨f0, _⟩ := (Ext.refl _).box hb1; obtain ⟨f1, _⟩ := (Ext.refl _).box hb2))
    go_ret
    exact ⟨rfl, hxa⟩
end Go.Proofs.YtcoelhpmkhimpaaGreat

/- Contracts: whether days are valid (checkDays, check). -/
namespace Go.Proofs.YtcoelhpmkhimpaaGreat
open Go.RowKit
set_option linter.unusedVariables false
set_option linter.unusedSimpArgs false
def daysErr (l : List March) : Int := if l.all dayOk then 0 else 12
theorem days_bad {l : List March} {k : Nat} {x : March} (h : l[k]? = some x) (hx : dayOk x = false) : daysErr l = 12 := by
  unfold daysErr
  rw [if_neg]
  intro e
  have := List.all_eq_true.1 e x (List.mem_of_getElem? h)
  rw [hx] at this
  cases this
theorem days_good {l : List March} {n : Nat} (hl : l.length = n) (h : ∀ (j : Nat) (y : March), j < n → l[j]? = some y → dayOk y = true) : daysErr l = 0 := by
  unfold daysErr
  rw [if_pos]
  rw [List.all_eq_true]
  intro x hx
  obtain ⟨j, hj⟩ := List.mem_iff_getElem?.1 hx
  exact h j x (by have := (List.getElem?_eq_some_iff.1 hj).1; omega) hj
set_option maxHeartbeats 8000000 in
set_option maxRecDepth 100000 in
theorem checkDays_any (a : Option Addr) (n cap : Nat) (l : List March) (w : World) (hl : DaysAt w a n l) (hn : n ≤ 1000000000) : Calls Tryz.prog 64 #[.slice a n cap] w fun e w' => e = .returned (.int .i64 (daysErr l)) ∧ Ext w w' := by
  have hbad := fun (k : Nat) (x : March) => @days_bad l k x
  have hgood := days_good hl.1
  obtain ⟨R, hR⟩ : ∃ R, daysErr l = R := ⟨_, rfl⟩
  rw [hR] at hbad hgood ⊢
  clear hR
  have Hl := Lib.hid hl
  have Hbad := Lib.hid hbad
  have Hgood := Lib.hid hgood
  clear hl hbad hgood
  go_enter Tryz.func64, Tryz.ntmps64
  go_wp2_with fail
  go_loopw [7] (fun i wr => ∃ k : Nat, k ≤ n ∧ i = .int .i64 k ∧ Ext w wr ∧ ∀ (j : Nat) (y : March), j < k → l[j]? = some y → dayOk y = true) (fun i _ => n - (intOf i).toNat)
  case atStart => exact ⟨0, Nat.zero_le _, rfl, Ext.refl _, fun j y h => by omega⟩
  case round =>
    obtain ⟨k, hk, rfl, hx, hall⟩ := hrel
    have Hall := Lib.hid hall
    clear hall
    by_cases hlt : k < n
    · obtain ⟨b, off, x, rfl, hxk, hb, c0, c1, c2, c3, c4, c5, c6, c7⟩ := (Hl.out.ext hx).get k hlt
      have hbd := Hbad.out k x hxk
      have hnext : dayOk x = true → ∀ (j : Nat) (y : March), j < k + 1 → l[j]? = some y → dayOk y = true := fun hd j y hj hy => by
        rcases Nat.lt_or_ge j k with h | h
        · exact Hall.out j y h hy
        · have e : j = k := by omega
          subst e
          rw [hxk] at hy
          cases hy
          exact hd
      obtain ⟨hh, ll, ⟨t0, t1⟩, ⟨g0, g1⟩, ⟨d0, d1⟩⟩ := x
      simp only at c0 c1 c2 c3 c4 c5 c6 c7
      obtain ⟨P1, e1⟩ : ∃ P, inB hh 0 24 = P := ⟨_, rfl⟩
      obtain ⟨P2, e2⟩ : ∃ P, inB ll 0 1000000 = P := ⟨_, rfl⟩
      obtain ⟨P3, e3⟩ : ∃ P, spanOk ⟨t0, t1⟩ 0 60 = P := ⟨_, rfl⟩
      obtain ⟨P4, e4⟩ : ∃ P, (spanOk ⟨g0, g1⟩ 0 1000000 && spanOk ⟨d0, d1⟩ 0 1000000) = P := ⟨_, rfl⟩
      have hv : dayOk ⟨hh, ll, ⟨t0, t1⟩, ⟨g0, g1⟩, ⟨d0, d1⟩⟩ = (P1 && P2 && P3 && P4) := by
        unfold dayOk
        simp only
        rw [e1, e2, e3, ← e4]
        simp only [Bool.and_assoc]
      rw [hv] at hbd hnext
      have hbx := heap_alloc_new wr (.cells #[.int .i64 hh, .int .i64 ll, .int .i64 t0, .int .i64 t1, .int .i64 g0, .int .i64 g1, .int .i64 d0, .int .i64 d1] 33)
      have hxa : Ext w (wr.alloc (.cells #[.int .i64 hh, .int .i64 ll, .int .i64 t0, .int .i64 t1, .int .i64 g0, .int .i64 g1, .int .i64 d0, .int .i64 d1] 33)) := hx.alloc _
      obtain ⟨f0, _⟩ := (Ext.refl _).box hbx
      have E1 := Lib.hid e1
      have E2 := Lib.hid e2
      have E3 := Lib.hid e3
      have E4 := Lib.hid e4
      have Hbd := Lib.hid hbd
      have Hnext := Lib.hid hnext
      clear e1 e2 e3 e4 hbd hnext
      clear hxk hv hx
      have gg1 := trivial
      cases P1
      rotate_left
      cases P2
      rotate_left
      cases P3
      rotate_left
      cases P4
      rotate_left
      · have hnx := Hnext.out rfl
        have Hnx := Lib.hid hnx
        clear hnx
        go_wp2_with (first | (go_at_call 92; refine (fromC1 (alloc_at _ _ _ (by simp)) (by first | exact E1.out | exact E2.out)).mono ?_; rintro e w1 ⟨rfl, hx1⟩; replace hbx := hx1.heap (((Ext.refl _).alloc _).heap hbx); replace hxa := (hxa.alloc _).trans hx1; clear hx1 f0; obtain ⟨f0, _⟩ := (Ext.refl _).box hbx) | (go_at_call 91; first | (have q := gg1; clear q gg1; refine (ordC1 (alloc_at _ _ _ (by simp)) E3.out).mono ?_; rintro e w1 ⟨rfl, hx1⟩; replace hbx := hx1.heap (((Ext.refl _).alloc _).heap hbx); replace hxa := (hxa.alloc _).trans hx1; clear hx1 f0; obtain ⟨f0, _⟩ := (Ext.refl _).box hbx) | (refine (ordC2 (alloc_at _ _ _ (by simp)) E4.out).mono ?_; rintro e w1 ⟨rfl, hx1⟩; replace hbx := hx1.heap (((Ext.refl _).alloc _).heap hbx); replace hxa := (hxa.alloc _).trans hx1; clear hx1 f0; obtain ⟨f0, _⟩ := (Ext.refl _).box hbx)))
        go_roundw
        case rel => exact ⟨k + 1, by omega, by go_num, hxa, Hnx.out⟩
        case measure => simp [intOf]; omega
      all_goals
        have hR := Hbd.out rfl
        subst hR
        go_wp2_with (first | (go_at_call 92; refine (fromC1 (alloc_at _ _ _ (by simp)) (by first | exact E1.out | exact E2.out)).mono ?_; rintro e w1 ⟨rfl, hx1⟩; replace hbx := hx1.heap (((Ext.refl _).alloc _).heap hbx); replace hxa := (hxa.alloc _).trans hx1; clear hx1 f0; obtain ⟨f0, _⟩ := (Ext.refl _).box hbx) | (go_at_call 91; first | (have q := gg1; clear q gg1; refine (ordC1 (alloc_at _ _ _ (by simp)) E3.out).mono ?_; rintro e w1 ⟨rfl, hx1⟩; replace hbx := hx1.heap (((Ext.refl _).alloc _).heap hbx); replace hxa := (hxa.alloc _).trans hx1; clear hx1 f0; obtain ⟨f0, _⟩ := (Ext.refl _).box hbx) | (refine (ordC2 (alloc_at _ _ _ (by simp)) E4.out).mono ?_; rintro e w1 ⟨rfl, hx1⟩; replace hbx := hx1.heap (((Ext.refl _).alloc _).heap hbx); replace hxa := (hxa.alloc _).trans hx1; clear hx1 f0; obtain ⟨f0, _⟩ := (Ext.refl _).box hbx)))
        go_ret
        exact ⟨rfl, hxa⟩
    · have hR := Hgood.out (fun j y hj hy => Hall.out j y (by omega) hy)
      subst hR
      go_wp2_with fail
      go_ret
      exact ⟨rfl, hx⟩
/-- the error of an animal and of days -/
def askDays (b : Breed) (c : Camel) (l : List March) : Int := if camelErr b c ≠ 0 then camelErr b c else if 60 < l.length then 4 else daysErr l
set_option maxHeartbeats 4000000 in
set_option maxRecDepth 100000 in
theorem check_any (s : Breed) (c : Camel) (a : Option Addr) (n cap : Nat) (l : List March) (w : World) (hl : DaysAt w a n l) (hn : n ≤ 1000000000) : Calls Tryz.prog 39 #[s.val, c.val, .slice a n cap] w fun e w' => e = .returned (.int .i64 (askDays s c l)) ∧ Ext w w' := by
  have hcc := fun W => checkCamel_any s c W
  have hcd := fun W (hW : Ext w W) => checkDays_any a n cap l W (hl.ext hW) hn
  have hv : askDays s c l = if camelErr s c ≠ 0 then camelErr s c else if 60 < n then 4 else daysErr l := by unfold askDays; rw [hl.1]
  rw [hv]
  clear hv hl
  obtain ⟨K, hK⟩ : ∃ K, camelErr s c = K := ⟨_, rfl⟩
  obtain ⟨D, hD⟩ : ∃ D, daysErr l = D := ⟨_, rfl⟩
  rw [hK] at hcc ⊢
  rw [hD] at hcd ⊢
  clear hK hD
  obtain ⟨fu, fe, ⟨r0, r1⟩, ⟨h0, h1⟩, ⟨t0, t1⟩, ⟨b0, b1⟩, ⟨u0, u1⟩, ⟨m0, m1⟩, hl, ⟨s0, s1⟩⟩ := s
  obtain ⟨⟨w0, w1⟩, ⟨k0, k1⟩, ⟨o0, o1⟩, mk⟩ := c
  unfold Breed.val Camel.val at *
  simp only at *
  have Hcc := Lib.hid hcc
  have Hcd := Lib.hid hcd
  clear hcc hcd
  by_cases hk : K = 0
  · subst hk
    rw [if_neg (by simp)]
    by_cases h60 : 60 < n
    · rw [if_pos h60]
      have h60B : decide ((60 : Int) < (n : Int)) = true := decide_eq_true (by omega)
      have h60B' : decide (60 < n) = true := decide_eq_true h60
      go_enter Tryz.func39, Tryz.ntmps39
      go_wp2_with (go_at_call 63; refine (Hcc.out _).mono ?_; rintro e w9 ⟨rfl, hx1⟩)
      go_ret
      exact ⟨rfl, (((Ext.refl _).alloc _).alloc _).trans hx1⟩
    · rw [if_neg h60]
      have h60B : decide ((60 : Int) < (n : Int)) = false := decide_eq_false (by omega)
      have h60B' : decide (60 < n) = false := decide_eq_false h60
      go_enter Tryz.func39, Tryz.ntmps39
      go_wp2_with (first | (go_at_call 63; refine (Hcc.out _).mono ?_; rintro e w9 ⟨rfl, hx1⟩) | (go_at_call 64; refine (Hcd.out _ ((((Ext.refl _).alloc _).alloc _).trans hx1)).mono ?_; rintro e w8 ⟨rfl, hx2⟩))
      go_ret
      exact ⟨rfl, ((((Ext.refl _).alloc _).alloc _).trans hx1).trans hx2⟩
  · rw [if_pos hk]
    have hkB : (K != 0) = true := by simpa using hk
    go_enter Tryz.func39, Tryz.ntmps39
    go_wp2_with (go_at_call 63; refine (Hcc.out _).mono ?_; rintro e w9 ⟨rfl, hx1⟩)
    go_ret
    exact ⟨rfl, (((Ext.refl _).alloc _).alloc _).trans hx1⟩
end Go.Proofs.YtcoelhpmkhimpaaGreat
