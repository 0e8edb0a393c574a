/- Contract: slices.Repeat of one day, sixty times. -/
import Derived.Test.YtcoelhpmkhimpaaGreatDoorRowsIn
import Derived.Test.YtcoelhpmkhimpaaGreatDoorRepM
import Derived.Laws.CopyRow
namespace Go.Proofs.YtcoelhpmkhimpaaGreatDoor
open Go.RowKit
set_option linter.unusedVariables false
set_option linter.unusedSimpArgs false
/-- copy within blocks that are known whole -/
theorem run_copy_rows {P : Program} (w : World) (dT sT ty elem : TypeId) (sz g off dLen dCap sg soff sLen sCap : Nat) (cur : Array Value) (t : TypeId) (cs : List Value)
    (hu : P.underlying dT = some (.slice elem)) (hs : (P.info? elem).map (·.size) = some sz) (hg : w.heap[g]? = some (.cells cur t (0, 0))) (hn : cs.length = Nat.min sLen dLen * sz)
    (hsrc : ∀ j v, cs[j]? = some v → w.cell? ⟨sg, soff + j, none⟩ = some v) (hfit : off + cs.length ≤ cur.size) (h1 : ∀ v ∈ cs, v.oneCell' = true) :
    (Builtin.copy_ #[dT, sT] ty #[.slice (some ⟨g, off, none⟩) dLen dCap, .slice (some ⟨sg, soff, none⟩) sLen sCap]).run P w =
      .ok (goInt (Nat.min sLen dLen : Nat)) (w.setRow g (cur.toList.take off ++ cs ++ cur.toList.drop (off + cs.length)).toArray) := by
  have hl := run_loadCells_list (P := P) w ⟨sg, soff, none⟩ cs (fun j v hv => by rw [addr_add']; exact hsrc j v hv)
  have hst := run_storeCells_at P g off t cs 0 cur w hg (by simpa using hfit) h1
  cases hq : P.info? elem with
  | none => simp [hq] at hs
  | some i =>
    have hi : i.size = sz := by simpa [hq] using hs
    simp [Builtin.copy_, run_underlying hu, Builtin.lenOf, Builtin.firstCells, sizeOf, typeInfo, hq, hi, ← hn, hl, hst]
theorem wpList_copy_rows {P : Program} {w : World} {ops : Array Oper} {rest : List Oper} {o : Oper} {a : Act} {Q : Exit → Act → World → Prop} (hgd : o.guard = none) (d s : Operand) (dT sT : TypeId)
    (ho : o.op = .call { callee := .builtin .copy, args := #[d, s], argTypes := #[dT, sT] }) (elem : TypeId) (sz : Nat) (hu : P.underlying dT = some (.slice elem)) (hsz : (P.info? elem).map (·.size) = some sz)
    (g off dLen dCap sg soff sLen sCap : Nat) (hd : a.eval d = .slice (some ⟨g, off, none⟩) dLen dCap) (hs : a.eval s = .slice (some ⟨sg, soff, none⟩) sLen sCap)
    (cur : Array Value) (t : TypeId) (hg : w.heap[g]? = some (.cells cur t (0, 0))) (cs : List Value) (hn : cs.length = Nat.min sLen dLen * sz)
    (hsrc : ∀ j v, cs[j]? = some v → w.cell? ⟨sg, soff + j, none⟩ = some v) (hfit : off + cs.length ≤ cur.size) (h1 : ∀ v ∈ cs, v.oneCell' = true)
    (h : wpList P ops Q rest (a.put o.dst (.int .i64 (Nat.min sLen dLen : Nat))) (w.setRow g (cur.toList.take off ++ cs ++ cur.toList.drop (off + cs.length)).toArray)) : wpList P ops Q (o :: rest) a w := by
  refine wpList_plain hgd fun K hK => ?_
  have hrun := run_copy_rows (P := P) w dT sT o.type elem sz g off dLen dCap sg soff sLen sCap cur t cs hu hsz hg hn hsrc hfit h1
  unfold Oper.wp
  simp only [execOp, ho, resolve, invoke, builtin, List.map_toArray, List.map_cons, List.map_nil, hd, hs, hrun, Sem.run_bind, Sem.run_pure, Result.andThen_ok]
  exact hK _ _ h
/-- n rows c, then zeros up to t rows -/
def repCells (c z : List Value) (n t : Nat) : List Value := (List.replicate n c ++ List.replicate (t - n) z).flatten
theorem flat_len {c : List Value} {k : Nat} : ∀ n, c.length = k → (List.replicate n c).flatten.length = n * k
  | 0, _ => by simp
  | n + 1, h => by rw [List.replicate_succ, List.flatten_cons, List.length_append, flat_len n h, h, Nat.add_mul]; omega
theorem flat_add (c : List Value) (n k : Nat) : (List.replicate (n + k) c).flatten = (List.replicate n c).flatten ++ (List.replicate k c).flatten := by
  rw [← List.replicate_append_replicate, List.flatten_append]
theorem repCells_len {c z : List Value} {k n t : Nat} (hc : c.length = k) (hz : z.length = k) (hn : n ≤ t) : (repCells c z n t).length = t * k := by
  unfold repCells
  rw [List.flatten_append, List.length_append, flat_len n hc, flat_len _ hz, ← Nat.add_mul]
  congr 1
  omega
theorem repCells_get {c z : List Value} {k n t i j : Nat} (hc : c.length = k) (hi : i < n) (hj : j < k) : (repCells c z n t)[i * k + j]? = c[j]? := by
  unfold repCells
  rw [List.flatten_append, List.getElem?_append_left (by rw [flat_len n hc]; have : (i + 1) * k ≤ n * k := Nat.mul_le_mul_right _ hi; rw [Nat.add_mul] at this; omega)]
  obtain ⟨r, hr⟩ : ∃ r, n = i + (1 + r) := ⟨n - i - 1, by omega⟩
  subst hr
  rw [flat_add, List.getElem?_append_right (by rw [flat_len i hc]; omega), flat_len i hc, flat_add, List.getElem?_append_left (by rw [flat_len 1 hc]; omega)]
  rw [show i * k + j - i * k = j by omega]
  simp
theorem repCells_step {c z : List Value} {k n m t : Nat} (hc : c.length = k) (hz : z.length = k) (h : n + m ≤ t) :
    (repCells c z n t).take (n * k) ++ (List.replicate m c).flatten ++ (repCells c z n t).drop (n * k + (List.replicate m c).flatten.length) = repCells c z (n + m) t := by
  unfold repCells
  obtain ⟨r, rfl⟩ : ∃ r, t = n + m + r := ⟨t - n - m, by omega⟩
  rw [show n + m + r - n = m + r by omega, show n + m + r - (n + m) = r by omega, List.flatten_append, List.flatten_append, flat_len m hc]
  rw [List.take_left' (flat_len n hc), flat_add z m r, ← List.append_assoc, List.drop_append_of_le_length (by rw [List.length_append, flat_len n hc, flat_len m hz]; exact Nat.le_refl _), List.drop_of_length_le (by rw [List.length_append, flat_len n hc, flat_len m hz]; exact Nat.le_refl _), flat_add c n m, List.nil_append]
theorem repCells_pre {c z : List Value} {k n r t j : Nat} {v : Value} (h : k ≤ n) (hj : (List.replicate k c).flatten[j]? = some v) : (repCells c z n t)[j]? = some v := by
  obtain ⟨r, rfl⟩ : ∃ r, n = k + r := ⟨n - k, by omega⟩
  unfold repCells
  rw [List.flatten_append, flat_add, List.append_assoc, List.getElem?_append_left (List.getElem?_eq_some_iff.1 hj).1]
  exact hj
theorem repCells_one {c z : List Value} {k n t : Nat} (hc : ∀ v ∈ c, v.oneCell' = true) (hz : ∀ v ∈ z, v.oneCell' = true) : ∀ v ∈ repCells c z n t, v.oneCell' = true := fun v hv => by
  unfold repCells at hv
  obtain ⟨r, hr, hvr⟩ := List.mem_flatten.1 hv
  rcases List.mem_append.1 hr with h | h
  · rw [(List.mem_replicate.1 h).2] at hvr
    exact hc v hvr
  · rw [(List.mem_replicate.1 h).2] at hvr
    exact hz v hvr
def z8 : List Value := [.int .i64 0, .int .i64 0, .int .i64 0, .int .i64 0, .int .i64 0, .int .i64 0, .int .i64 0, .int .i64 0]
def oDays : Obj := .cells (repCells z8 z8 0 60).toArray 54 (0, 0)
theorem mk48 : ∀ w, (Instr.makeSlice 55 (.int .i64 60) (.int .i64 60)).run Tryz.prog w = .ok (.slice (some ⟨w.heap.size, 0, none⟩) 60 60) (w.alloc oDays) := fun _ => by kernel_rfl
theorem days_built {w : World} {b : Nat} {m : March} {n : Nat} (hb : w.heap[b]? = some (.cells (repCells m.cells z8 n n).toArray 54 (0, 0))) : DaysAt w (some ⟨b, 0, none⟩) n (List.replicate n m) := by
  refine ⟨by simp, fun _ => ⟨b, 0, rfl, fun k hk j v hv => ?_⟩⟩
  have e : (List.replicate n m).getD k zday = m := by simp [List.getD, hk]
  simp only at hv
  rw [e] at hv
  have hj : j < 8 := by have := (List.getElem?_eq_some_iff.1 hv).1; simpa [March.cells] using this
  rw [cell_of_row w b _ _ 54 (0, 0) hb, Nat.zero_add, List.getElem?_toArray, repCells_get (k := 8) rfl hk hj]
  exact hv
end Go.Proofs.YtcoelhpmkhimpaaGreatDoor
