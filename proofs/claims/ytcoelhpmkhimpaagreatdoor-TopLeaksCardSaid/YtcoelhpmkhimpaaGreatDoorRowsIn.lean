/- Whole blocks loaded and stored, in a fenced walk. No function of the program is named here. -/
import Derived.Test.YtcoelhpmkhimpaaGreatDoorOwn
import Derived.Laws.CopyOwn
import Derived.Test.YtcoelhpmkhimpaaGreatDoorTreeIn
import Derived.Test.YtcoelhpmkhimpaaGreatDoorRngB
namespace Go.Proofs.YtcoelhpmkhimpaaGreatDoor
open Go.RowKit
set_option linter.unusedVariables false
section
variable {P : Program} {ops : Array Oper} {Q : Exit → Act → World → Prop} {n l : Nat}
theorem wpIn_wide_of_wp {o : Oper} (hd : noDefer o = true) {K : Act → World → Prop} {a : Act} {w : World} (h : o.wp P a w K Q) : o.wpIn Fence.wide n P a w K Q := by
  refine ⟨fun _ _ => trivial, ?_⟩
  rw [Oper.semAt_eq _ _ _ (noDefer_ne hd)]
  unfold Oper.wp at h
  generalize (execOp a.eval o).run P w = r at *
  cases r with
  | ok x w' =>
    cases x <;> simp only [Oper.upon, Oper.uponIn] at h ⊢ <;>
      first
        | exact h
        | exact ⟨(fun e => by cases e), (callsIn_wide (n := n - 1)).2 h⟩
        | exact ⟨(fun e => by cases e), fun c cs _ => let ⟨v, w', r, s⟩ := h c cs; ⟨v, w', r, stepsIn_wide.2 s⟩⟩
  | halt x w' => cases x <;> simp only [Oper.upon, Oper.uponIn] at h ⊢ <;> exact h
/-- some of a block's cells are read at once -/
theorem wp_load_part {o : Oper} {a : Act} {w : World} {K : Act → World → Prop} (ty : TypeId) (x : Operand) (ho : o.op = .load ty x)
    (g off : Nat) (hx : a.eval x = .pointer (some ⟨g, off, none⟩)) (t : TypeId) (cs : Array Value) (fr : Nat × Nat) (d : TypeDesc) (hg : w.heap[g]? = some (.cells cs t fr)) (part : List Value) (hpart : (cs.toList.drop off).take part.length = part)
    (hu : P.underlying ty = some d) (hd : (match d with | .struct _ | .array _ _ => true | _ => false) = true) (hi : (P.info? ty).map (·.size) = some part.length)
    (h : K (a.put o.dst (.agg part.toArray)) w) : o.wp P a w K Q := by
  have hl : (loadCells ⟨g, off, none⟩ part.length).run P w = .ok part.toArray w :=
    run_loadCells_list (P := P) w ⟨g, off, none⟩ part (fun j v hv => by
      have hadd : (⟨g, off, none⟩ : Addr).add j = ⟨g, off + j, none⟩ := addr_add' g off j
      rw [hadd, cell_of_row w g (off + j) cs t fr hg]
      rw [← hpart] at hv
      rw [List.getElem?_take] at hv
      split at hv
      · rw [List.getElem?_drop] at hv
        simpa using hv
      · cases hv)
  have hagg : (isAgg ty).run P w = .ok true w := by
    unfold isAgg
    rw [Sem.run_bind, run_underlying hu w]
    cases d <;> simp_all
  cases hq : P.info? ty with
  | none => simp [hq] at hi
  | some i =>
    have hs : i.size = part.length := by simpa [hq] using hi
    have hv : (loadVar ty ⟨g, off, none⟩).run P w = .ok (.agg part.toArray) w := by simp [loadVar, Sem.run_bind, hagg, sizeOf, typeInfo, hq, hs, hl]
    unfold Oper.wp execOp
    simp only [ho, hx, Instr.loadAt, Instr.sureAddr, Sem.run_bind, Sem.run_pure, Result.andThen_ok, hv]
    exact h
theorem noDefer_load {o : Oper} {ty : TypeId} {x : Operand} (ho : o.op = .load ty x) : noDefer o = true := by unfold noDefer; rw [ho]
theorem noDefer_store {o : Oper} {ty : TypeId} {x y : Operand} (ho : o.op = .store ty x y) : noDefer o = true := by unfold noDefer; rw [ho]
theorem wpListW_load_part {rest : List Oper} {o : Oper} {a : Act} {w : World} (hgd : o.guard = none) (ty : TypeId) (x : Operand) (ho : o.op = .load ty x)
    (g off : Nat) (hx : a.eval x = .pointer (some ⟨g, off, none⟩)) (t : TypeId) (cs : Array Value) (fr : Nat × Nat) (d : TypeDesc) (hg : w.heap[g]? = some (.cells cs t fr)) (part : List Value) (hpart : (cs.toList.drop off).take part.length = part)
    (hu : P.underlying ty = some d) (hd : (match d with | .struct _ | .array _ _ => true | _ => false) = true) (hi : (P.info? ty).map (·.size) = some part.length)
    (h : wpListIn Fence.wide n P ops Q rest (a.put o.dst (.agg part.toArray)) w) : wpListIn Fence.wide n P ops Q (o :: rest) a w :=
  wpListIn_plain hgd fun K hK => wpIn_wide_of_wp (noDefer_load ho) (wp_load_part ty x ho g off hx t cs fr d hg part hpart hu hd hi (hK _ _ h))
theorem wpListR_load_part {rest : List Oper} {o : Oper} {a : Act} {w : World} (hgd : o.guard = none) (ty : TypeId) (x : Operand) (ho : o.op = .load ty x)
    (g off : Nat) (hx : a.eval x = .pointer (some ⟨g, off, none⟩)) (t : TypeId) (cs : Array Value) (fr : Nat × Nat) (d : TypeDesc) (hg : w.heap[g]? = some (.cells cs t fr)) (part : List Value) (hpart : (cs.toList.drop off).take part.length = part)
    (hu : P.underlying ty = some d) (hd : (match d with | .struct _ | .array _ _ => true | _ => false) = true) (hi : (P.info? ty).map (·.size) = some part.length)
    (h : wpListIn (Fence.wide.inRound l) 0 P ops Q rest (a.put o.dst (.agg part.toArray)) w) : wpListIn (Fence.wide.inRound l) 0 P ops Q (o :: rest) a w :=
  wpListIn_plain hgd fun K hK => wpIn_of_wp (noDefer_load ho) (wp_load_part ty x ho g off hx t cs fr d hg part hpart hu hd hi (hK _ _ h))
theorem wpListW_store_row {rest : List Oper} {o : Oper} {a : Act} {w : World} (hgd : o.guard = none) (ty : TypeId) (x y : Operand) (ho : o.op = .store ty x y)
    (g : Nat) (cells : Array Value) (hx : a.eval x = .pointer (some ⟨g, 0, none⟩)) (hy : a.eval y = .agg cells)
    (t : TypeId) (old : Array Value) (hg : w.heap[g]? = some (.cells old t (0, 0))) (hi : (P.info? ty).map (·.size) = some cells.size)
    (hold : old.size = cells.size) (h1 : cells.all (·.oneCell') = true)
    (h : wpListIn Fence.wide n P ops Q rest (a.put o.dst undef) (w.setRow g cells)) : wpListIn Fence.wide n P ops Q (o :: rest) a w :=
  wpListIn_plain hgd fun K hK => wpIn_wide_of_wp (noDefer_store ho) (wp_store_row ty x y ho g cells hx hy t old hg hi hold h1 (hK _ _ h))
theorem wpListR_store_row {rest : List Oper} {o : Oper} {a : Act} {w : World} (hgd : o.guard = none) (ty : TypeId) (x y : Operand) (ho : o.op = .store ty x y)
    (g : Nat) (cells : Array Value) (hx : a.eval x = .pointer (some ⟨g, 0, none⟩)) (hy : a.eval y = .agg cells)
    (t : TypeId) (old : Array Value) (hg : w.heap[g]? = some (.cells old t (0, 0))) (hi : (P.info? ty).map (·.size) = some cells.size)
    (hold : old.size = cells.size) (h1 : cells.all (·.oneCell') = true)
    (h : wpListIn (Fence.wide.inRound l) 0 P ops Q rest (a.put o.dst undef) (w.setRow g cells)) : wpListIn (Fence.wide.inRound l) 0 P ops Q (o :: rest) a w :=
  wpListIn_plain hgd fun K hK => wpIn_of_wp (noDefer_store ho) (wp_store_row ty x y ho g cells hx hy t old hg hi hold h1 (hK _ _ h))
end
end Go.Proofs.YtcoelhpmkhimpaaGreatDoor
