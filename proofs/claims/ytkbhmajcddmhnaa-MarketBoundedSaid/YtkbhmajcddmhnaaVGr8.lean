/- What an iterator may change while it runs: cells of its own, and new blocks. -/
import Derived.Test.YtkbhmajcddmhnaaVRd
import Derived.RangeFuncLeaves
import Derived.RangeFuncOwn
import Derived.RangeFuncRecord
import Derived.Test.YtkbhmajcddmhnaaVGr5
import Derived.RangeFuncSeq
import Derived.Test.YtkbhmajcddmhnaaVGr6
import Derived.Test.YtkbhmajcddmhnaaVRoad
import Derived.Test.YtkbhmajcddmhnaaVGr12
import Derived.Test.YtkbhmajcddmhnaaVGr3
namespace Go.Proofs.Ytkbhmajcddmhnaa
open Go.RowKit
set_option linter.unusedVariables false
set_option linter.unusedSimpArgs false

/-- cells: block, index -/
abbrev CellSet := Nat → Nat → Prop
/-- W' follows on W: of what lay in W, cells of O alone may have changed (a block that holds no cells: where its index 0 is in O) -/
structure Priv (O : CellSet) (W W' : World) : Prop where
  os : W'.os = W.os
  tape : W'.tape = W.tape
  output : W'.output = W.output
  size : W.heap.size ≤ W'.heap.size
  cells : ∀ b cur t fz, W.heap[b]? = some (.cells cur t fz) → ∃ cur', W'.heap[b]? = some (.cells cur' t fz) ∧ cur'.size = cur.size ∧ ∀ j, ¬O b j → cur'[j]? = cur[j]?
  others : ∀ b o, W.heap[b]? = some o → o.isCells = false → ¬O b 0 → W'.heap[b]? = some o
section
variable {O O' : CellSet} {W W' W'' : World}
theorem Priv.refl (O : CellSet) (W : World) : Priv O W W := ⟨rfl, rfl, rfl, Nat.le_refl _, fun b cur t fz h => ⟨cur, h, rfl, fun _ _ => rfl⟩, fun _ _ h _ _ => h⟩
theorem Priv.mono (h : Priv O W W') (hO : ∀ b j, O b j → O' b j) : Priv O' W W' :=
  ⟨h.os, h.tape, h.output, h.size, fun b cur t fz hb => let ⟨c, h1, h2, h3⟩ := h.cells b cur t fz hb; ⟨c, h1, h2, fun j hj => h3 j fun e => hj (hO _ _ e)⟩, fun b o hb ho hn => h.others b o hb ho fun e => hn (hO _ _ e)⟩
/-- O grows by cells of new blocks alone -/
def Grew (O O' : CellSet) (W W' : World) : Prop := (∀ b j, O b j → O' b j) ∧ ∀ b j, O' b j → O b j ∨ (W.heap.size ≤ b ∧ b < W'.heap.size)
theorem Priv.trans (h : Priv O W W') (k : Priv O' W' W'') (hO : ∀ b j, O' b j → O b j ∨ W.heap.size ≤ b) : Priv O W W'' := by
  refine ⟨k.os.trans h.os, k.tape.trans h.tape, k.output.trans h.output, Nat.le_trans h.size k.size, fun b cur t fz hb => ?_, fun b o hb ho hn => ?_⟩
  · obtain ⟨c1, a1, a2, a3⟩ := h.cells b cur t fz hb
    obtain ⟨c2, b1, b2, b3⟩ := k.cells b c1 t fz a1
    refine ⟨c2, b1, b2.trans a2, fun j hj => (b3 j fun e => ?_).trans (a3 j hj)⟩
    rcases hO b j e with h1 | h1
    · exact hj h1
    · have := heap_lt hb; omega
  · refine k.others b o (h.others b o hb ho hn) ho fun e => ?_
    rcases hO b 0 e with h1 | h1
    · exact hn h1
    · have := heap_lt hb; omega
theorem Grew.refl (O : CellSet) (W : World) : Grew O O W W := ⟨fun _ _ h => h, fun _ _ h => .inl h⟩
theorem Grew.same (O : CellSet) (W W' : World) : Grew O O W W' := ⟨fun _ _ h => h, fun _ _ h => .inl h⟩
theorem Grew.trans {O'' : CellSet} (h : Grew O O' W W') (k : Grew O' O'' W' W'') (h1 : W.heap.size ≤ W'.heap.size) (h2 : W'.heap.size ≤ W''.heap.size) : Grew O O'' W W'' :=
  ⟨fun b j e => k.1 b j (h.1 b j e), fun b j e => by
    rcases k.2 b j e with e1 | e1
    · rcases h.2 b j e1 with e2 | e2
      · exact .inl e2
      · right; omega
    · right; omega⟩
theorem Priv.step (h : Priv O W W') (k : Priv O' W' W'') (g : Grew O O' W W') : Priv O W W'' := h.trans k fun b j e => (g.2 b j e).imp id (·.1)
/-- blocks none of whose cells are in O lie as they lay -/
theorem Priv.block (h : Priv O W W') {b : Nat} {o : Obj} (hb : W.heap[b]? = some o) (hO : ∀ j, ¬O b j) : W'.heap[b]? = some o := by
  cases hc : o.isCells with
  | false => exact h.others b o hb hc (hO 0)
  | true =>
    cases o with
    | cells cur t fz =>
      obtain ⟨c, h1, h2, h3⟩ := h.cells b cur t fz hb
      rw [h1, show c = cur from Array.ext_getElem? fun j => h3 j (hO j)]
    | _ => simp [Obj.isCells] at hc
theorem Priv.ext (e : Ext W W') : Priv O W W' :=
  ⟨e.os, e.tape, e.output, e.size, fun b cur t fz hb => ⟨cur, e.heap hb, rfl, fun _ _ => rfl⟩, fun b o hb _ _ => e.heap hb⟩
theorem Priv.cell (h : Priv O W W') {b j : Nat} {v : Value} (hv : W.cell? ⟨b, j, none⟩ = some v) (hO : ¬O b j) : W'.cell? ⟨b, j, none⟩ = some v := by
  unfold World.cell? at hv ⊢
  simp only at hv ⊢
  split at hv
  · rename_i c t fz hb
    obtain ⟨c', h1, h2, h3⟩ := h.cells b c t fz hb
    rw [h1]
    simp only [Option.isSome_none, Bool.false_eq_true, if_false] at hv ⊢
    rw [h3 j hO, hv]
  · cases hv
/-- one block may have changed, and O has its cells -/
theorem Priv.putObj {b : Nat} {o : Obj} (o' : Obj) (hb : W.heap[b]? = some o) (hc : o.isCells = false) (hO : O b 0) : Priv O W (W.putObj b o') := by
  refine ⟨rfl, rfl, rfl, by simp, fun k cur t fz hk => ⟨cur, ?_, rfl, fun _ _ => rfl⟩, fun k o2 hk _ hn => ?_⟩
  · rw [World.putObj_heap_other (fun e => ?_)]; exact hk
    subst e
    rw [hb] at hk
    cases hk
    simp [Obj.isCells] at hc
  · rw [World.putObj_heap_other (fun e => ?_)]; exact hk
    subst e
    exact hn hO
theorem Priv.setCell {b i : Nat} (v : Value) (hO : O b i) : Priv O W (W.setCell ⟨b, i, none⟩ v) := by
  refine ⟨rfl, rfl, rfl, by simp [World.setCell], fun k cur t fz hk => ?_, fun k o2 hk hc hn => ?_⟩
  · by_cases e : k = b
    · subst e
      refine ⟨cur.setIfInBounds i v, by rw [heap_setCell_box, hk]; rfl, by simp, fun j hj => ?_⟩
      rw [Array.getElem?_setIfInBounds_ne (fun e => hj (by rw [← e]; exact hO))]
    · exact ⟨cur, (Below.heap_setCell _ _ _ _ e).trans hk, rfl, fun _ _ => rfl⟩
  · by_cases e : k = b
    · subst e
      rw [heap_setCell_box, hk]
      cases o2 <;> first | rfl | (simp [Obj.isCells] at hc)
    · exact (Below.heap_setCell _ _ _ _ e).trans hk
/-- the consumer leaves O's blocks -/
def Kept (O : CellSet) (W W' : World) : Prop := W.heap.size ≤ W'.heap.size ∧ ∀ b o, (∃ j, O b j) → W.heap[b]? = some o → W'.heap[b]? = some o
theorem Kept.refl (O : CellSet) (W : World) : Kept O W W := ⟨Nat.le_refl _, fun _ _ _ h => h⟩
theorem Kept.trans (h : Kept O W W') (k : Kept O W' W'') : Kept O W W'' := ⟨Nat.le_trans h.1 k.1, fun b o hj hb => k.2 b o hj (h.2 b o hj hb)⟩
theorem Kept.mono (h : Kept O W W') (hO : ∀ b j, O' b j → O b j) : Kept O' W W' := ⟨h.1, fun b o ⟨j, hj⟩ hb => h.2 b o ⟨j, hO b j hj⟩ hb⟩
theorem Kept.ext (e : Ext W W') : Kept O W W' := ⟨e.size, fun b o _ hb => e.heap hb⟩
theorem IntsAt.cells {k : IntKind} {a : Option Addr} {n : Nat} {l : List Int} (h : IntsAt k W a n l) (hc : ∀ b off, a = some ⟨b, off, none⟩ → ∀ i, i < n → ∀ v, W.cell? ⟨b, off + i, none⟩ = some v → W'.cell? ⟨b, off + i, none⟩ = some v) : IntsAt k W' a n l :=
  ⟨h.1, fun hn => by
    obtain ⟨b, off, ha, hk⟩ := h.2 hn
    refine ⟨b, off, ha, fun i hi j v hj => ?_⟩
    have h1 := hk i hi j v hj
    cases j with
    | zero =>
      rw [Nat.mul_one] at h1 ⊢
      exact hc b off ha i hi v h1
    | succ j => simp at hj⟩
/-- read, and every cell of it in P -/
def IntsIn (P : CellSet) (W : World) (a : Option Addr) (n : Nat) (l : List Int) : Prop := IntsAt .i64 W a n l ∧ ∀ b off s, a = some ⟨b, off, s⟩ → ∀ i, i < n → P b (off + i)
theorem IntsIn.priv {P : CellSet} {a : Option Addr} {n : Nat} {l : List Int} (h : IntsIn P W a n l) (k : Priv O W W') (hd : ∀ b j, P b j → ¬O b j) : IntsIn P W' a n l :=
  ⟨IntsAt.cells h.1 fun b off ha i hi v hv => k.cell hv (hd _ _ (h.2 b off none ha i hi)), h.2⟩
end
end Go.Proofs.Ytkbhmajcddmhnaa

/- The chain that an iterator lengthens: its spare cells are the iterator's. -/
namespace Go.Proofs.Ytkbhmajcddmhnaa
open Go.RowKit
set_option linter.unusedVariables false
set_option linter.unusedSimpArgs false

/-- v reads as ls; what lies behind it in its block is in O -/
def ChainAt (O : CellSet) (w : World) (v : Value) (ls : List Int) : Prop :=
  (v = .slice none 0 0 ∧ ls = []) ∨ ∃ g cap cur, v = .slice (some ⟨g, 0, none⟩) ls.length cap ∧ 0 < ls.length ∧ w.heap[g]? = some (.cells cur 3 (0, 0)) ∧ ls.length ≤ cap ∧ cap ≤ maxLen ∧ cur.size = cap ∧
    cur.toList.take ls.length = ls.map (Value.int .i64) ∧ ∀ j, ls.length ≤ j → O g j
section
variable {O O' : CellSet} {w w' : World} {v : Value} {ls : List Int}
theorem ChainAt.mono (h : ChainAt O w v ls) (hO : ∀ g, v.ownBlock = some g → ∀ j, ls.length ≤ j → O g j → O' g j) : ChainAt O' w v ls := by
  rcases h with h | ⟨g, cap, cur, rfl, h0, h1, h2, h3, h4, h5, h6⟩
  · exact .inl h
  · exact .inr ⟨g, cap, cur, rfl, h0, h1, h2, h3, h4, h5, fun j hj => hO g rfl j hj (h6 j hj)⟩
theorem take_cells {cur cur' : Array Value} {n : Nat} (h : ∀ j, j < n → cur'[j]? = cur[j]?) : cur'.toList.take n = cur.toList.take n := by
  refine List.ext_getElem? fun j => ?_
  rcases Nat.lt_or_ge j n with hj | hj
  · rw [List.getElem?_take_of_lt hj, List.getElem?_take_of_lt hj, Array.getElem?_toList, Array.getElem?_toList]
    exact h j hj
  · rw [List.getElem?_eq_none (by rw [List.length_take]; omega), List.getElem?_eq_none (by rw [List.length_take]; omega)]
theorem ChainAt.priv (h : ChainAt O w v ls) (k : Priv O' w w') (hd : ∀ g, v.ownBlock = some g → ∀ j, j < ls.length → ¬O' g j) : ChainAt O w' v ls := by
  rcases h with h | ⟨g, cap, cur, rfl, h0, h1, h2, h3, h4, h5, h6⟩
  · exact .inl h
  · obtain ⟨cur', a1, a2, a3⟩ := k.cells g cur 3 (0, 0) h1
    exact .inr ⟨g, cap, cur', rfl, h0, a1, h2, h3, a2.trans h4, (take_cells fun j hj => a3 j (hd g rfl j hj)).trans h5, h6⟩
theorem ChainAt.kept (h : ChainAt O w v ls) (k : Kept O' w w') (hd : ∀ g, v.ownBlock = some g → ∃ j, O' g j) : ChainAt O w' v ls := by
  rcases h with h | ⟨g, cap, cur, rfl, h0, h1, h2, h3, h4, h5, h6⟩
  · exact .inl h
  · exact .inr ⟨g, cap, cur, rfl, h0, k.2 g _ (hd g rfl) h1, h2, h3, h4, h5, h6⟩
theorem ChainAt.lt (h : ChainAt O w v ls) : ∀ g, v.ownBlock = some g → g < w.heap.size ∧ ∀ j, ls.length ≤ j → O g j := by
  rcases h with ⟨rfl, _⟩ | ⟨g, cap, cur, rfl, h0, h1, h2, h3, h4, h5, h6⟩
  · intro g hg; cases hg
  · intro g' hg'
    cases hg'
    exact ⟨heap_lt h1, h6⟩
theorem ChainAt.ints (h : ChainAt O w v ls) : ∃ a c, v = .slice a ls.length c ∧ ls.length ≤ c ∧ c ≤ maxLen ∧ IntsAt .i64 w a ls.length ls := by
  rcases h with ⟨rfl, rfl⟩ | ⟨g, cap, cur, rfl, h0, h1, h2, h3, h4, h5, h6⟩
  · exact ⟨none, 0, rfl, Nat.le_refl _, by unfold maxLen; omega, rfl, fun h => absurd h (by simp)⟩
  · refine ⟨_, _, rfl, h2, h3, rfl, fun _ => ⟨g, 0, rfl, fun k hk j u hu => ?_⟩⟩
    cases j with
    | succ j => simp at hu
    | zero =>
      rw [cell_of_row w g _ _ 3 (0, 0) h1]
      have : (cur.toList.take ls.length)[k]? = (ls.map (Value.int .i64))[k]? := by rw [h5]
      rw [List.getElem?_take_of_lt hk, Array.getElem?_toList, List.getElem?_map, List.getElem?_eq_getElem hk] at this
      simp at hu this ⊢
      rw [this, ← hu]
      simp [List.getD, List.getElem?_eq_getElem hk]
/-- one number more: in place, or in a new block -/
theorem ChainAt.app {P : Program} (ty : TypeId) (E : Elem P 24 3 1) (h : ChainAt O w v ls) (gs : Nat) (k : Int) (hs : w.cell? ⟨gs, 0, none⟩ = some (.int .i64 k)) (hl : ls.length ≤ 1000) :
    ∃ v' w', (Builtin.append_ #[24, 24] ty #[v, .slice (some ⟨gs, 0, none⟩) 1 1]).run P w = .ok v' w' ∧ Priv O w w' ∧
      ((v'.ownBlock = v.ownBlock ∧ w'.heap.size = w.heap.size ∧ ChainAt O w' v' (ls ++ [k])) ∨
       (v'.ownBlock = some w.heap.size ∧ Ext w w' ∧ ChainAt (fun b j => O b j ∨ b = w.heap.size) w' v' (ls ++ [k]))) := by
  obtain ⟨i, z, bytes, hi, hz, h1, h2, h3, h4⟩ := E.hi
  have hnews : ∀ j u, ([Value.int .i64 k] : List Value)[j]? = some u → w.cell? ((⟨gs, 0, none⟩ : Addr).add j) = some u := fun j u hu => by
    cases j with
    | zero => simp at hu; rw [← hu]; exact hs
    | succ j => simp at hu
  have one : ∀ u ∈ ([Value.int .i64 k] : List Value), u.oneCell' = true := fun u hu => by simp at hu; subst hu; rfl
  have hml : (ls.map (Value.int .i64)).length = ls.length := by simp
  have grown : ∀ (old : Nat), old < ls.length + 1 → ∀ xs : List Value, xs = ls.map (Value.int .i64) →
      ChainAt (fun b j => O b j ∨ b = w.heap.size) (w.drew.alloc (.cells (xs.toArray ++ [Value.int .i64 k].toArray ++ Builtin.zeroCells z.cells (grownCap w (ls.length + 1) old 3 - (ls.length + 1))) 3))
        (.slice (some ⟨w.heap.size, 0, none⟩) (ls.length + 1) (grownCap w (ls.length + 1) old 3)) (ls ++ [k]) := by
    rintro old ho xs rfl
    have hge := grownCap_ge w (ls.length + 1) old 3
    have hcm := grownCap_le_maxLen w (ls.length + 1) old 3 (by unfold maxLen; omega)
    refine .inr ⟨w.heap.size, _, _, by simp, by simp, heap_alloc_new w.drew _, by simpa using hge, hcm, ?_, ?_, fun j _ => .inr rfl⟩
    · simp only [Array.size_append, List.size_toArray, size_zeroCells, h3, hml, List.length_singleton]
      omega
    · simp only [Array.toList_append, List.append_assoc, List.map_append, List.map_cons, List.map_nil, List.length_append, List.length_singleton]
      rw [← List.append_assoc]
      exact List.take_left' (by simp)
  rcases h with ⟨rfl, rfl⟩ | ⟨g, cap, cur, rfl, a0, a1, a2, a3, a4, a5, a6⟩
  · have hr := run_append_nil (P := P) w 24 ty 3 i z E.ht hi hz ⟨gs, 0, none⟩ 1 1 [.int .i64 k] (by simp [h1]) hnews (by omega) (by omega) (by rw [h2]; omega)
    have hg := grown 0 (by omega) [] rfl
    simp only [List.length_nil, Nat.zero_add, Array.empty_append] at hg
    refine ⟨_, _, hr, Priv.ext ((Ext.refl w).drew.alloc _), .inr ⟨rfl, (Ext.refl w).drew.alloc _, ?_⟩⟩
    simpa using hg
  · by_cases hroom : ls.length + 1 ≤ cap
    · have hr := run_append_room (P := P) w 24 ty 3 i E.ht hi g ls.length cap cur a1 ⟨gs, 0, none⟩ 1 1 [.int .i64 k] (by simp [h1]) hnews one hroom (by simp [h1]; omega)
      rw [h1, Nat.mul_one] at hr
      refine ⟨_, _, hr, ?_, .inl ⟨rfl, by simp [World.setRow], .inr ⟨g, cap, _, by simp, by simp, setRow_heap w g cur _ 3 _ a1, by simpa using hroom, a3, ?_, ?_, fun j hj => a6 j (by simp at hj; omega)⟩⟩⟩
      · refine ⟨rfl, rfl, rfl, by simp [World.setRow], fun b c t fz hb => ?_, fun b o hb hc _ => ?_⟩
        · by_cases e : b = g
          · subst e
            rw [a1] at hb
            cases hb
            refine ⟨_, setRow_heap w b cur _ 3 _ a1, by simp; omega, fun j hj => ?_⟩
            have hjl : j < ls.length := by
              rcases Nat.lt_or_ge j ls.length with h | h
              · exact h
              · exact absurd (a6 j h) hj
            rw [List.getElem?_toArray, List.append_assoc, List.getElem?_append_left (by simp; omega), List.getElem?_take_of_lt hjl, Array.getElem?_toList]
          · exact ⟨c, (setRow_other w g b _ e).trans hb, rfl, fun _ _ => rfl⟩
        · by_cases e : b = g
          · subst e
            rw [a1] at hb
            cases hb
            cases hc
          · exact (setRow_other w g b _ e).trans hb
      · simp; omega
      · rw [a5, List.map_append, List.map_cons, List.map_nil]
        exact List.take_left' (by simp)
    · have holds : ∀ j u, (ls.map (Value.int .i64))[j]? = some u → w.cell? ((⟨g, 0, none⟩ : Addr).add j) = some u := fun j u hu => by
        have hj : j < ls.length := by
          have := (List.getElem?_eq_some_iff.1 hu).1
          simpa using this
        rw [addr_add', Nat.zero_add, cell_of_row w g j _ 3 (0, 0) a1]
        have : (cur.toList.take ls.length)[j]? = (ls.map (Value.int .i64))[j]? := by rw [a5]
        rw [List.getElem?_take_of_lt hj, Array.getElem?_toList] at this
        rw [this, hu]
      have hr := run_append_grow (P := P) w 24 ty 3 i z E.ht hi hz ⟨g, 0, none⟩ ls.length cap (ls.map (Value.int .i64)) (by simp [h1]) holds ⟨gs, 0, none⟩ 1 1 [.int .i64 k] (by simp [h1]) hnews (by omega) (by omega) (growslice_fits (by omega) (by have := Nat.mul_le_mul (show ls.length + 1 ≤ 1001 by omega) h4; rw [h2]; omega))
      exact ⟨_, _, hr, Priv.ext ((Ext.refl w).drew.alloc _), .inr ⟨rfl, (Ext.refl w).drew.alloc _, grown cap (by omega) _ rfl⟩⟩
end
end Go.Proofs.Ytkbhmajcddmhnaa

/- A round of the loop within chains: it hands its element on. -/
namespace Go.Proofs.Ytkbhmajcddmhnaa
open Go.RowKit
set_option linter.unusedVariables false
set_option linter.unusedSimpArgs false

def handVal (h : Hand) : Value := .agg #[.int .i64 h.good, .int .i64 h.units]
/-- what a round of the loop with record l does: from J s, on an element, it comes to J (add s x), says true, and leaves O's blocks -/
structure Takes {σ : Type} (N l : Nat) (J : CellSet → σ → World → Prop) (add : σ → List Int × Hand → σ) : Prop where
  stable : ∀ O O' s W W', J O s W → Priv O W W' → Grew O O' W W' → J O' s W'
  takes : ∀ O s W x a c, J O s W → x.1.length = N → IntsAt .i64 W a x.1.length x.1 → x.1.length ≤ c → c ≤ maxLen →
    YieldAt Fence.wide 0 Try.prog l #[.slice a x.1.length c, handVal x.2] W fun e W' => e = .returned (.bool true) ∧ J O (add s x) W' ∧ Kept O W W'
/-- what holds of cells of Oo, and of cells that nobody turns (N), abides -/
structure Abides (Oo N : CellSet) (A : World → Prop) : Prop where
  priv : ∀ O W W', A W → Priv O W W' → (∀ b j, Oo b j ∨ N b j → ¬O b j) → A W'
  kept : ∀ W W', A W → Kept Oo W W' → A W'
/-- the consumer's invariant of the inner loop: the outer's at all cells, and facts of the outer's own -/
def Jin {σ : Type} (Oo N : CellSet) (A : World → Prop) (J : CellSet → σ → World → Prop) (O : CellSet) (s : σ) (W : World) : Prop :=
  J (fun b j => O b j ∨ Oo b j) s W ∧ (∀ b j, Oo b j ∨ N b j → ¬O b j) ∧ (∀ b j, Oo b j ∨ N b j → b < W.heap.size) ∧ A W
theorem Jin.stable {σ : Type} {Oo N : CellSet} {A : World → Prop} {J : CellSet → σ → World → Prop} {nn l : Nat} {add : σ → List Int × Hand → σ} (T : Takes nn l J add) (hA : Abides Oo N A) {O O' : CellSet} {s : σ} {W W' : World}
    (h : Jin Oo N A J O s W) (k : Priv O W W') (g : Grew O O' W W') : Jin Oo N A J O' s W' := by
  obtain ⟨h1, h2, h3, h4⟩ := h
  refine ⟨T.stable _ _ s W W' h1 (k.mono fun b j e => .inl e) ⟨fun b j e => e.imp (g.1 b j) id, fun b j e => ?_⟩, fun b j e e' => ?_, fun b j e => Nat.lt_of_lt_of_le (h3 b j e) k.size, hA.priv O W W' h4 k h2⟩
  · rcases e with e | e
    · exact (g.2 b j e).imp .inl id
    · exact .inl (.inr e)
  · rcases g.2 b j e' with e1 | e1
    · exact h2 b j e e1
    · have := h3 b j e; omega
/-- the record of an inner loop -/
def recOf (fn : FuncId) (tmps : Array Value) (ps : Array Tmp) (assign body : Code) (D : Nat) (st : LoopState) (pe : Option Code) : Loop :=
  { state := st, pending := pe, fn, tmps, params := ps, assign, body, defers := D }
/-- one round of the inner loop: a box for the hand, the record busy, the outer's yield, the record ready again -/
def Walked (fn : FuncId) (tmps : Array Value) (ps : Array Tmp) (assign body : Code) (D l l' : Nat) (B : World → Prop) : Prop :=
  ∀ (x : List Int × Hand) (a : Option Addr) (c : Nat) (W : World) (R : World → Prop), B W →
    YieldAt Fence.wide 0 Try.prog l #[.slice a x.1.length c, handVal x.2] ((W.alloc (.cells #[.int .i64 x.2.good, .int .i64 x.2.units] 120)).putObj l' (.loop (recOf fn tmps ps assign body D .busy none))) (fun e W' => e = .returned (.bool true) ∧ R W') →
    assign.wpIn (Fence.wide.inRound l') 0 Try.prog (Exit.then (fun a₁ w₁ => w₁ = W.alloc (.cells #[.int .i64 x.2.good, .int .i64 x.2.units] 120) ∧
      body.wpIn (Fence.wide.inRound l') 0 Try.prog (fun e _ W' => e = .normal ∧ R W') a₁ (w₁.putObj l' (.loop (recOf fn tmps ps assign body D .busy none)))) (fun _ _ _ => False))
      { tmps := (ps.zip #[.slice a x.1.length c, handVal x.2]).foldl (fun tmps (t, v) => tmps.setIfInBounds t v) tmps, defers := [] } W
theorem takes_inner {σ : Type} {nn l l' : Nat} {J : CellSet → σ → World → Prop} {add : σ → List Int × Hand → σ} (T : Takes nn l J add) {A B : World → Prop} {Oo N : CellSet} (hA : Abides Oo N A) {fn : FuncId} {tmps : Array Value} {ps : Array Tmp} {assign body : Code} {D : Nat}
    (hO : Oo l' 0) (hps : ps.size = 2) (hrec : ∀ W, A W → W.heap[l']? = some (.loop (recOf fn tmps ps assign body D .ready none)) ∧ B W) (hw : Walked fn tmps ps assign body D l l' B) : Takes nn l' (Jin Oo N A J) add := by
  refine ⟨fun O O' s W W' h k g => h.stable T hA k g, fun O s W x a c hj hN hx h1 h2 => ?_⟩
  have hj0 := hj
  obtain ⟨j1, j2, j3, j4⟩ := hj
  obtain ⟨hr, hB⟩ := hrec W j4
  have hy := run_yield (P := Try.prog) (args := #[.slice a x.1.length c, handVal x.2]) hr (by simp [recOf, hps])
  refine ⟨_, _, _, _, hy, roundIn_of_wpIn trivial ?_⟩
  have hx1 : Ext W (W.alloc (.cells #[.int .i64 x.2.good, .int .i64 x.2.units] 120)) := (Ext.refl W).alloc _
  have hnew := heap_alloc_new W (.cells #[.int .i64 x.2.good, .int .i64 x.2.units] 120)
  have hr1 := hx1.heap hr
  have p1 : Priv (fun b j => O b j ∨ Oo b j) W (W.alloc (.cells #[.int .i64 x.2.good, .int .i64 x.2.units] 120)) := Priv.ext hx1
  have p2 := Priv.putObj (O := fun b j => O b j ∨ Oo b j) (.loop (recOf fn tmps ps assign body D .busy none)) hr1 rfl (.inr hO)
  have p12 := p1.step p2 (Grew.same _ _ _)
  have hj2 := T.stable _ _ s _ _ j1 p12 (Grew.same _ _ _)
  have hxi : IntsAt .i64 ((W.alloc (.cells #[.int .i64 x.2.good, .int .i64 x.2.units] 120)).putObj l' (.loop (recOf fn tmps ps assign body D .busy none))) a x.1.length x.1 :=
    IntsAt.cells (hx.ext hx1) fun b off _ i hi v hv => by
      refine (World.cell?_of_block (World.putObj_heap_other fun e => ?_)).trans hv
      obtain ⟨o, ho, hoc⟩ := cells_of_cell hv
      simp only at ho e
      rw [e, hr1] at ho
      cases ho
      cases hoc
  have hb2 : ((W.alloc (.cells #[.int .i64 x.2.good, .int .i64 x.2.units] 120)).putObj l' (.loop (recOf fn tmps ps assign body D .busy none))).heap[l']? = _ := World.putObj_heap_same (heap_lt hr1)
  have hlow : ∀ b o, b ≠ l' → W.heap[b]? = some o → ((W.alloc (.cells #[.int .i64 x.2.good, .int .i64 x.2.units] 120)).putObj l' (.loop (recOf fn tmps ps assign body D .busy none))).heap[b]? = some o := fun b o hb ho => (World.putObj_heap_other hb).trans (hx1.heap ho)
  have hwk := hw x a c W (fun W' => J (fun b j => O b j ∨ Oo b j) (add s x) W' ∧ Kept (fun b j => O b j ∨ Oo b j) ((W.alloc (.cells #[.int .i64 x.2.good, .int .i64 x.2.units] 120)).putObj l' (.loop (recOf fn tmps ps assign body D .busy none))) W') hB
    (T.takes _ s _ x a c hj2 hN hxi h1 h2)
  have hsz : W.heap.size ≤ ((W.alloc (.cells #[.int .i64 x.2.good, .int .i64 x.2.units] 120)).putObj l' (.loop (recOf fn tmps ps assign body D .busy none))).heap.size := p12.size
  generalize hW1 : W.alloc (.cells #[.int .i64 x.2.good, .int .i64 x.2.units] 120) = W1 at *
  refine wpIn_mono hwk ?_
  rintro e a1 w1 he
  cases e with
  | normal =>
    obtain ⟨rfl, he⟩ := he
    refine ⟨_, run_beginRound hr1 rfl, wpIn_mono he ?_⟩
    rintro e a3 W3 ⟨rfl, k1, k2⟩
    have hb3 := k2.2 l' _ ⟨0, .inr hO⟩ hb2
    have hk : Kept (fun b j => O b j ∨ Oo b j) W (W3.putObj l' (.loop (recOf fn tmps ps assign body D .ready none))) := by
      refine ⟨by rw [World.putObj_size]; exact Nat.le_trans hsz k2.1, fun b o hb ho => ?_⟩
      by_cases e : b = l'
      · subst e
        rw [hr] at ho
        rw [World.putObj_heap_same (heap_lt hb3), ← ho]
      · exact (World.putObj_heap_other e).trans (k2.2 b o hb (hlow b o e ho))
    have hk4 : Kept Oo W (W3.putObj l' (.loop (recOf fn tmps ps assign body D .ready none))) := hk.mono fun b j e => .inr e
    have p4 := Priv.putObj (O := fun b j => O b j ∨ Oo b j) (.loop (recOf fn tmps ps assign body D .ready none)) hb3 rfl (.inr hO)
    exact ⟨_, _, run_endRound none hb3, rfl, ⟨T.stable _ _ _ _ _ k1 p4 (Grew.same _ _ _), j2, fun b j e => Nat.lt_of_lt_of_le (j3 b j e) hk.1, hA.kept _ _ j4 hk4⟩, hk.mono fun b j e => .inl e⟩
  | _ => exact he.elim
end Go.Proofs.Ytkbhmajcddmhnaa

/- Contract: trip.chains' iterator. -/
namespace Go.Proofs.Ytkbhmajcddmhnaa
open Go.RowKit
set_option linter.unusedVariables false
set_option linter.unusedSimpArgs false

/-- the closure's four boxes, and what they hold -/
structure Boxes (O : CellSet) (W : World) (bi bt bc bh : Nat) (i : Nat) (mp : Nat) (fa : Option Addr) (fn fc : Nat) (v : Value) (h : Hand) : Prop where
  i : W.heap[bi]? = some (.cells #[.int .i64 i] 3 (0, 0))
  t : W.heap[bt]? = some (.cells #[.pointer (some ⟨mp, 0, none⟩), .slice fa fn fc] 103 (0, 0))
  c : W.heap[bc]? = some (.cells #[v] 24 (0, 0))
  h : W.heap[bh]? = some (.cells #[.int .i64 h.good, .int .i64 h.units] 120 (0, 0))
  oi : ∀ j, O bi j
  ot : ∀ j, O bt j
  oc : ∀ j, O bc j
  oh : ∀ j, O bh j
  ni : v.ownBlock ≠ some bi
  nt : v.ownBlock ≠ some bt
  nc : v.ownBlock ≠ some bc
  nh : v.ownBlock ≠ some bh

/-- O's cells lie in the heap -/
def Fit (O : CellSet) (W : World) : Prop := ∀ b j, O b j → b < W.heap.size
/-- the iterator is over: the consumer has come to s; O has grown -/
def ItPost {σ : Type} (J : CellSet → σ → World → Prop) (O : CellSet) (s : σ) (e : Ending) (W' : World) : Prop :=
  (∃ r, e = .returned r) ∧ ∃ O', (∀ b j, O b j → O' b j) ∧ Fit O' W' ∧ J O' s W'

set_option maxRecDepth 100000 in
set_option maxHeartbeats 4000000 in
theorem chains_zero {σ : Type} (mp : Nat) (fa : Option Addr) (fn fc : Nat) {l : Nat} {J : CellSet → σ → World → Prop} {add : σ → List Int × Hand → σ} (T : Takes fn l J add) (O : CellSet) (s : σ) (W : World) (h : Hand) (ch : List Int) (v : Value) (bi bt bc bh : Nat)
    (hj : J O s W) (hc : ChainAt O W v ch) (hb : Boxes O W bi bt bc bh fn mp fa fn fc v h) (hfn : fn ≤ 5) (hfit : Fit O W) (hch : ch.length = fn) :
    Calls Try.prog 82 #[.func (.yield l) #[] #[], .pointer (some ⟨bi, 0, none⟩), .pointer (some ⟨bt, 0, none⟩), .pointer (some ⟨bc, 0, none⟩), .pointer (some ⟨bh, 0, none⟩)] W
      (ItPost J O (add s (ch, h))) := by
  refine (callsIn_wide (n := 0)).1 ?_
  obtain ⟨a, c, rfl, h1, h2, hi⟩ := hc.ints
  have hx1 : Ext W (W.alloc (.cells #[.func (.yield l) #[] #[]] 151)) := (Ext.refl W).alloc _
  obtain ⟨fn', tmps, assign, body, hy, hr⟩ := T.takes O s _ (ch, h) a c (T.stable O O s W _ hj (Priv.ext hx1) (Grew.same _ _ _)) hch (hi.ext hx1) h1 h2
  have ci := (hx1.box hb.i).1
  have ct := (hx1.box hb.t).1
  have cc := (hx1.box hb.c).1
  have cb := (hx1.box hb.h).1
  simp only [handVal] at hy
  have Hr := Lib.hid hr
  clear hch hr hb hi hc hj hx1
  refine callsIn_of_wp Try.func82 rfl trivial ?_ rfl
  simp only [Try.ntmps82, List.size_toArray, List.length_cons, List.length_nil, Nat.reduceAdd, Nat.reduceSub, Array.replicate_succ, Array.replicate_zero, List.push_toArray, List.append_toArray, List.nil_append, List.cons_append]
  gi_wp2
  refine ⟨rfl, Hr.out.mono ?_⟩
  rintro e W' ⟨rfl, h3, h4⟩
  gi_wp2
  refine bodyPost_ret (results_none rfl _ _ _) rfl ?_
  exact ⟨⟨_, rfl⟩, O, fun _ _ h => h, fun b j e => Nat.lt_of_lt_of_le (hfit b j e) (Nat.le_trans (by simp) h4.1), h3⟩
end Go.Proofs.Ytkbhmajcddmhnaa

/- What the iterator itself keeps while its inner loop runs. -/
namespace Go.Proofs.Ytkbhmajcddmhnaa
open Go.RowKit
set_option linter.unusedVariables false
set_option linter.unusedSimpArgs false

/-- a block of Oo's, whole -/
def BlockIn (Oo : CellSet) (W : World) (b : Nat) (o : Obj) : Prop := W.heap[b]? = some o ∧ ∀ j, Oo b j
section
variable {Oo O : CellSet} {W W' : World}
theorem BlockIn.priv {b : Nat} {o : Obj} (h : BlockIn Oo W b o) (k : Priv O W W') (hd : ∀ b j, Oo b j → ¬O b j) : BlockIn Oo W' b o := ⟨k.block h.1 fun j => hd _ _ (h.2 j), h.2⟩
theorem BlockIn.kept {b : Nat} {o : Obj} (h : BlockIn Oo W b o) (k : Kept Oo W W') : BlockIn Oo W' b o := ⟨k.2 b o ⟨0, h.2 0⟩ h.1, h.2⟩
theorem IntsIn.kept {a : Option Addr} {n : Nat} {l : List Int} (h : IntsIn Oo W a n l) (k : Kept Oo W W') : IntsIn Oo W' a n l :=
  ⟨IntsAt.cells h.1 fun b off ha i hi v hv => by
    obtain ⟨o, ho, _⟩ := cells_of_cell hv
    simp only at ho
    exact (World.cell?_of_block (a := ⟨b, off + i, none⟩) ((k.2 b o ⟨_, h.2 b off none ha i hi⟩ ho).trans ho.symm)).trans hv, h.2⟩
/-- the chain, its cells in N, the spare ones in Oa; some of these are in Oo -/
def ChainIn (Oo N Oa : CellSet) (W : World) (v : Value) (ls : List Int) : Prop := ChainAt Oa W v ls ∧ ∀ g, v.ownBlock = some g → (∃ j, Oo g j) ∧ ∀ j, j < ls.length → N g j
theorem ChainIn.priv {N Oa : CellSet} {v : Value} {ls : List Int} (h : ChainIn Oo N Oa W v ls) (k : Priv O W W') (hd : ∀ b j, N b j → ¬O b j) : ChainIn Oo N Oa W' v ls :=
  ⟨h.1.priv k fun g hg j hj => hd _ _ ((h.2 g hg).2 j hj), h.2⟩
theorem ChainIn.kept {N Oa : CellSet} {v : Value} {ls : List Int} (h : ChainIn Oo N Oa W v ls) (k : Kept Oo W W') : ChainIn Oo N Oa W' v ls :=
  ⟨h.1.kept k fun g hg => (h.2 g hg).1, h.2⟩
theorem Abides.and {N : CellSet} {A B : World → Prop} (h : Abides Oo N A) (k : Abides Oo N B) : Abides Oo N (fun W => A W ∧ B W) :=
  ⟨fun O W W' a p d => ⟨h.priv O W W' a.1 p d, k.priv O W W' a.2 p d⟩, fun W W' a p => ⟨h.kept W W' a.1 p, k.kept W W' a.2 p⟩⟩
theorem abides_block {N : CellSet} (b : Nat) (o : Obj) : Abides Oo N (fun W => BlockIn Oo W b o) := ⟨fun O W W' h k d => h.priv k fun b j e => d b j (.inl e), fun W W' h k => h.kept k⟩
theorem abides_ints {N : CellSet} (a : Option Addr) (n : Nat) (l : List Int) : Abides Oo N (fun W => IntsIn Oo W a n l) := ⟨fun O W W' h k d => h.priv k fun b j e => d b j (.inl e), fun W W' h k => h.kept k⟩
theorem abides_chain {N : CellSet} (Oa : CellSet) (v : Value) (ls : List Int) : Abides Oo N (fun W => ChainIn Oo N Oa W v ls) := ⟨fun O W W' h k d => h.priv k fun b j e => d b j (.inr e), fun W W' h k => h.kept k⟩
theorem abides_all {N : CellSet} (L : List (Nat × Obj)) : Abides Oo N (fun W => ∀ x ∈ L, BlockIn Oo W x.1 x.2) := ⟨fun O W W' h k d x hx => (h x hx).priv k fun b j e => d b j (.inl e), fun W W' h k x hx => (h x hx).kept k⟩
end
end Go.Proofs.Ytkbhmajcddmhnaa

/- Contract: trip.chains: it boxes its arguments and makes the iterator. -/
namespace Go.Proofs.Ytkbhmajcddmhnaa
open Go.RowKit
set_option linter.unusedVariables false
set_option linter.unusedSimpArgs false

def MkPost (w : World) (i : Nat) (mp : Nat) (fa : Option Addr) (fn fc : Nat) (v : Value) (h : Hand) (e : Ending) (w' : World) : Prop :=
  ∃ s, w.heap.size = s ∧ e = .returned (.func (.func 82) #[] #[.pointer (some ⟨s + 1, 0, none⟩), .pointer (some ⟨s, 0, none⟩), .pointer (some ⟨s + 3, 0, none⟩), .pointer (some ⟨s + 2, 0, none⟩)]) ∧ Ext w w' ∧ w'.heap.size = s + 4 ∧
    w'.heap[s]? = some (.cells #[.pointer (some ⟨mp, 0, none⟩), .slice fa fn fc] 103 (0, 0)) ∧ w'.heap[s + 1]? = some (.cells #[.int .i64 i] 3 (0, 0)) ∧
    w'.heap[s + 2]? = some (.cells #[.int .i64 h.good, .int .i64 h.units] 120 (0, 0)) ∧ w'.heap[s + 3]? = some (.cells #[v] 24 (0, 0))
theorem boxes4 (w : World) (o1 o2 o3 o4 : Obj) (W : World) (hW : W = (((w.alloc o1).alloc o2).alloc o3).alloc o4) :
    Ext w W ∧ W.heap.size = w.heap.size + 4 ∧ W.heap[w.heap.size]? = some o1 ∧ W.heap[w.heap.size + 1]? = some o2 ∧ W.heap[w.heap.size + 2]? = some o3 ∧ W.heap[w.heap.size + 3]? = some o4 := by
  have s1 := alloc_at (w0 := w) (W := w) (k := 0) rfl o1
  have x1 : Ext w (w.alloc o1) := (Ext.refl _).alloc _
  generalize w.alloc o1 = W1 at *
  have s2 := alloc_at s1.1 o2
  have x2 : Ext W1 (W1.alloc o2) := (Ext.refl _).alloc _
  generalize W1.alloc o2 = W2 at *
  have s3 := alloc_at s2.1 o3
  have x3 : Ext W2 (W2.alloc o3) := (Ext.refl _).alloc _
  generalize W2.alloc o3 = W3 at *
  have s4 := alloc_at s3.1 o4
  have x4 : Ext W3 (W3.alloc o4) := (Ext.refl _).alloc _
  generalize W3.alloc o4 = W4 at *
  subst hW
  exact ⟨x1.trans (x2.trans (x3.trans x4)), s4.1, (x2.trans (x3.trans x4)).heap s1.2, (x3.trans x4).heap s2.2, x4.heap s3.2, s4.2⟩
theorem mkIt_any (w : World) (i : Nat) (mp : Nat) (fa : Option Addr) (fn fc : Nat) (va : Option Addr) (vn vc : Nat) (h : Hand) :
    Calls Try.prog 59 #[.agg #[.pointer (some ⟨mp, 0, none⟩), .slice fa fn fc], .int .i64 i, handVal h, .slice va vn vc] w (MkPost w i mp fa fn fc (.slice va vn vc) h) := by
  unfold handVal
  go_enter Try.func59, Try.ntmps59
  go_wp2_with fail
  go_ret
  obtain ⟨W, hW⟩ : ∃ W, W = (((w.alloc (.cells #[.pointer (some ⟨mp, 0, none⟩), .slice fa fn fc] 103)).alloc (.cells #[.int .i64 i] 3)).alloc (.cells #[.int .i64 h.good, .int .i64 h.units] 120)).alloc (.cells #[.slice va vn vc] 24) := ⟨_, rfl⟩
  rw [← hW]
  obtain ⟨b1, b2, b3, b4, b5, b6⟩ := boxes4 w _ _ _ _ W hW
  exact ⟨_, rfl, rfl, b1, b2, b3, b4, b5, b6⟩
end Go.Proofs.Ytkbhmajcddmhnaa

/- One level of the iterator: what it owns, and how it hands on to the next level. -/
namespace Go.Proofs.Ytkbhmajcddmhnaa
open Go.RowKit
set_option linter.unusedVariables false
set_option linter.unusedSimpArgs false

/-- a loop, the round's end behind a variable -/
theorem wp_loop_step {P : Program} {Q : Exit → Act → World → Prop} {a : Act} {w : World} {c : Code} (I : Act → World → Prop) (μ : Act → World → Nat) (h₀ : I a w)
    (round : ∀ a w, I a w → ∀ K : Act → World → Prop, (∀ a' w', I a' w' → μ a' w' < μ a w → K a' w') → c.wp P (Exit.then K Q) a w) : (Code.loop c).wp P Q a w :=
  wp_loop I μ h₀ fun a w hI => round a w hI _ fun a' w' h1 h2 => ⟨h1, h2⟩
theorem wpList_append_run {P : Program} {T : TypeId} {w w' : World} {ops : Array Oper} {rest : List Oper} {o : Oper} {a : Act} {Q : Exit → Act → World → Prop} (hgd : o.guard = none) (s x : Operand)
    (ho : o.op = .call { callee := .builtin .append, args := #[s, x], argTypes := #[T, T] }) {u v v' : Value} (hs : a.eval s = u) (hx : a.eval x = v)
    (hr : (Builtin.append_ #[T, T] o.type #[u, v]).run P w = .ok v' w') (h : wpList P ops Q rest (a.put o.dst v') w') : wpList P ops Q (o :: rest) a w := by
  refine wpList_plain hgd fun K hK => ?_
  unfold Oper.wp execOp
  simp only [ho, resolve, invoke, builtin, Sem.run_bind, Sem.run_pure, Result.andThen_ok, List.map_toArray, List.map_cons, List.map_nil, hs, hx, hr]
  exact hK _ _ h
/-- blocks of its own, a list of numbers, and the chain so far -/
structure Lvl (O : CellSet) (W : World) (L : List (Nat × Obj)) (la : Option Addr) (nl : Nat) (opts : List Int) (v : Value) (ch : List Int) : Prop where
  blocks : ∀ x ∈ L, W.heap[x.1]? = some x.2 ∧ (∀ j, O x.1 j) ∧ v.ownBlock ≠ some x.1
  list : IntsIn O W la nl opts
  other : ∀ b off s, la = some ⟨b, off, s⟩ → v.ownBlock ≠ some b
  chain : ChainAt O W v ch
  pre : ∀ g, v.ownBlock = some g → ∀ j, j < ch.length → ¬O g j
  fit : Fit O W
section
variable {O : CellSet} {W W' : World} {L : List (Nat × Obj)} {la : Option Addr} {nl : Nat} {opts : List Int} {v : Value} {ch : List Int}
theorem ChainAt.ext (h : ChainAt O W v ch) (e : Ext W W') : ChainAt O W' v ch := h.priv (O' := fun _ _ => False) (Priv.ext e) fun _ _ _ _ h => h
theorem Lvl.ext (h : Lvl O W L la nl opts v ch) (e : Ext W W') : Lvl O W' L la nl opts v ch :=
  ⟨fun x hx => let ⟨a, b, c⟩ := h.blocks x hx; ⟨e.heap a, b, c⟩, ⟨h.list.1.ext e, h.list.2⟩, h.other, h.chain.ext e, h.pre, fun b j hb => Nat.lt_of_lt_of_le (h.fit b j hb) e.size⟩
/-- the spare cells of the chain -/
def spareOf (v : Value) (n : Nat) : CellSet := fun b j => v.ownBlock = some b ∧ n ≤ j
theorem Lvl.app {P : Program} (ty : TypeId) (E : Elem P 24 3 1) (h : Lvl O W L la nl opts v ch) (gs : Nat) (k : Int) (hs : W.cell? ⟨gs, 0, none⟩ = some (.int .i64 k)) (hl : ch.length ≤ 1000) :
    ∃ v' w', (Builtin.append_ #[24, 24] ty #[v, .slice (some ⟨gs, 0, none⟩) 1 1]).run P W = .ok v' w' ∧ Priv (spareOf v ch.length) W w' ∧
      ((v'.ownBlock = v.ownBlock ∧ w'.heap.size = W.heap.size) ∨ (v'.ownBlock = some W.heap.size ∧ W.heap.size < w'.heap.size)) ∧
      ChainAt (fun b j => spareOf v ch.length b j ∨ b = W.heap.size) w' v' (ch ++ [k]) := by
  have hc : ChainAt (spareOf v ch.length) W v ch := h.chain.mono fun g hg j hj _ => ⟨hg, hj⟩
  obtain ⟨v', w', hr, hp, hor⟩ := hc.app ty E gs k hs hl
  refine ⟨v', w', hr, hp, ?_, ?_⟩
  · rcases hor with ⟨h1, h2, _⟩ | ⟨h1, h2, h3⟩
    · exact .inl ⟨h1, h2⟩
    · exact .inr ⟨h1, (h3.lt _ h1).1⟩
  · rcases hor with ⟨_, _, h3⟩ | ⟨_, _, h3⟩
    · exact h3.mono fun _ _ _ _ e => .inl e
    · exact h3
/-- what the level keeps while the next one runs -/
def Keeps (Oo N Oa : CellSet) (L : List (Nat × Obj)) (la : Option Addr) (nl : Nat) (opts : List Int) (v : Value) (ch : List Int) (W : World) : Prop :=
  (∀ x ∈ L, BlockIn Oo W x.1 x.2) ∧ IntsIn Oo W la nl opts ∧ ChainIn Oo N Oa W v ch
theorem keeps_abides (Oo N Oa : CellSet) (L : List (Nat × Obj)) (la : Option Addr) (nl : Nat) (opts : List Int) (v : Value) (ch : List Int) : Abides Oo N (Keeps Oo N Oa L la nl opts v ch) :=
  (abides_all L).and ((abides_ints la nl opts).and (abides_chain Oa v ch))

/-- into the next level -/
theorem Lvl.enter {σ : Type} {nn l : Nat} {J : CellSet → σ → World → Prop} {add : σ → List Int × Hand → σ} (T : Takes nn l J add) (s : σ) (hj : J O s W) (h : Lvl O W L la nl opts v ch)
    {W2 W3 W4 : World} {v' : Value} {k : Int} (hp : Priv (spareOf v ch.length) W W2)
    (hor : (v'.ownBlock = v.ownBlock ∧ W2.heap.size = W.heap.size) ∨ (v'.ownBlock = some W.heap.size ∧ W.heap.size < W2.heap.size)) (hc' : ChainAt (fun b j => spareOf v ch.length b j ∨ b = W.heap.size) W2 v' (ch ++ [k]))
    (hx : Ext W2 W3) (hs3 : W3.heap.size = W2.heap.size + 4) {i mp : Nat} {fa : Option Addr} {fn fc : Nat} {h' : Hand}
    (m0 : W3.heap[W2.heap.size]? = some (.cells #[.pointer (some ⟨mp, 0, none⟩), .slice fa fn fc] 103 (0, 0))) (m1 : W3.heap[W2.heap.size + 1]? = some (.cells #[.int .i64 i] 3 (0, 0)))
    (m2 : W3.heap[W2.heap.size + 2]? = some (.cells #[.int .i64 h'.good, .int .i64 h'.units] 120 (0, 0))) (m3 : W3.heap[W2.heap.size + 3]? = some (.cells #[v'] 24 (0, 0)))
    {f : FuncId} {tmps : Array Value} {ps : Array Tmp} {assign body : Code} (hps : ps.size = 2) (yb : Nat) (oy : Obj) (hy : (yb, oy) ∈ L)
    (hw : Walked f tmps ps assign body W3.heap.size l (W3.heap.size + 1) (fun W' => W'.heap[yb]? = some oy ∧ W3.heap.size + 1 < W'.heap.size))
    (hW4 : W4 = (W3.alloc (.deferred (some []))).alloc (.loop (recOf f tmps ps assign body W3.heap.size .ready none))) :
    ∃ (J' : CellSet → σ → World → Prop) (O' : CellSet), Takes nn (W3.heap.size + 1) J' add ∧ J' O' s W4 ∧ (∀ O'' s' W', J' O'' s' W' → ∃ O3, J O3 s' W') ∧
      Boxes O' W4 (W2.heap.size + 1) W2.heap.size (W2.heap.size + 3) (W2.heap.size + 2) i mp fa fn fc v' h' ∧ ChainAt O' W4 v' (ch ++ [k]) ∧ (∀ g, v'.ownBlock = some g → ∀ j, j < (ch ++ [k]).length → ¬O' g j) ∧ Fit O' W4 ∧
      ∀ O'' s' W5, (∀ b j, O' b j → O'' b j) → Fit O'' W5 → J' O'' s' W5 → W5.heap[W3.heap.size + 1]? = some (.loop (recOf f tmps ps assign body W3.heap.size .ready none)) ∧
        ∀ o, ∃ O3, (∀ b j, O b j → O3 b j) ∧ J O3 s' (W5.putObj (W3.heap.size + 1) o) ∧ Lvl O3 (W5.putObj (W3.heap.size + 1) o) ((W3.heap.size, .deferred (some [])) :: L) la nl opts v ch := by
  have hs4 : W4.heap.size = W3.heap.size + 2 := by rw [hW4]; simp
  have hx4 : Ext W3 W4 := by rw [hW4]; exact ((Ext.refl _).alloc _).alloc _
  have hD : W4.heap[W3.heap.size]? = some (.deferred (some [])) := by rw [hW4]; exact ((Ext.refl (W3.alloc _)).alloc _).heap (heap_alloc_new W3 _)
  have hl4 : W4.heap[W3.heap.size + 1]? = some (.loop (recOf f tmps ps assign body W3.heap.size .ready none)) := by
    rw [hW4]; have := heap_alloc_new (W3.alloc (.deferred (some []))) (.loop (recOf f tmps ps assign body W3.heap.size .ready none)); simpa using this
  clear hW4
  have hx24 := hx.trans hx4
  have sz2 := hp.size
  have hvlt := h.chain.lt
  have hv'lt := hc'.lt
  have pall : Priv (spareOf v ch.length) W W4 := hp.step (Priv.ext hx24) (Grew.same _ _ _)
  have nb : ∀ b, b < W.heap.size → v'.ownBlock = some b → v.ownBlock = some b := fun b hb e => by
    rcases hor with ⟨h1, _⟩ | ⟨h1, _⟩
    · rw [← h1]; exact e
    · rw [h1] at e; cases e; omega
  obtain ⟨Os, hOs⟩ : ∃ Os : CellSet, Os = fun b j => O b j ∨ (W.heap.size ≤ b ∧ b < W4.heap.size) := ⟨_, rfl⟩
  obtain ⟨sp, hsp⟩ : ∃ sp : CellSet, sp = fun b j => (v'.ownBlock = some b ∧ ch.length + 1 ≤ j) ∨ (W2.heap.size ≤ b ∧ b < W2.heap.size + 4) := ⟨_, rfl⟩
  obtain ⟨Oi, hOi⟩ : ∃ Oi : CellSet, Oi = fun b j => Os b j ∧ sp b j := ⟨_, rfl⟩
  obtain ⟨Oo, hOo⟩ : ∃ Oo : CellSet, Oo = fun b j => Os b j ∧ ¬sp b j := ⟨_, rfl⟩
  obtain ⟨N, hN⟩ : ∃ N : CellSet, N = fun b j => v.ownBlock = some b ∧ j < ch.length := ⟨_, rfl⟩
  have eOs : (fun b j => Oi b j ∨ Oo b j) = Os := by
    funext b j
    rw [hOi, hOo]
    exact propext ⟨fun e => e.elim (·.1) (·.1), fun e => (Classical.em (sp b j)).elim (fun q => .inl ⟨e, q⟩) (fun q => .inr ⟨e, q⟩)⟩
  have fitOs : Fit Os W4 := fun b j e => by
    rw [hOs] at e
    rcases e with e | e
    · have := h.fit b j e; omega
    · exact e.2
  have nsp : ∀ b j, b < W.heap.size → v.ownBlock ≠ some b → ¬sp b j := fun b j hb hne e => by
    rw [hsp] at e
    rcases e with e | e
    · exact hne (nb b hb e.1)
    · omega
  have dis : ∀ b j, Oo b j ∨ N b j → ¬Oi b j := fun b j e e' => by
    rw [hOi] at e'
    rcases e with e | e
    · rw [hOo] at e; exact e.2 e'.2
    · rw [hN] at e
      have e2 := e'.2
      rw [hsp] at e2
      rcases e2 with e2 | e2
      · omega
      · have := (hvlt b e.1).1; omega
  obtain ⟨L', hL'⟩ : ∃ L' : List (Nat × Obj), L' = (W3.heap.size + 1, .loop (recOf f tmps ps assign body W3.heap.size .ready none)) :: (W3.heap.size, .deferred (some [])) :: L := ⟨_, rfl⟩
  have new : ∀ b j, W3.heap.size ≤ b → b < W4.heap.size → Oo b j := fun b j h1 h2 => by
    rw [hOo, hOs, hsp]
    refine ⟨.inr ⟨by omega, h2⟩, fun e => ?_⟩
    rcases e with e | e
    · have := (hv'lt b e.1).1; omega
    · omega
  have hA : Keeps Oo N Os L' la nl opts v ch W4 := by
    refine ⟨fun x hx => ?_, ⟨?_, fun b off s e i hi => ?_⟩, ?_, fun g hg => ⟨⟨ch.length, ?_⟩, fun j hj => ?_⟩⟩
    · rw [hL'] at hx
      simp only [List.mem_cons] at hx
      rcases hx with rfl | rfl | hx
      · exact ⟨hl4, fun j => new _ _ (by simp only; omega) (by simp only; omega)⟩
      · exact ⟨hD, fun j => new _ _ (by simp only; omega) (by simp only; omega)⟩
      · obtain ⟨a1, a2, a3⟩ := h.blocks x hx
        refine ⟨pall.block a1 fun j e => a3 e.1, fun j => ?_⟩
        rw [hOo, hOs]
        exact ⟨.inl (a2 j), nsp _ _ (heap_lt a1) a3⟩
    · exact IntsAt.cells h.list.1 fun b off e i hi u hu => pall.cell hu fun q => h.other b off none e q.1
    · rw [hOo, hOs]
      have e1 := h.list.2 b off s e i hi
      exact ⟨.inl e1, nsp _ _ (h.fit _ _ e1) (h.other b off s e)⟩
    · exact (h.chain.priv pall fun g hg j hj e => by have := e.2; omega).mono fun g hg j hj e => by rw [hOs]; exact .inl e
    · have e1 := hvlt g hg
      rw [hOo, hOs]
      refine ⟨.inl (e1.2 _ (Nat.le_refl _)), fun e => ?_⟩
      rw [hsp] at e
      rcases e with e | e
      · omega
      · omega
    · rw [hN]; exact ⟨hg, hj⟩
  have hT := takes_inner (Oo := Oo) (N := N) (A := Keeps Oo N Os L' la nl opts v ch) T (keeps_abides Oo N Os L' la nl opts v ch) (new _ _ (by omega) (by omega)) hps (fun W' a => ⟨(a.1 _ (by rw [hL']; exact List.mem_cons_self ..)).1, (a.1 (yb, oy) (by rw [hL']; exact List.mem_cons_of_mem _ (List.mem_cons_of_mem _ hy))).1, heap_lt (a.1 _ (by rw [hL']; exact List.mem_cons_self ..)).1⟩) hw
  refine ⟨Jin Oo N (Keeps Oo N Os L' la nl opts v ch) J, Oi, hT, ?_, fun O'' s' W' a => ⟨_, a.1⟩, ?_, ?_, ?_, ?_, ?_⟩
  · refine ⟨?_, dis, fun b j e => ?_, hA⟩
    · rw [eOs]
      refine T.stable O Os s W W4 hj (pall.mono fun b j e => (hvlt b e.1).2 j e.2) ⟨fun b j e => by rw [hOs]; exact .inl e, fun b j e => by rw [hOs] at e; exact e⟩
    · rcases e with e | e
      · rw [hOo] at e; exact fitOs b j e.1
      · rw [hN] at e; have := (hvlt b e.1).1; omega
  · have bx : ∀ b j, W2.heap.size ≤ b → b < W2.heap.size + 4 → Oi b j := fun b j h1 h2 => by
      rw [hOi, hOs, hsp]
      exact ⟨.inr ⟨by omega, by omega⟩, .inr ⟨h1, h2⟩⟩
    have nv : ∀ b, W2.heap.size ≤ b → v'.ownBlock ≠ some b := fun b h1 e => by have := (hv'lt b e).1; omega
    exact ⟨hx4.heap m1, hx4.heap m0, hx4.heap m3, hx4.heap m2, fun j => bx _ _ (by omega) (by omega), fun j => bx _ _ (by omega) (by omega), fun j => bx _ _ (by omega) (by omega), fun j => bx _ _ (by omega) (by omega),
      nv _ (by omega), nv _ (by omega), nv _ (by omega), nv _ (by omega)⟩
  · refine (hc'.ext hx24).mono fun g hg j hj e => ?_
    rw [hOi, hOs, hsp]
    have h1 := (hv'lt g hg).1
    refine ⟨?_, .inl ⟨hg, by simp at hj; omega⟩⟩
    rcases e with e | e
    · exact .inl ((hvlt g e.1).2 j e.2)
    · exact .inr ⟨by omega, by have := hx24.size; omega⟩
  · intro g hg j hj e
    rw [hOi] at e
    have e2 := e.2
    rw [hsp] at e2
    have := (hv'lt g hg).1
    simp at hj
    rcases e2 with e2 | e2
    · omega
    · omega
  · intro b j e
    rw [hOi] at e
    exact fitOs b j e.1
  · rintro O'' s' W5 hsub hfit ⟨j1, j2, j3, j4⟩
    have hb5 := (j4.1 (W3.heap.size + 1, .loop (recOf f tmps ps assign body W3.heap.size .ready none)) (by rw [hL']; exact List.mem_cons_self ..))
    refine ⟨hb5.1, fun o => ⟨fun b j => O'' b j ∨ Oo b j, fun b j e => ?_, ?_, ?_⟩⟩
    · have : Os b j := by rw [hOs]; exact .inl e
      rw [← eOs] at this
      exact this.imp (hsub b j) id
    · exact T.stable _ _ _ _ _ j1 (Priv.putObj o hb5.1 rfl (.inr (hb5.2 0))) (Grew.same _ _ _)
    · have far : ∀ b, b < W.heap.size → b ≠ W3.heap.size + 1 := fun b hb => by omega
      have other : ∀ b ob, b ≠ W3.heap.size + 1 → W5.heap[b]? = some ob → (W5.putObj (W3.heap.size + 1) o).heap[b]? = some ob := fun b ob hb hob => (World.putObj_heap_other hb).trans hob
      refine ⟨fun x hx => ?_, ⟨?_, fun b off s e i hi => .inr (j4.2.1.2 b off s e i hi)⟩, h.other, ?_, fun g hg j hj e => ?_, fun b j e => ?_⟩
      · simp only [List.mem_cons] at hx
        have hb := j4.1 x (by rw [hL']; rcases hx with rfl | hx; exact List.mem_cons_of_mem _ (List.mem_cons_self ..); exact List.mem_cons_of_mem _ (List.mem_cons_of_mem _ hx))
        rcases hx with rfl | hx
        · refine ⟨other _ _ (by simp only; omega) hb.1, fun j => .inr (hb.2 j), fun e => ?_⟩
          have := (hvlt _ e).1
          simp only at this
          omega
        · obtain ⟨a1, a2, a3⟩ := h.blocks x hx
          exact ⟨other _ _ (far _ (heap_lt a1)) hb.1, fun j => .inr (hb.2 j), a3⟩
      · refine IntsAt.cells j4.2.1.1 fun b off e i hi u hu => ?_
        refine (World.cell?_of_block (World.putObj_heap_other (far _ ?_))).trans hu
        exact h.fit _ _ (h.list.2 b off none e i hi)
      · have hc5 := j4.2.2.1
        have hpo : Priv (fun b _ => b = W3.heap.size + 1) W5 (W5.putObj (W3.heap.size + 1) o) := Priv.putObj o hb5.1 rfl rfl
        refine (hc5.priv hpo fun g hg j hj e => ?_).mono fun g hg j hj e => ?_
        · have := (hvlt g hg).1
          omega
        · rw [← eOs] at e
          exact e.imp (hsub g j) id
      · rcases e with e | e
        · exact j2 g j (.inr (by rw [hN]; exact ⟨hg, hj⟩)) e
        · rw [hOo, hOs] at e
          rcases e.1 with e1 | e1
          · exact h.pre g hg j hj e1
          · have := (hvlt g hg).1
            omega
      · rw [World.putObj_size]
        rcases e with e | e
        · exact hfit b j e
        · exact j3 b j (.inl e)
end
end Go.Proofs.Ytkbhmajcddmhnaa

/- A range over an iterator that ends by itself: the statement. -/
namespace Go.Proofs.Ytkbhmajcddmhnaa
open Go.RowKit
set_option linter.unusedVariables false
set_option linter.unusedSimpArgs false

theorem wp_range {g : Operand} {ps : Array Tmp} {assign body : Code} {Q : Exit → Act → World → Prop} {a : Act} {w : World} {gf : Nat} {lb : Array Value} (hg : a.eval g = .func (.func gf) #[] lb) (eg : ∀ args w, (callFunc gf args).run Try.prog w = .ok (.enter gf args) w)
    (h : ∀ fn, Calls Try.prog gf (#[.func (.yield (w.heap.size + 1)) #[] #[]] ++ lb) ((w.alloc (.deferred (some []))).alloc (.loop (recOf fn a.tmps ps assign body w.heap.size .ready none)))
      (fun e W3 => (∃ v, e = .returned v) ∧ W3.heap[w.heap.size + 1]? = some (.loop (recOf fn a.tmps ps assign body w.heap.size .ready none)) ∧
        Q .normal { a with defers := { target := .collected w.heap.size, args := #[] } :: a.defers } (W3.putObj (w.heap.size + 1) (.loop (recOf fn a.tmps ps assign body w.heap.size .exhausted none))))) :
    (Code.rangeFunc g ps assign body).wp Try.prog Q a w := by
  refine (wpIn_wide (n := 0)).1 (wpIn_rangeFunc fun fn _ => ?_)
  have he := run_enterLoop_outer (P := Try.prog) (w := w) fn a.tmps ps assign body
  generalize hW1 : (w.alloc (.deferred (some []))).alloc (.loop { state := .ready, pending := none, fn := fn, tmps := a.tmps, params := ps, assign := assign, body := body, defers := w.heap.size }) = W1 at he
  have hcall := h fn
  unfold recOf at hcall
  rw [hW1] at hcall
  clear hW1 h
  refine ⟨w.heap.size + 1, [{ target := .collected w.heap.size, args := #[] }], W1, { target := .fn (.func gf) lb, args := #[.func (.yield (w.heap.size + 1)) #[] #[]] }, W1, gf, #[.func (.yield (w.heap.size + 1)) #[] #[]] ++ lb, W1, he, ?_, ?_, ?_, ?_, ?_⟩
  rotate_left
  · intro _ _; trivial
  rotate_left
  · intro hd; cases hd
  · refine callsIn_wide.2 (hcall.mono ?_)
    rintro e W3 ⟨⟨v, rfl⟩, h1, h2⟩
    exact ⟨none, _, run_endLoop h1 (by simp), h2⟩
  · simp only [resolve, hg]
    simp [go_sem]
  · simp [invoke, go_sem, eg]
end Go.Proofs.Ytkbhmajcddmhnaa

/- Contract: slices.Clone. -/
namespace Go.Proofs.Ytkbhmajcddmhnaa
open Go.RowKit
set_option linter.unusedVariables false
set_option linter.unusedSimpArgs false

def ClonePost (l : List Int) (w : World) (e : Ending) (w' : World) : Prop :=
  ∃ b o c, e = .returned (.slice (some ⟨b, o, none⟩) l.length c) ∧ Ext w w' ∧ w.heap.size ≤ b ∧ l.length ≤ c ∧ c ≤ maxLen ∧ IntsAt .i64 w' (some ⟨b, o, none⟩) l.length l
theorem made_none (w : World) : Owns (w.alloc (.cells #[] 3)) w.heap.size 3 1 (.slice (some ⟨w.heap.size, 0, none⟩) 0 0) [] :=
  ⟨⟨by simp, .inr ⟨w.heap.size, 0, #[], rfl, Nat.le_refl _, heap_alloc_new w _, by simp, by unfold maxLen; omega, by simp, by simp⟩⟩, by simp⟩
set_option maxRecDepth 100000 in
set_option maxHeartbeats 1000000 in
theorem clone_any (a : Option Addr) (n c : Nat) (l : List Int) (w : World) (hl : IntsAt .i64 w a n l) (hn : 0 < n) (hm : n ≤ 1000) : Calls Try.prog 60 #[.slice a n c] w (ClonePost l w) := by
  obtain ⟨b, off, ha, _⟩ := hl.2 hn
  subst ha
  have hln := hl.1
  have hx : Ext w (w.alloc (.cells #[] 3)) := (Ext.refl w).alloc _
  have hsrc := (hl.ext hx).src
  have hown := made_none w
  have hx' := hx
  have Hsrc := Lib.hid hsrc
  have Hown := Lib.hid hown
  have Hx' := Lib.hid hx'
  clear hsrc hown hx'
  clear hl hx
  have heq : (binOp .eql 24 (.slice (some ⟨b, off, none⟩) n c) (.slice none 0 0)).run Try.prog w = .ok (.bool false) w := by
    have := Go.Lib.run_eql_slice_nil (P := Try.prog) w 24 3 (some ⟨b, off, none⟩) n c 0 0 Try.underlying24
    simpa using this
  go_enter Try.func60, Try.ntmps60
  go_wp2_with (at_builtin; refine wpList_app elem24 _ rfl (.tmp 5) (.tmp 6) rfl w.heap.size _ _ rfl Hown.out (some ⟨b, off, none⟩) n c (intRows .i64 l) rfl (by simp [intRows, hln]) Hsrc.out (intRows_row _ _) ?_ ?_ ?_)
  · omega
  · intro v' w5 ho5 hg5 hor5
    go_wp2_with fail
    go_ret
    obtain ⟨a2, c2, rfl, hfr, h1, h2, hi⟩ := ints_of_owns ho5
    have hx5 : Ext w w5 := Hx'.out.app Hown.out hg5
    cases a2 with
    | none =>
      have := hi.2 (by omega)
      obtain ⟨_, _, e, _⟩ := this
      cases e
    | some x =>
      obtain ⟨b', o', hab, _⟩ := hi.2 (by omega)
      cases hab
      exact ⟨b', _, c2, rfl, hx5, hfr _ rfl, h1, h2, hi⟩
end Go.Proofs.Ytkbhmajcddmhnaa
