/- Contracts of layer 3: the first of some days. -/
import Derived.Test.YtcoelhpmkhimpaaGreatVGg
import Derived.ArgAppend
import Derived.Laws.CopyOwn
namespace Go.Proofs.YtcoelhpmkhimpaaGreat
open Go.RowKit
set_option linter.unusedVariables false
set_option linter.unusedSimpArgs false
/-- the least of the first k and one -/
def minTo (l : List Int) (k : Nat) (x : Int) : Int := (l.take k).foldl min x
theorem minTo_succ {l : List Int} {k : Nat} {y : Int} (h : l[k]? = some y) (x : Int) : minTo l (k + 1) x = min (minTo l k x) y := by
  unfold minTo
  rw [List.take_add_one, h, Option.toList_some, List.foldl_append]
  rfl
theorem if_min (a b : Int) : (if b < a then b else a) = min a b := by split <;> omega
set_option maxRecDepth 100000 in
theorem min_any (a : Option Addr) (n cap : Nat) (l : List Int) (x : Int) (w : World) (hl : IntsAt .i64 w a n l) (h0 : l[0]? = some x) (hn : n ≤ 1000) : Calls Tryz.prog 107 #[.slice a n cap] w fun e w' => e = .returned (.int .i64 (minTo l n x)) ∧ w' = w := by
  have hll := hl.1
  have hn0 : 0 < n := by have := (List.getElem?_eq_some_iff.1 h0).1; omega
  obtain ⟨b, off, y, rfl, hy, hb, c0⟩ := hl.get 0 hn0
  rw [h0] at hy
  cases hy
  have h1 : minTo l 1 x = x := by
    rw [minTo_succ h0]
    simp [minTo]
  have hnB : decide ((n : Int) < 1) = false := by simp; omega
  have hnC : decide (n < 1) = false := by simp; omega
  simp only [Nat.add_zero] at c0
  have Hl := Lib.hid hl
  have Hll := Lib.hid hll
  have H1 := Lib.hid h1
  have H0 := Lib.hid h0
  clear hl hll h1 h0
  go_enter Tryz.func107, Tryz.ntmps107
  go_wp2_with fail
  go_loopw [4, 3] (fun i m wr => ∃ k : Nat, 1 ≤ k ∧ k ≤ n ∧ i = .int .i64 k ∧ m = .int .i64 (minTo l k x) ∧ wr = w) (fun i _ _ => n - (intOf i).toNat)
  case atStart => exact ⟨1, by omega, by omega, rfl, by rw [H1.out], rfl⟩
  case round =>
    obtain ⟨k, hk1, hk, rfl, rfl, rfl⟩ := hrel
    clear c0
    by_cases hlt : k < n
    · have hltB : decide ((k : Int) < (n : Int)) = true := by simp; omega
      obtain ⟨b', off', z, e, hz, hb', c1⟩ := Hl.out.get k hlt
      cases e
      have hs := minTo_succ hz x
      generalize minTo l k x = A at *
      obtain ⟨B, hB⟩ : ∃ B, (if z < A then z else A) = B := ⟨_, rfl⟩
      rw [← if_min, hB] at hs
      have Hs := Lib.hid hs
      have Hz := Lib.hid hz
      clear hs hz
      go_wp2_with fail
      go_roundw
      case rel => exact ⟨k + 1, by omega, by omega, by go_num, by rw [Hs.out], trivial⟩
      case measure => simp [intOf]; omega
    · obtain rfl : k = n := by omega
      go_wp2_with fail
      go_ret
      exact ⟨rfl, rfl⟩
theorem ext_of_grown {w w' : World} (h : w.grownBy w' none) : Ext w w' := by
  obtain ⟨h1, h2, h3, h4, h5⟩ := h
  exact ⟨h1, h2, h3, h4, fun k hk => h5 k hk (by simp)⟩
theorem info3 : (Tryz.prog.info? 3).map (fun i => (i.zero, i.size, i.bytes)) = some (some (.int .i64 0), 1, 8) := by kernel_rfl
theorem intRows_flat (k : IntKind) (l : List Int) : (intRows k l).flatten = l.map (Value.int k) := by
  induction l with
  | nil => rfl
  | cons x r ih =>
    show (intRows k (x :: r)).flatten = _
    simp only [intRows, List.map_cons, List.flatten_cons] at *
    rw [ih]
    rfl
theorem owns_of_grow {w : World} {B e n : Nat} {k : IntKind} {v : Value} {l m : List Int} (h : w.ownsRow B e 1 v n (l.map (Value.int k) ++ m.map (Value.int k))) (hn : n = (l ++ m).length) : Owns w B e 1 v (intRows k (l ++ m)) := by
  subst hn
  refine ⟨?_, fun r hr => (intRows_row k _ r hr).1⟩
  rw [intRows_flat, List.map_append]
  simpa [intRows] using h
theorem one_cell : ∀ u ∈ [Value.int .i64 100001], u.oneCell' = true := by intro u hu; simp at hu; subst hu; rfl
theorem grown_ints {W w w' : World} {e n B : Nat} {v : Value} {l m : List Int} (hx : Ext W w) (ho : w'.ownsRow B e 1 v n (l.map (Value.int .i64) ++ m.map (Value.int .i64))) (hg : w.grownBy w' none) (hn : (l ++ m).length = n) :
    ∃ a c, v = .slice a n c ∧ Ext W w' ∧ IntsAt .i64 w' a n (l ++ m) := by
  obtain ⟨a, c, e, -, -, -, h⟩ := ints_of_owns (owns_of_grow ho hn.symm)
  rw [hn] at e h
  exact ⟨a, c, e, hx.trans (ext_of_grown hg), h⟩
end Go.Proofs.YtcoelhpmkhimpaaGreat

/- Contracts of layer 3: when one leaves. -/
namespace Go.Proofs.YtcoelhpmkhimpaaGreat
open Go.RowKit
set_option linter.unusedVariables false
set_option linter.unusedSimpArgs false
def stepLv (o s n a out : Int) : Int := if max a o + n - 1 ≤ s then min (min out (max a o)) 100001 else out
theorem leaveBy_snoc (o s : Gate → Int) (n a : Int) : ∀ (l : List Gate) (g : Gate) (out : Int), leaveBy o s n a (l ++ [g]) out = stepLv (o g) (s g) n a (leaveBy o s n a l out)
  | [], g, out => rfl
  | x :: l, g, out => by
    show leaveBy o s n a (l ++ [g]) _ = _
    rw [leaveBy_snoc o s n a l g]
    rfl
theorem leaveBy_take (o s : Gate → Int) (n a : Int) {l : List Gate} {k : Nat} {g : Gate} (h : l[k]? = some g) (out : Int) : leaveBy o s n a (l.take (k + 1)) out = stepLv (o g) (s g) n a (leaveBy o s n a (l.take k) out) := by
  rw [List.take_add_one, h, Option.toList_some, leaveBy_snoc]
theorem leaveBy_nonneg (o s : Gate → Int) (n a : Int) (ha : 0 ≤ a) : ∀ (l : List Gate) (out : Int), 0 ≤ out → 0 ≤ leaveBy o s n a l out
  | [], out, h => h
  | g :: l, out, h => by
    unfold leaveBy
    refine leaveBy_nonneg o s n a ha l _ ?_
    split <;> omega
/-- between two steps: the blocks p7 (the days) and p8 (what is found so far) -/
structure LvIn (w : World) (a0 a1 n0 n1 : Int) (C : Array Value) (p7 p8 : Nat) (o0 o1 : Int) (W : World) : Prop where
  ext : Ext w W
  cv : W.heap[w.heap.size]? = some (.cells C 153 (0, 0))
  ac : W.heap[w.heap.size + 1]? = some (.cells #[.int .i64 a0, .int .i64 a1] 157 (0, 0))
  rs : W.heap[w.heap.size + 1 + 1]? = some (.cells #[.int .i64 0, .int .i64 0] 157 (0, 0))
  ns : W.heap[p7]? = some (.cells #[.int .i64 n0, .int .i64 n1] 157 (0, 0))
  ou : W.heap[p8]? = some (.cells #[.int .i64 o0, .int .i64 o1] 157 (0, 0))
  m7 : w.heap.size + 1 + 1 < p7
  m8 : p7 < p8
theorem LvIn.next {w : World} {a0 a1 n0 n1 : Int} {C : Array Value} {p7 p8 : Nat} {o0 o1 : Int} {W W' : World} (h : LvIn w a0 a1 n0 n1 C p7 p8 o0 o1 W) (hx : Ext W W') : LvIn w a0 a1 n0 n1 C p7 p8 o0 o1 W' :=
  ⟨h.ext.trans hx, hx.heap h.cv, hx.heap h.ac, hx.heap h.rs, hx.heap h.ns, hx.heap h.ou, h.m7, h.m8⟩
theorem LvIn.put0 {w : World} {a0 a1 n0 n1 : Int} {C : Array Value} {p7 p8 : Nat} {o0 o1 : Int} {W : World} (h : LvIn w a0 a1 n0 n1 C p7 p8 o0 o1 W) (x : Int) : LvIn w a0 a1 n0 n1 C p7 p8 x o1 (W.setCell ⟨p8, 0, none⟩ (.int .i64 x)) := by
  have h7 := h.m7
  have h8 := h.m8
  have o : ∀ {k : Nat} {ob : Obj}, W.heap[k]? = some ob → k ≠ p8 → (W.setCell ⟨p8, 0, none⟩ (.int .i64 x)).heap[k]? = some ob := fun hk hne => (Below.heap_setCell _ _ _ _ hne).trans hk
  refine ⟨h.ext.setCell (p := ⟨p8, 0, none⟩) (by simp only; omega) _, o h.cv (by omega), o h.ac (by omega), o h.rs (by omega), o h.ns (by omega), ?_, h7, h8⟩
  rw [heap_setCell_box, h.ou]
  rfl
theorem LvIn.put1 {w : World} {a0 a1 n0 n1 : Int} {C : Array Value} {p7 p8 : Nat} {o0 o1 : Int} {W : World} (h : LvIn w a0 a1 n0 n1 C p7 p8 o0 o1 W) (x : Int) : LvIn w a0 a1 n0 n1 C p7 p8 o0 x (W.setCell ⟨p8, 1, none⟩ (.int .i64 x)) := by
  have h7 := h.m7
  have h8 := h.m8
  have o : ∀ {k : Nat} {ob : Obj}, W.heap[k]? = some ob → k ≠ p8 → (W.setCell ⟨p8, 1, none⟩ (.int .i64 x)).heap[k]? = some ob := fun hk hne => (Below.heap_setCell _ _ _ _ hne).trans hk
  refine ⟨h.ext.setCell (p := ⟨p8, 1, none⟩) (by simp only; omega) _, o h.cv (by omega), o h.ac (by omega), o h.rs (by omega), o h.ns (by omega), ?_, h7, h8⟩
  rw [heap_setCell_box, h.ou]
  rfl
/-- a gate is read: the blocks q1 (when it opens) and q2 (when it shuts) -/
structure LvGt (wr : World) (o0 o1 s0 s1 : Int) (q1 q2 : Nat) (W : World) : Prop where
  ext : Ext wr W
  op : W.heap[q1]? = some (.cells #[.int .i64 o0, .int .i64 o1] 157 (0, 0))
  sh : W.heap[q2]? = some (.cells #[.int .i64 s1, .int .i64 s0] 157 (0, 0))
  l1 : wr.heap.size ≤ q1
  l2 : wr.heap.size ≤ q2
theorem stepLv_in {o s n a out T : Int} (hT : (if a < o then o else a) = T) (h : T + n - 1 ≤ s) : min (min out T) 100001 = stepLv o s n a out := by
  have : max a o = T := by rw [← hT]; split <;> omega
  unfold stepLv
  rw [this, if_pos h]
theorem stepLv_out {o s n a out T : Int} (hT : (if a < o then o else a) = T) (h : ¬T + n - 1 ≤ s) : out = stepLv o s n a out := by
  have : max a o = T := by rw [← hT]; split <;> omega
  unfold stepLv
  rw [this, if_neg h]
end Go.Proofs.YtcoelhpmkhimpaaGreat
