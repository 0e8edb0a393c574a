/- Slices that a call makes itself, as lists of rows of cells; append. -/
import Derived.Test.YtcoelhpmkhimpaaGreatDoorBase
import Derived.Maps.AppendAt
namespace Go.Proofs.YtcoelhpmkhimpaaGreatDoor
open Go.RowKit
set_option linter.unusedVariables false

theorem Ext.grownBy {w w' : World} (h : Ext w w') : w.grownBy w' none := ⟨h.os, h.tape, h.output, h.size, fun k hk _ => h.block k hk⟩

/-- the slice v owns these rows of sz cells each, from block 'base' on -/
def Owns (w : World) (base : Nat) (e : TypeId) (sz : Nat) (v : Value) (rows : List (List Value)) : Prop :=
  w.ownsRow base e sz v rows.length rows.flatten ∧ ∀ r ∈ rows, r.length = sz

section
variable {w w' : World} {base : Nat} {e : TypeId} {sz : Nat} {v : Value} {rows : List (List Value)}
theorem Owns.nil (w : World) (base : Nat) (e : TypeId) (sz : Nat) : Owns w base e sz (.slice none 0 0) [] := ⟨World.ownsRow_nil _ _ _ _, by simp⟩
theorem Owns.kept {row : Option Nat} (h : Owns w base e sz v rows) (hg : w.grownBy w' row) (hne : v.ownBlock = none ∨ v.ownBlock ≠ row) : Owns w' base e sz v rows := ⟨h.1.kept hg hne, h.2⟩
theorem Owns.ext (h : Owns w base e sz v rows) (hx : Ext w w') : Owns w' base e sz v rows := h.kept hx.grownBy (by cases v.ownBlock <;> simp)
theorem Owns.alloc (h : Owns w base e sz v rows) (o : Obj) : Owns (w.alloc o) base e sz v rows := ⟨h.1.alloc o, h.2⟩
theorem Owns.drew (h : Owns w base e sz v rows) : Owns w.drew base e sz v rows := ⟨h.1, h.2⟩
theorem Owns.lt (h : Owns w base e sz v rows) : ∀ k, v.ownBlock = some k → base ≤ k ∧ k < w.heap.size := h.1.lt

theorem flatten_length {rows : List (List Value)} {sz : Nat} (h : ∀ r ∈ rows, r.length = sz) : rows.flatten.length = rows.length * sz := by
  induction rows with
  | nil => simp
  | cons r rows ih =>
    simp only [List.flatten_cons, List.length_append, List.length_cons]
    rw [ih (fun x hx => h x (List.mem_cons_of_mem _ hx)), h r (List.mem_cons_self ..), Nat.add_mul]
    omega
theorem flatten_get {sz : Nat} : ∀ {rows : List (List Value)}, (∀ r ∈ rows, r.length = sz) → ∀ (k j : Nat) (r : List Value), rows[k]? = some r → j < sz → rows.flatten[k * sz + j]? = r[j]?
  | [], _, k, j, r, hr, _ => by simp at hr
  | x :: rows, h, k, j, r, hr, hj => by
    have hx := h x (List.mem_cons_self ..)
    cases k with
    | zero =>
      simp only [List.getElem?_cons_zero, Option.some.injEq] at hr
      subst hr
      rw [List.flatten_cons, List.getElem?_append_left (by omega)]
      simp
    | succ k =>
      simp only [List.getElem?_cons_succ] at hr
      rw [List.flatten_cons, List.getElem?_append_right (by rw [hx, Nat.add_mul]; omega)]
      rw [hx, show (k + 1) * sz + j - sz = k * sz + j by rw [Nat.add_mul]; omega]
      exact flatten_get (fun y hy => h y (List.mem_cons_of_mem _ hy)) k j r hr hj
theorem flatten_inv {sz : Nat} : ∀ {rows : List (List Value)}, (∀ r ∈ rows, r.length = sz) → ∀ (i : Nat) (u : Value), rows.flatten[i]? = some u → ∃ k j r, i = k * sz + j ∧ j < sz ∧ rows[k]? = some r ∧ r[j]? = some u
  | [], _, i, u, hu => by simp at hu
  | x :: rows, h, i, u, hu => by
    have hx := h x (List.mem_cons_self ..)
    rw [List.flatten_cons] at hu
    rcases Nat.lt_or_ge i x.length with hi | hi
    · rw [List.getElem?_append_left hi] at hu
      exact ⟨0, i, x, by simp, by omega, rfl, hu⟩
    · rw [List.getElem?_append_right hi] at hu
      obtain ⟨k, j, r, e, hj, hr, hu⟩ := flatten_inv (fun y hy => h y (List.mem_cons_of_mem _ hy)) _ u hu
      exact ⟨k + 1, j, r, by rw [Nat.add_mul]; omega, hj, by simpa using hr, hu⟩

theorem addr_add (b k : Nat) : (⟨b, 0, none⟩ : Addr).add k = ⟨b, k, none⟩ := by unfold Addr.add; split <;> simp_all
theorem addr_add' (b o k : Nat) : (⟨b, o, none⟩ : Addr).add k = ⟨b, o + k, none⟩ := by unfold Addr.add; split <;> simp_all

theorem SlAt.congr {a : Option Addr} {n : Nat} {f g : Nat → List Value} (h : SlAt w sz a n f) (hfg : ∀ k, k < n → f k = g k) : SlAt w sz a n g :=
  fun hn => let ⟨b, off, ha, hc⟩ := h hn; ⟨b, off, ha, fun k hk => hfg k hk ▸ hc k hk⟩

/-- what is owned can be read -/
theorem Owns.slAt (h : Owns w base e sz v rows) : ∃ a c, v = .slice a rows.length c ∧ From base a ∧ rows.length ≤ c ∧ c ≤ maxLen ∧ SlAt w sz a rows.length (fun k => rows.getD k []) := by
  obtain ⟨ho, hr⟩ := h
  rcases ho.2 with ⟨rfl, h0⟩ | ⟨g, cap, cur, rfl, hg, _, hn, hcap, _, _⟩
  · have : rows = [] := List.length_eq_zero_iff.1 h0
    subst this
    exact ⟨none, 0, rfl, From.none _, Nat.le_refl _, by unfold maxLen; omega, fun h => absurd h (by simp)⟩
  · refine ⟨_, _, rfl, fun x hx => by cases hx; exact hg, hn, hcap, fun h0 => ⟨g, 0, rfl, fun k hk j u hu => ?_⟩⟩
    obtain ⟨r, hrk⟩ : ∃ r, rows[k]? = some r := ⟨rows[k], by simp⟩
    simp only [List.getD, hrk, Option.getD_some] at hu
    have hjs : j < sz := by
      have := hr r (List.mem_of_getElem? hrk)
      rcases Nat.lt_or_ge j r.length with h | h
      · omega
      · simp [List.getElem?_eq_none h] at hu
    have := ho.cells (g := g) rfl (k * sz + j) u (by rw [flatten_get hr k j r hrk hjs]; exact hu)
    rw [addr_add] at this
    simpa using this
end

theorem Ext.app {a b c : World} {e : TypeId} {sz : Nat} {v : Value} {rows : List (List Value)} (h : Ext a b) (ho : Owns b a.heap.size e sz v rows) (hg : b.grownBy c v.ownBlock) : Ext a c :=
  Below.grown h hg h.size (fun k hk => (ho.lt k hk).1)

/-- what the laws on append ask of a slice type's element -/
structure Elem (P : Program) (T e : TypeId) (sz : Nat) : Prop where
  ht : P.underlying T = some (.slice e)
  hi : ∃ i z bytes, P.info? e = some i ∧ i.zero = some z ∧ i.size = sz ∧ i.bytes = bytes ∧ z.cells.size = sz ∧ bytes ≤ 4096
  hsz : 0 < sz

theorem run_append_zero {P : Program} {w : World} {base : Nat} {T ty e : TypeId} {sz : Nat} {v : Value} {n : Nat} {xs : List Value} (E : Elem P T e sz) (hown : w.ownsRow base e sz v n xs) (xa : Option Addr) (c : Nat) :
    (Builtin.append_ #[T, T] ty #[v, .slice xa 0 c]).run P w = .ok v w := by
  obtain ⟨i, z, bytes, hi, _⟩ := E.hi
  rcases hown.2 with ⟨rfl, rfl⟩ | ⟨g, cap, cur, rfl, _, _, hnc, _⟩ <;> cases xa
  · simp [Builtin.append_, run_underlying E.ht, sizeOf, typeInfo, hi, Builtin.lenOf, Builtin.firstCells]
  · simp [Builtin.append_, run_underlying E.ht, sizeOf, typeInfo, hi, Builtin.lenOf, Builtin.firstCells, loadCells, loadCellsFrom]
  · simp [Builtin.append_, run_underlying E.ht, sizeOf, typeInfo, hi, Builtin.lenOf, Builtin.firstCells, hnc, storeCells]
  · simp [Builtin.append_, run_underlying E.ht, sizeOf, typeInfo, hi, Builtin.lenOf, Builtin.firstCells, hnc, storeCells, loadCells, loadCellsFrom]

/-- append onto what is the call's own -/
theorem wpList_app {P : Program} {T e : TypeId} {sz : Nat} (E : Elem P T e sz) (w : World) {ops : Array Oper} {rest : List Oper} {o : Oper} {a : Act} {Q : Exit → Act → World → Prop} (hgd : o.guard = none) (s x : Operand)
    (ho : o.op = .call { callee := .builtin .append, args := #[s, x], argTypes := #[T, T] })
    (base : Nat) (v : Value) (rows : List (List Value)) (hs : a.eval s = v) (hown : Owns w base e sz v rows)
    (xa : Option Addr) (m c : Nat) (news : List (List Value)) (hx : a.eval x = .slice xa m c) (hm : news.length = m) (hsrc : SlAt w sz xa m (fun k => news.getD k []))
    (hrow : ∀ r ∈ news, r.length = sz ∧ ∀ u ∈ r, u.oneCell' = true) (hlen : rows.length + m ≤ 1000000000) (hbase : base ≤ w.heap.size)
    (h : ∀ v' w', Owns w' base e sz v' (rows ++ news) → w.grownBy w' v.ownBlock → (v'.ownBlock = v.ownBlock ∨ v'.ownBlock = some w.heap.size) → wpList P ops Q rest (a.put o.dst v') w') :
    wpList P ops Q (o :: rest) a w := by
  by_cases h0 : m = 0
  · subst h0
    obtain rfl : news = [] := List.length_eq_zero_iff.1 hm
    refine wpList_plain hgd fun K hK => ?_
    have hr := run_append_zero (P := P) (ty := o.type) E hown.1 xa c
    unfold Oper.wp execOp
    simp only [ho, resolve, invoke, builtin, Sem.run_bind, Sem.run_pure, Result.andThen_ok, List.map_toArray, List.map_cons, List.map_nil, hs, hx, hr]
    exact hK _ _ (h v w (by simpa using hown) (World.grownBy.refl w _) (.inl rfl))
  · obtain ⟨i, z, bytes, hi, hz, h1, h2, h3, h4⟩ := E.hi
    obtain ⟨b, off, rfl, hc⟩ := hsrc (by omega)
    refine wpList_append_own_at w hgd s x T ho base e i z sz bytes E.ht hi hz h1 h2 h3 E.hsz v rows.length rows.flatten hs hown.1 ⟨b, off, none⟩ m c news.flatten hx ?_ ?_ ?_ ?_ ?_ hbase ?_
    · rw [flatten_length (fun r hr => (hrow r hr).1), hm]
    · intro j u hu
      obtain ⟨k, j', r, rfl, hj', hr, hu'⟩ := flatten_inv (fun r hr => (hrow r hr).1) j u hu
      have hk : k < m := by
        rcases Nat.lt_or_ge k news.length with h | h
        · omega
        · simp [List.getElem?_eq_none h] at hr
      have := hc k hk j' u (by simp only [List.getD, hr, Option.getD_some]; exact hu')
      rw [addr_add', ← Nat.add_assoc]
      exact this
    · intro u hu
      obtain ⟨r, hr, hu'⟩ := List.mem_flatten.1 hu
      exact (hrow r hr).2 u hu'
    · unfold maxLen; omega
    · have : (rows.length + m) * bytes ≤ 1000000000 * 4096 := Nat.mul_le_mul hlen h4
      omega
    · intro v' w' o1 o2 _ o3
      refine h v' w' ⟨by rw [List.length_append, List.flatten_append, hm]; exact o1, fun r hr => ?_⟩ o2 o3
      rcases List.mem_append.1 hr with hr | hr
      · exact hown.2 r hr
      · exact (hrow r hr).1

/-! ### lists of numbers -/
def intRows (k : IntKind) (l : List Int) : List (List Value) := l.map fun z => [.int k z]
theorem intRows_append (k : IntKind) (l m : List Int) : intRows k (l ++ m) = intRows k l ++ intRows k m := by simp [intRows]
theorem intRows_row (k : IntKind) (l : List Int) : ∀ r ∈ intRows k l, r.length = 1 ∧ ∀ u ∈ r, u.oneCell' = true := by
  intro r hr
  obtain ⟨z, _, rfl⟩ := List.mem_map.1 hr
  exact ⟨rfl, fun u hu => by simp at hu; subst hu; rfl⟩
theorem IntsAt.src {k : IntKind} {w : World} {a : Option Addr} {n : Nat} {l : List Int} (h : IntsAt k w a n l) : SlAt w 1 a n (fun i => (intRows k l).getD i []) :=
  h.2.congr fun i hi => by
    have : i < l.length := by rw [h.1]; exact hi
    simp [intRows, List.getD, List.getElem?_map, List.getElem?_eq_getElem this]
theorem ints_of_owns {k : IntKind} {w : World} {B : Nat} {e : TypeId} {v : Value} {l : List Int} (h : Owns w B e 1 v (intRows k l)) : ∃ a c, v = .slice a l.length c ∧ From B a ∧ l.length ≤ c ∧ c ≤ maxLen ∧ IntsAt k w a l.length l := by
  obtain ⟨a, c, hv, h0, h1, h2, h3⟩ := h.slAt
  have e : (intRows k l).length = l.length := by simp [intRows]
  rw [e] at hv h1 h3
  refine ⟨a, c, hv, h0, h1, h2, rfl, h3.congr fun i hi => ?_⟩
  simp [intRows, List.getD, List.getElem?_map, List.getElem?_eq_getElem hi]
/-- one value, in a new block of its own -/
theorem slAt_one {w : World} {sz b : Nat} {r : List Value} (h : Cells w b 0 r) : SlAt w sz (some ⟨b, 0, none⟩) 1 (fun k => [r].getD k []) :=
  fun _ => ⟨b, 0, rfl, fun k hk => by
    obtain rfl : k = 0 := by omega
    simpa using h⟩
theorem cells_one {w : World} {b : Nat} {v : Value} (h : w.cell? ⟨b, 0, none⟩ = some v) : Cells w b 0 [v] := by
  intro j u hu
  cases j with
  | zero => simp at hu; subst hu; simpa using h
  | succ j => simp at hu

/-! ### a block of cells that is written cell by cell -/
def setIn (i : Nat) (v : Value) : Obj → Obj
  | .cells c e f => .cells (c.setIfInBounds i v) e f
  | o => o
theorem heap_setCell_box (w : World) (g i : Nat) (v : Value) : (w.setCell ⟨g, i, none⟩ v).heap[g]? = (w.heap[g]?).map (setIn i v) := by
  simp only [World.setCell, Array.getElem?_modify, if_true]
  congr 1
theorem setIn_cells (i : Nat) (v : Value) (c : Array Value) (e : TypeId) (f : Nat × Nat) : setIn i v (.cells c e f) = .cells (c.setIfInBounds i v) e f := rfl

/-- two results, the first one an aggregate in a variable of its own -/
theorem results_cell_tmp {P : Program} {fn : Func} {p t : Tmp} {ty : TypeId} (h : fn.results = #[.cell p ty, .tmp t]) (tmps : Array Value) (w : World) (g : Nat) (T : TypeId) (cs : Array Value) (fr : Nat × Nat) (d : TypeDesc)
    (hp : tmps.getD p undef = .pointer (some ⟨g, 0, none⟩)) (hg : w.heap[g]? = some (.cells cs T fr))
    (hu : P.underlying ty = some d) (hd : (match d with | .struct _ | .array _ _ => true | _ => false) = true) (hi : (P.info? ty).map (·.size) = some cs.size) :
    (results fn tmps).run P w = .ok (.tuple #[.agg cs, tmps.getD t undef]) w := by
  have hp' : tmps[p]?.getD undef = .pointer (some ⟨g, 0, none⟩) := by simpa using hp
  simp [results, h, hp', asAddr, run_loadVar_row w g T ty cs fr d hg hu hd hi]
end Go.Proofs.YtcoelhpmkhimpaaGreatDoor
