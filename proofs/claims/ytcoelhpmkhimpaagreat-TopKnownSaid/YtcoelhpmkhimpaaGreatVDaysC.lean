/- Contract of layer 1: Days, where the animal lives. -/
import Derived.Test.YtcoelhpmkhimpaaGreatVGe
import Derived.Test.YtcoelhpmkhimpaaGreatVLastsC
import Derived.Test.YtcoelhpmkhimpaaGreatVWalkC
import Derived.Test.YtcoelhpmkhimpaaGreatVUnl
import Derived.Test.YtcoelhpmkhimpaaGreatVGb
namespace Go.Proofs.YtcoelhpmkhimpaaGreat
open Go.RowKit
set_option linter.unusedVariables false
set_option linter.unusedSimpArgs false
attribute [local go_sem] Oper.semAt_some
def DaysPost (r : List Camel × Int) (w : World) (e : Ending) (w' : World) : Prop := ∃ a cp, e = .returned (.tuple #[.slice a r.1.length cp, .int .u8 r.2, .int .i64 0, .int .i64 0]) ∧ From w.heap.size a ∧ r.1.length ≤ cp ∧ cp ≤ maxLen ∧ CamelsAt w' a r.1.length r.1 ∧ Ext w w'
/-- the block that the slice in box p leads to -/
def OwnIn (p : Nat) (A : World) (b : Nat) : Prop := ∃ v, A.heap[p]? = some (.cells #[v] 113 (0, 0)) ∧ v.ownBlock = some b
structure KpS (O : Nat → Prop) (p : Nat) (A B : World) : Prop where
  kp : KpO (fun b => O b ∨ OwnIn p A b) A B
  own : ∀ b, OwnIn p B b → OwnIn p A b ∨ A.heap.size ≤ b
theorem KpS.trans {O : Nat → Prop} {p : Nat} {A B C : World} (h : KpS O p A B) (k : KpS O p B C) : KpS O p A C := by
  refine ⟨⟨Nat.le_trans h.kp.size k.kp.size, fun b o hb hc hn => ?_⟩, fun b hb => ?_⟩
  · refine k.kp.block b o (h.kp.block b o hb hc hn) hc (fun q => ?_)
    rcases q with q | q
    · exact hn (.inl q)
    · rcases h.own b q with q | q
      · exact hn (.inr q)
      · have := heap_lt hb
        omega
  · rcases k.own b hb with q | q
    · exact h.own b q
    · exact .inr (Nat.le_trans h.kp.size q)
theorem kpS_put {O : Nat → Prop} {p n : Nat} (hp : p < n) (W : World) (l : Nat) (o o' : Obj) (h : n ≤ l) (hl : W.heap[l]? = some o) (ho : o.isCells = false) (hw : o.isWalk = false) : KpS O p W (W.putObj l o') := by
  refine ⟨kpO_b (n := n) W l o o' h hl ho hw, fun b ⟨v, hv, hb⟩ => .inl ⟨v, ?_, hb⟩⟩
  exact (World.putObj_heap_other (by omega)).symm.trans hv
theorem kpS_ext {O : Nat → Prop} {p n : Nat} (hp : p < n) {A B : World} (h : n ≤ A.heap.size) (hx : Ext A B) : KpS O p A B :=
  ⟨hx.kpO _, fun b ⟨v, hv, hb⟩ => .inl ⟨v, (Below.block hx p (by omega)).symm.trans hv, hb⟩⟩
/-- what is so in the loop -/
structure DaysI (w : World) (B0 : Nat) (pre : List DayStep) (V : World) : Prop where
  ext : Ext w V
  all : ∃ v, V.heap[w.heap.size + 1 + 1]? = some (.cells #[v] 113 (0, 0)) ∧ Owns V B0 31 7 v (camelRows (pre.map (·.c)))
  fate : V.heap[w.heap.size + 1 + 1 + 1]? = some (.cells #[.int .u8 (fateL pre)] 5 (0, 0))
  at' : V.heap[w.heap.size + 1 + 1 + 1 + 1]? = some (.cells #[.int .i64 0] 3 (0, 0))
  er : V.heap[w.heap.size + 1 + 1 + 1 + 1 + 1]? = some (.cells #[.int .i64 0] 45 (0, 0))
  low : B0 ≤ V.heap.size
def daysV (p B0 : Nat) (A : World) : Prop := p < A.heap.size ∧ ∀ b, OwnIn p A b → B0 ≤ b ∧ b < A.heap.size
theorem DaysI.v {w : World} {B0 : Nat} {pre : List DayStep} {A : World} (h : DaysI w B0 pre A) : daysV (w.heap.size + 1 + 1) B0 A := by
  obtain ⟨v, hv, ho⟩ := h.all
  refine ⟨heap_lt hv, fun b ⟨v', hv', hb⟩ => ?_⟩
  rw [hv] at hv'
  cases hv'
  exact ho.lt b hb
theorem Owns.butF {O : Nat → Prop} {lo B : Nat} {e : TypeId} {sz : Nat} {v : Value} {rows : List (List Value)} {A C : World} (h : Owns A B e sz v rows) (k : ButF O lo A C) (hn : ∀ b, v.ownBlock = some b → ¬O b) : Owns C B e sz v rows := by
  refine ⟨⟨h.1.1, ?_⟩, h.2⟩
  rcases h.1.2 with q | ⟨g, cap, cur, e1, e2, e3, e4⟩
  · exact .inl q
  · exact .inr ⟨g, cap, cur, e1, e2, k.cells e3 (hn g (by rw [e1]; rfl)), e4⟩
theorem Owns.cellsAt {B : Nat} {e : TypeId} {sz : Nat} {v : Value} {rows : List (List Value)} {A : World} (h : Owns A B e sz v rows) {b : Nat} (hb : v.ownBlock = some b) : ∃ cs, A.heap[b]? = some (.cells cs e (0, 0)) := by
  rcases h.1.2 with ⟨rfl, _⟩ | ⟨g, cap, cur, rfl, e2, e3, e4⟩
  · cases hb
  · cases hb
    exact ⟨cur, e3⟩
theorem DaysI.f {w : World} {B0 pa lo : Nat} {pre : List DayStep} {A B : World} (h : DaysI w B0 pre A) (h1 : w.heap.size ≤ pa) (h2 : w.heap.size ≤ lo) (h3 : w.heap.size + 1 + 1 + 1 + 1 + 1 < pa) (h4 : pa < B0) (k : ButF (fun b => b = pa) lo A B) : DaysI w B0 pre B := by
  obtain ⟨v, hv, ho⟩ := h.all
  refine ⟨ButF.ext h.ext k (fun b hb => by subst hb; exact h1) h2, ⟨v, k.cells hv (by omega), ho.butF k (fun b hb => by have := (ho.lt b hb).1; omega)⟩, k.cells h.fate (by omega), k.cells h.at' (by omega), k.cells h.er (by omega), Nat.le_trans h.low k.size⟩
theorem KpO.mono {O O' : Nat → Prop} {A B : World} (h : KpO O A B) (hO : ∀ b, O b → O' b) : KpO O' A B := ⟨h.size, fun b o hb hc hn => h.block b o hb hc (fun q => hn (hO b q))⟩
theorem But.kpO {O : Nat → Prop} {A B : World} (h : But O A B) : KpO O A B := ⟨h.size, fun b o hb _ hn => h.block b o hb hn⟩
theorem But.mono {O O' : Nat → Prop} {A B : World} (h : But O A B) (hO : ∀ b, O b → O' b) : But O' A B := ⟨h.os, h.tape, h.output, h.size, fun b o hb hn => h.block b o hb (fun q => hn (hO b q))⟩
theorem kpS_days {O : Nat → Prop} {p B0 : Nat} {wr A B : World} (hV : daysV p B0 wr) (hx : Ext wr A) (k : KpS O p A B) : KpO (fun b => O b ∨ (B0 ≤ b ∧ b < wr.heap.size)) A B :=
  k.kp.mono fun b hb => hb.imp id fun ⟨v, hv, ho⟩ => hV.2 b ⟨v, (Below.block hx p hV.1).symm.trans hv, ho⟩
theorem days_step {w W Wa : World} {B0 k : Nat} {pre : List DayStep} {x : DayStep} {v v' : Value} {M : Int} (hI : DaysI w B0 pre W) (hv : W.heap[w.heap.size + 1 + 1]? = some (.cells #[v] 113 (0, 0))) (ho : Owns W B0 31 7 v (camelRows (pre.map (·.c))))
    (hb : But (fun b => v.ownBlock = some b) W Wa) (ho' : Owns Wa B0 31 7 v' (camelRows (pre.map (·.c)) ++ camelRows [x.c])) (hown : v'.ownBlock = v.ownBlock ∨ v'.ownBlock = some k) (hk : W.heap.size ≤ k) (hks : KeepsOthers W Wa) (hB : w.heap.size + 1 + 1 + 1 + 1 + 1 < B0) (hM : M = fateL (pre ++ [x])) :
    KeepsOthers W ((Wa.setCell ⟨w.heap.size + 1 + 1, 0, none⟩ v').setCell ⟨w.heap.size + 1 + 1 + 1, 0, none⟩ (.int .u8 M)) ∧ KpS (fun b => b = w.heap.size + 1 + 1 ∨ b = w.heap.size + 1 + 1 + 1) (w.heap.size + 1 + 1) W ((Wa.setCell ⟨w.heap.size + 1 + 1, 0, none⟩ v').setCell ⟨w.heap.size + 1 + 1 + 1, 0, none⟩ (.int .u8 M)) ∧
    DaysI w B0 (pre ++ [x]) ((Wa.setCell ⟨w.heap.size + 1 + 1, 0, none⟩ v').setCell ⟨w.heap.size + 1 + 1 + 1, 0, none⟩ (.int .u8 M)) := by
  have hlt := ho.lt
  have hn : ∀ b, b < B0 → ¬v.ownBlock = some b := fun b hb h => by have := (hlt b h).1; omega
  have hva := hb.block _ _ hv (hn _ (by omega))
  have hfa := hb.block _ _ hI.fate (hn _ (by omega))
  have hset : But (fun b => b = w.heap.size + 1 + 1 ∨ b = w.heap.size + 1 + 1 + 1) Wa ((Wa.setCell ⟨w.heap.size + 1 + 1, 0, none⟩ v').setCell ⟨w.heap.size + 1 + 1 + 1, 0, none⟩ (.int .u8 M)) := (But.setCell (O := fun b => b = w.heap.size + 1 + 1 ∨ b = w.heap.size + 1 + 1 + 1) Wa v' (.inl rfl)).trans (But.setCell (O := fun b => b = w.heap.size + 1 + 1 ∨ b = w.heap.size + 1 + 1 + 1) _ _ (.inr rfl))
  have hva' : ((Wa.setCell ⟨w.heap.size + 1 + 1, 0, none⟩ v').setCell ⟨w.heap.size + 1 + 1 + 1, 0, none⟩ (.int .u8 M)).heap[w.heap.size + 1 + 1]? = some (.cells #[v'] 113 (0, 0)) := by
    refine (Below.heap_setCell _ _ _ _ (by simp only; omega)).trans ?_
    rw [heap_setCell_box, hva]
    rfl
  refine ⟨(hks.trans (KeepsOthers.setCell _ _ _)).trans (KeepsOthers.setCell _ _ _), ⟨?_, ?_⟩, ?_⟩
  · exact (hb.kpO.mono fun b h => .inr ⟨v, hv, h⟩).trans (hset.kpO.mono fun b h => .inl h)
  · rintro b ⟨u, hu, hub⟩
    rw [hva'] at hu
    cases hu
    rcases hown with q | q
    · exact .inl ⟨v, hv, by rw [← q]; exact hub⟩
    · rw [q] at hub
      cases hub
      exact .inr hk
  · refine ⟨?_, ⟨v', hva', ?_⟩, ?_, ?_, ?_, Nat.le_trans hI.low (Nat.le_trans hb.size hset.size)⟩
    · have h1 := But.ext hI.ext hb (fun b h => by have := (hlt b h).1; omega)
      exact But.ext h1 hset (fun b h => by omega)
    · rw [List.map_append, List.map_cons, List.map_nil, camelRows_append]
      exact ho'.butF (hset.f 0) (fun b h => by have := (ho'.lt b h).1; omega)
    · rw [heap_setCell_box, (Below.heap_setCell _ _ _ _ (by simp only; omega)).trans hfa, hM]
      rfl
    · exact hset.block _ _ (hb.block _ _ hI.at' (hn _ (by omega))) (by omega)
    · exact hset.block _ _ (hb.block _ _ hI.er (hn _ (by omega))) (by omega)
def daysTm (b c s : Value) (q : Nat) (g pr p11 f bv fv : Value) : Array Value :=
  #[b, c, s, .pointer (some ⟨q, 0, none⟩), .pointer (some ⟨q + 1, 0, none⟩), undef, .pointer (some ⟨q + 1 + 1, 0, none⟩), .pointer (some ⟨q + 1 + 1 + 1, 0, none⟩), .pointer (some ⟨q + 1 + 1 + 1 + 1, 0, none⟩), .pointer (some ⟨q + 1 + 1 + 1 + 1 + 1, 0, none⟩), .int .i64 0, p11, f, b, c, s, .int .i64 0, .int .i64 0, .bool false, undef, b, c, g, s, pr, bv, fv,
    undef, undef, undef, undef, undef, undef, undef, undef, undef, undef, undef, undef, undef, undef, undef]
/-- the theorem of Unl, in a round -/
theorem wpIn_region_E {P : Program} {E : Nat → World → World → Prop} {Q : Exit → Act → World → Prop} {l id : Nat} {l0 : List Oper} {a : Act} {w : World} (hm : P.follows .mixedOrders = true) (hd : l0.toArray.all noDefer = true) (h : Closed l0.toArray (Array.replicate l0.toArray.size false) → wpAnyE P l0.toArray (normalOnly Q) E l0.toArray.size (Array.replicate l0.toArray.size false) a w.drew) : (Code.region id l0.toArray true).wpIn (Fence.wide.inRound l) 0 P Q a w := by
  have key := wpAny_of_E _ _ _ _ (h (closed_none _ _))
  have key2 := wpAnyIn_of_wpAny (l := l) hd (fun ⟨_, _, e⟩ => e) _ _ _ _ key
  exact wpIn_mono (wpIn_region_any (Q := normalOnly Q) hm key2) fun e a w hq => by cases e <;> first | exact hq | exact hq.elim
/-- what the operations of region 9 keep -/
def E9 (ob : Option Nat) (p6 k : Nat) (w w' : World) : Prop := k ≠ 9 → But (fun b => ob = some b ∨ (b = p6 ∧ k = 8)) w w'
theorem E9.read (ob : Option Nat) (p6 k : Nat) (w : World) : E9 ob p6 k w w := fun _ => But.refl _ _
theorem E9.keepA {ob : Option Nat} {p6 k : Nat} {w0 w w' : World} (hk : ([0, 1, 2, 3, 4, 5, 6, 7, 8] : List Nat).contains k = true ∨ 10 ≤ k) (hS : But (fun b => ob = some b ∨ b = p6) w0 w) (h : E9 ob p6 k w w') : But (fun b => ob = some b ∨ b = p6) w0 w' :=
  hS.trans ((h (by rintro rfl; rcases hk with h | h <;> simp at h)).mono fun b hb => hb.imp id And.left)
theorem E9.keepB {ob : Option Nat} {p6 k : Nat} {w0 w w' : World} (hk : ([0, 1, 2, 3, 5, 6, 7] : List Nat).contains k = true ∨ 10 ≤ k) (hS : But (fun b => ob = some b) w0 w) (h : E9 ob p6 k w w') : But (fun b => ob = some b) w0 w' :=
  hS.trans ((h (by rintro rfl; rcases hk with h | h <;> simp at h)).mono fun b hb => hb.elim id fun q => by obtain ⟨_, rfl⟩ := q; rcases hk with h | h <;> simp at h)
def E10 (p6 k : Nat) (w w' : World) : Prop := (k = 3 ∨ k = 4 ∨ k = 5) ∨ But (fun b => b = p6 ∧ k = 2) w w'
theorem E10.read (p6 k : Nat) (w : World) : E10 p6 k w w := .inr (But.refl _ _)
theorem E10.keepA {p6 k : Nat} {w0 w w' : World} (hk : ([0, 1] : List Nat).contains k = true ∨ 6 ≤ k) (hS : But (fun _ => False) w0 w) (h : E10 p6 k w w') : But (fun _ => False) w0 w' := by
  have hk' : k = 0 ∨ k = 1 ∨ 6 ≤ k := by
    rcases hk with h | h
    · simp at h; omega
    · omega
  rcases h with h | h
  · omega
  · exact hS.trans (h.mono fun b hb => by omega)
theorem E10.keepB {p6 k : Nat} {w0 w w' : World} (hk : ([0, 1, 2] : List Nat).contains k = true ∨ 6 ≤ k) (hS : But (fun b => b = p6) w0 w) (h : E10 p6 k w w') : But (fun b => b = p6) w0 w' := by
  have hk' : k = 0 ∨ k = 1 ∨ k = 2 ∨ 6 ≤ k := by
    rcases hk with h | h
    · simp at h; omega
    · omega
  rcases h with h | h
  · omega
  · exact hS.trans (h.mono fun b hb => hb.1)
theorem camel_src (W : World) (c : Camel) : SlAt (W.alloc (.cells c.cells.toArray 31)) 7 (some ⟨W.heap.size, 0, none⟩) 1 (fun k => (camelRows [c]).getD k []) :=
  slAt_one (fun j v hv => by
    rw [cell_of_row _ _ _ _ 31 (0, 0) (heap_alloc_new W _), Nat.zero_add, List.getElem?_toArray]
    exact hv)
theorem Owns.lower {B B' : Nat} {e : TypeId} {sz : Nat} {v : Value} {rows : List (List Value)} {A : World} (h : Owns A B e sz v rows) (hB : B' ≤ B) : Owns A B' e sz v rows := by
  refine ⟨⟨h.1.1, ?_⟩, h.2⟩
  rcases h.1.2 with q | ⟨g, cap, cur, e1, e2, e3⟩
  · exact .inl q
  · exact .inr ⟨g, cap, cur, e1, Nat.le_trans hB e2, e3⟩
/-- the four results' boxes at the end -/
structure DEnd (w : World) (D B0 : Nat) (v : Value) (rows : List (List Value)) (x6 x7 x8 x9 : Value) (V : World) : Prop where
  v6 : V.heap[w.heap.size + 1 + 1]? = some (.cells #[x6] 113 (0, 0))
  v7 : V.heap[w.heap.size + 1 + 1 + 1]? = some (.cells #[x7] 5 (0, 0))
  v8 : V.heap[w.heap.size + 1 + 1 + 1 + 1]? = some (.cells #[x8] 3 (0, 0))
  v9 : V.heap[w.heap.size + 1 + 1 + 1 + 1 + 1]? = some (.cells #[x9] 45 (0, 0))
  own : Owns V B0 31 7 v rows
  ext : Ext w V
  kd : V.heap[D]? = some (.deferred (some []))
  low : w.heap.size + 1 + 1 + 1 + 1 + 1 < B0
theorem DEnd.set6 {w : World} {D B0 : Nat} {v : Value} {rows : List (List Value)} {x6 x7 x8 x9 : Value} {V : World} (h : DEnd w D B0 v rows x6 x7 x8 x9 V) (y : Value) : DEnd w D B0 v rows y x7 x8 x9 (V.setCell ⟨w.heap.size + 1 + 1, 0, none⟩ y) := by
  have hb := But.setCell (O := fun b => b = w.heap.size + 1 + 1) V (i := 0) y rfl
  have hl := h.low
  exact ⟨by rw [heap_setCell_box, h.v6]; rfl, hb.block _ _ h.v7 (by omega), hb.block _ _ h.v8 (by omega), hb.block _ _ h.v9 (by omega), h.own.butF (hb.f 0) (fun b q => by have := (h.own.lt b q).1; omega), But.ext h.ext hb (fun b q => by omega), (KeepsOthers.setCell V _ _).same D _ h.kd rfl, hl⟩
theorem DEnd.set7 {w : World} {D B0 : Nat} {v : Value} {rows : List (List Value)} {x6 x7 x8 x9 : Value} {V : World} (h : DEnd w D B0 v rows x6 x7 x8 x9 V) (y : Value) : DEnd w D B0 v rows x6 y x8 x9 (V.setCell ⟨w.heap.size + 1 + 1 + 1, 0, none⟩ y) := by
  have hb := But.setCell (O := fun b => b = w.heap.size + 1 + 1 + 1) V (i := 0) y rfl
  have hl := h.low
  exact ⟨hb.block _ _ h.v6 (by omega), by rw [heap_setCell_box, h.v7]; rfl, hb.block _ _ h.v8 (by omega), hb.block _ _ h.v9 (by omega), h.own.butF (hb.f 0) (fun b q => by have := (h.own.lt b q).1; omega), But.ext h.ext hb (fun b q => by omega), (KeepsOthers.setCell V _ _).same D _ h.kd rfl, hl⟩
theorem DEnd.set8 {w : World} {D B0 : Nat} {v : Value} {rows : List (List Value)} {x6 x7 x8 x9 : Value} {V : World} (h : DEnd w D B0 v rows x6 x7 x8 x9 V) (y : Value) : DEnd w D B0 v rows x6 x7 y x9 (V.setCell ⟨w.heap.size + 1 + 1 + 1 + 1, 0, none⟩ y) := by
  have hb := But.setCell (O := fun b => b = w.heap.size + 1 + 1 + 1 + 1) V (i := 0) y rfl
  have hl := h.low
  exact ⟨hb.block _ _ h.v6 (by omega), hb.block _ _ h.v7 (by omega), by rw [heap_setCell_box, h.v8]; rfl, hb.block _ _ h.v9 (by omega), h.own.butF (hb.f 0) (fun b q => by have := (h.own.lt b q).1; omega), But.ext h.ext hb (fun b q => by omega), (KeepsOthers.setCell V _ _).same D _ h.kd rfl, hl⟩
theorem DEnd.set9 {w : World} {D B0 : Nat} {v : Value} {rows : List (List Value)} {x6 x7 x8 x9 : Value} {V : World} (h : DEnd w D B0 v rows x6 x7 x8 x9 V) (y : Value) : DEnd w D B0 v rows x6 x7 x8 y (V.setCell ⟨w.heap.size + 1 + 1 + 1 + 1 + 1, 0, none⟩ y) := by
  have hb := But.setCell (O := fun b => b = w.heap.size + 1 + 1 + 1 + 1 + 1) V (i := 0) y rfl
  have hl := h.low
  exact ⟨hb.block _ _ h.v6 (by omega), hb.block _ _ h.v7 (by omega), hb.block _ _ h.v8 (by omega), by rw [heap_setCell_box, h.v9]; rfl, h.own.butF (hb.f 0) (fun b q => by have := (h.own.lt b q).1; omega), But.ext h.ext hb (fun b q => by omega), (KeepsOthers.setCell V _ _).same D _ h.kd rfl, hl⟩
set_option maxRecDepth 100000 in
set_option maxHeartbeats 8000000 in
theorem days_any (s : Breed) (c : Camel) (l : List March) (la : Option Addr) (ln lc : Nat) (r : List Camel × Int) (w : World) (hl : DaysAt w la ln l) (h0 : askDays s c l = 0) (hd : daysOf s c l = some r) (hlc : ln ≤ lc) (hlm : lc ≤ maxLen) (hla : ∀ x, la = some x → x.block < w.heap.size) :
    Calls Tryz.prog 52 #[s.val, c.val, .slice la ln lc] w (DaysPost r w) := by
  obtain ⟨hbo, hco, hl60, hdo⟩ := ask_zero h0
  have hll := hl.1
  have hck := fun W (hW : Ext w W) => check_any s c la ln lc l W (hl.ext hW) (by omega)
  simp only [h0] at hck
  have hfn := fun W => daysFn_any s c la ln lc W
  rw [beastVal_eq] at hfn
  obtain ⟨hmap, hfate, h01⟩ := days_seq hd
  rw [← fateL_eq] at hfate
  have hsl := seq_len s l c
  obtain ⟨Q, hQ⟩ : ∃ Q, DaysPost r w = Q := ⟨_, rfl⟩
  obtain ⟨W0, hW0⟩ : ∃ W0, (((((w.alloc (.cells s.cells.toArray 29)).alloc (.cells c.cells.toArray 31)).alloc (.cells #[.slice none 0 0] 113)).alloc (.cells #[.int .u8 0] 5)).alloc (.cells #[.int .i64 0] 3)).alloc (.cells #[.int .i64 0] 45) = W0 := ⟨_, rfl⟩
  have hx0 : Ext w W0 := by rw [← hW0]; exact ((((((Ext.refl w).alloc _).alloc _).alloc _).alloc _).alloc _).alloc _
  have hb0 : W0.heap[w.heap.size]? = some (.cells s.cells.toArray 29 (0, 0)) := by rw [← hW0]; exact alloc_heap (alloc_heap (alloc_heap (alloc_heap (alloc_heap (heap_alloc_new w _) _) _) _) _) _
  have hc0 : W0.heap[w.heap.size + 1]? = some (.cells c.cells.toArray 31 (0, 0)) := by rw [← hW0]; exact alloc_heap (alloc_heap (alloc_heap (alloc_heap (alloc_at _ _ _ (by simp)) _) _) _) _
  have h60 : W0.heap[w.heap.size + 1 + 1]? = some (.cells #[.slice none 0 0] 113 (0, 0)) := by rw [← hW0]; exact alloc_heap (alloc_heap (alloc_heap (alloc_at _ _ _ (by simp)) _) _) _
  have h70 : W0.heap[w.heap.size + 1 + 1 + 1]? = some (.cells #[.int .u8 0] 5 (0, 0)) := by rw [← hW0]; exact alloc_heap (alloc_heap (alloc_at _ _ _ (by simp)) _) _
  have h80 : W0.heap[w.heap.size + 1 + 1 + 1 + 1]? = some (.cells #[.int .i64 0] 3 (0, 0)) := by rw [← hW0]; exact alloc_heap (alloc_at _ _ _ (by simp)) _
  have h90 : W0.heap[w.heap.size + 1 + 1 + 1 + 1 + 1]? = some (.cells #[.int .i64 0] 45 (0, 0)) := by rw [← hW0]; exact alloc_at _ _ _ (by simp)
  have hst := fun (W : World) (pl pa : Nat) (O : Nat → Prop) (h1 : W.heap[pl]? = some (.cells #[.slice la ln lc] 92 (0, 0))) (h2 : W.heap[pa]? = some (.cells (bCells s c).toArray 96 (0, 0))) (h3 : DaysAt W la ln l) => days_stopsK 1 pl pa la ln lc l s c O W h1 h2 h3 hbo hco hdo (by omega) hlc hlm
  unfold bCells at hfn hst
  obtain ⟨N, hN⟩ : ∃ N, (seqOf s c l).length = N := ⟨_, rfl⟩
  obtain ⟨ys, hys⟩ : ∃ ys, seqOf s c l = ys := ⟨_, rfl⟩
  rw [hys] at hst hmap hfate h01 hN hsl
  rw [hN] at hst hsl
  rw [hQ]
  have hfin : ∀ v W', Owns W' w.heap.size 31 7 v (camelRows (ys.map (·.c))) → Ext w W' → Q (.returned (.tuple #[v, .int .u8 (fateL ys), .int .i64 0, .int .i64 0])) W' := fun v W' ho hx => by
    obtain ⟨a, cp, rfl, h1, h2, h3, h4⟩ := camels_of_owns ho
    rw [← hQ]
    rw [hmap] at h2 h4 ⊢
    rw [hfate]
    exact ⟨a, cp, rfl, h1, h2, h3, h4, hx⟩
  clear hQ hys h0 hd hmap hfate
  obtain ⟨fu, fe, ⟨r0, r1⟩, ⟨h0, h1⟩, ⟨t0, t1⟩, ⟨b0, b1⟩, ⟨u0, u1⟩, ⟨m0, m1⟩, hz, ⟨s0, s1⟩⟩ := s
  obtain ⟨⟨w0, w1⟩, ⟨k0, k1⟩, ⟨o0, o1⟩, mk⟩ := c
  unfold Breed.val Camel.val at hck ⊢
  unfold Breed.cells at hb0 hW0
  unfold Camel.cells at hc0 hW0
  simp only at hck hfn hst hb0 hc0 hW0 ⊢
  have Hck := Lib.hid hck
  have Hfn := Lib.hid hfn
  have Hx0 := Lib.hid hx0
  have Hb0 := Lib.hid hb0
  have Hc0 := Lib.hid hc0
  have H60 := Lib.hid h60
  have H70 := Lib.hid h70
  have H80 := Lib.hid h80
  have H90 := Lib.hid h90
  have Hfin := Lib.hid hfin
  have Hst := Lib.hid hst
  have Hla := Lib.hid hla
  have H01 := Lib.hid h01
  have Hbo := Lib.hid hbo
  have Hco := Lib.hid hco
  have Hdo := Lib.hid hdo
  have Hl := Lib.hid hl
  clear hck hfn hx0 hb0 hc0 h60 h70 h80 h90 hfin hst hla h01 hbo hco hdo hl
  refine (callsIn_wide (n := 2)).1 ?_
  refine callsIn_of_wp_marks Tryz.func52 rfl trivial ?_ rfl
  simp only [Tryz.ntmps52, List.size_toArray, List.length_cons, List.length_nil, Nat.reduceAdd, Nat.reduceSub, Array.replicate_succ, Array.replicate_zero, List.push_toArray, List.append_toArray, List.nil_append, List.cons_append]
  refine wpIn_wide.2 ?_
  go_wp2_with (first | (refine wpList_load_row rfl 29 (.tmp 3) rfl w.heap.size rfl 29 _ (0, 0) _ (by first | exact Hb0.out | exact hb1) Tryz.underlying29 rfl (by kernel_rfl) ?_) | (refine wpList_load_row rfl 31 (.tmp 4) rfl (w.heap.size + 1) rfl 31 _ (0, 0) _ (by first | exact Hc0.out | exact hc1) Tryz.underlying31 rfl (by kernel_rfl) ?_) | (go_at_call 39; refine (Hck.out _ Hx0.out).mono ?_; rintro e v1 ⟨rfl, hx1⟩; have hb1 := hx1.heap Hb0.out; have hc1 := hx1.heap Hc0.out) | (go_at_call 40; refine (Hfn.out _).mono ?_; rintro e v4 ⟨rfl, rfl⟩))
  have hx1w := Hx0.out.trans hx1
  have hx4 : Ext w ((v1.alloc (.cells #[.int .i64 fu, .int .i64 fe, .int .i64 r0, .int .i64 r1, .int .i64 h0, .int .i64 h1, .int .i64 t0, .int .i64 t1, .int .i64 b0, .int .i64 b1, .int .i64 u0, .int .i64 u1, .int .i64 m0, .int .i64 m1, .int .i64 hz, .int .i64 s0, .int .i64 s1, .int .i64 w0, .int .i64 w1, .int .i64 k0, .int .i64 k1, .int .i64 o0, .int .i64 o1, .bool mk] 96)).alloc (.cells #[.slice la ln lc] 92)) := (hx1w.alloc _).alloc _
  have hx14 : Ext v1 ((v1.alloc (.cells #[.int .i64 fu, .int .i64 fe, .int .i64 r0, .int .i64 r1, .int .i64 h0, .int .i64 h1, .int .i64 t0, .int .i64 t1, .int .i64 b0, .int .i64 b1, .int .i64 u0, .int .i64 u1, .int .i64 m0, .int .i64 m1, .int .i64 hz, .int .i64 s0, .int .i64 s1, .int .i64 w0, .int .i64 w1, .int .i64 k0, .int .i64 k1, .int .i64 o0, .int .i64 o1, .bool mk] 96)).alloc (.cells #[.slice la ln lc] 92)) := ((Ext.refl v1).alloc _).alloc _
  have hpa : ((v1.alloc (.cells #[.int .i64 fu, .int .i64 fe, .int .i64 r0, .int .i64 r1, .int .i64 h0, .int .i64 h1, .int .i64 t0, .int .i64 t1, .int .i64 b0, .int .i64 b1, .int .i64 u0, .int .i64 u1, .int .i64 m0, .int .i64 m1, .int .i64 hz, .int .i64 s0, .int .i64 s1, .int .i64 w0, .int .i64 w1, .int .i64 k0, .int .i64 k1, .int .i64 o0, .int .i64 o1, .bool mk] 96)).alloc (.cells #[.slice la ln lc] 92)).heap[v1.heap.size]? = some (.cells #[.int .i64 fu, .int .i64 fe, .int .i64 r0, .int .i64 r1, .int .i64 h0, .int .i64 h1, .int .i64 t0, .int .i64 t1, .int .i64 b0, .int .i64 b1, .int .i64 u0, .int .i64 u1, .int .i64 m0, .int .i64 m1, .int .i64 hz, .int .i64 s0, .int .i64 s1, .int .i64 w0, .int .i64 w1, .int .i64 k0, .int .i64 k1, .int .i64 o0, .int .i64 o1, .bool mk] 96 (0, 0)) := alloc_heap (heap_alloc_new v1 _) _
  have hpl : ((v1.alloc (.cells #[.int .i64 fu, .int .i64 fe, .int .i64 r0, .int .i64 r1, .int .i64 h0, .int .i64 h1, .int .i64 t0, .int .i64 t1, .int .i64 b0, .int .i64 b1, .int .i64 u0, .int .i64 u1, .int .i64 m0, .int .i64 m1, .int .i64 hz, .int .i64 s0, .int .i64 s1, .int .i64 w0, .int .i64 w1, .int .i64 k0, .int .i64 k1, .int .i64 o0, .int .i64 o1, .bool mk] 96)).alloc (.cells #[.slice la ln lc] 92)).heap[v1.heap.size + 1]? = some (.cells #[.slice la ln lc] 92 (0, 0)) := alloc_at _ _ _ (by simp)
  have hsz4 : ((v1.alloc (.cells #[.int .i64 fu, .int .i64 fe, .int .i64 r0, .int .i64 r1, .int .i64 h0, .int .i64 h1, .int .i64 t0, .int .i64 t1, .int .i64 b0, .int .i64 b1, .int .i64 u0, .int .i64 u1, .int .i64 m0, .int .i64 m1, .int .i64 hz, .int .i64 s0, .int .i64 s1, .int .i64 w0, .int .i64 w1, .int .i64 k0, .int .i64 k1, .int .i64 o0, .int .i64 o1, .bool mk] 96)).alloc (.cells #[.slice la ln lc] 92)).heap.size = v1.heap.size + 1 + 1 := by simp
  have h9l := heap_lt (hx1.heap H90.out)
  have h6 := hx14.heap (hx1.heap H60.out)
  have h7 := hx14.heap (hx1.heap H70.out)
  have h8 := hx14.heap (hx1.heap H80.out)
  have h9 := hx14.heap (hx1.heap H90.out)
  generalize ((v1.alloc (.cells #[.int .i64 fu, .int .i64 fe, .int .i64 r0, .int .i64 r1, .int .i64 h0, .int .i64 h1, .int .i64 t0, .int .i64 t1, .int .i64 b0, .int .i64 b1, .int .i64 u0, .int .i64 u1, .int .i64 m0, .int .i64 m1, .int .i64 hz, .int .i64 s0, .int .i64 s1, .int .i64 w0, .int .i64 w1, .int .i64 k0, .int .i64 k1, .int .i64 o0, .int .i64 o1, .bool mk] 96)).alloc (.cells #[.slice la ln lc] 92)) = W4 at *
  generalize v1.heap.size = pa at *
  have hI0 : DaysI w W4.heap.size [] W4 := ⟨hx4, ⟨_, h6, Owns.nil _ _ _ _⟩, h7, h8, h9, Nat.le_refl _⟩
  have hseq := Hst.out W4 (pa + 1) pa (fun b => b = w.heap.size + 1 + 1 ∨ b = w.heap.size + 1 + 1 + 1) hpl hpa (Hl.out.ext hx4) (by omega) (by omega) (fun x hx => by have := Hla.out x hx; omega) (by omega) (fun b hb => by omega) (daysV (w.heap.size + 1 + 1) W4.heap.size) (KpS (fun b => b = w.heap.size + 1 + 1 ∨ b = w.heap.size + 1 + 1 + 1) (w.heap.size + 1 + 1)) (fun wr A B h1 h2 h3 => kpS_days h1 h2 h3)
  have Hseq := Lib.hid hseq
  have HI0 := Lib.hid hI0
  clear hseq hI0
  clear hx4 hx14 hpa hpl h6 h7 h8 h9 hx1 hx1w hb1 hc1 Hst Hck Hfn Hl hW0 Hb0 Hc0 H60 H70 H80 H90 Hx0
  refine (wpIn_wide (n := 2)).1 (wpIn_rangeFunc_box rfl (by omega) (gf := 65) (lb := #[.pointer (some ⟨pa + 1, 0, none⟩), .pointer (some ⟨pa, 0, none⟩)]) rfl trivial (enters_of Tryz.func65 (by kernel_rfl) rfl) Hseq.out (fun h k => h.trans k) (fun W l o o' h hl ho hw => kpS_put (by omega) W l o o' h hl ho hw) (Ext.refl _) (fun b hb => by subst hb; omega) (fun _ => rfl)
    (DaysI w W4.heap.size) (fun c pre V => ∃ x ∈ pre, x.f = 2)
    (fun q A B h k => h.f (by omega) (by omega) (by omega) (by omega) k)
    (fun c q A B h k => h)
    HI0.out (fun q A h => h.v) (fun h hx => kpS_ext (by omega) h hx)
    (fun x a V => ∃ p, a = { tmps := daysTm (.agg #[.int .i64 fu, .int .i64 fe, .int .i64 r0, .int .i64 r1, .int .i64 h0, .int .i64 h1, .int .i64 t0, .int .i64 t1, .int .i64 b0, .int .i64 b1, .int .i64 u0, .int .i64 u1, .int .i64 m0, .int .i64 m1, .int .i64 hz, .int .i64 s0, .int .i64 s1]) (.agg #[.int .i64 w0, .int .i64 w1, .int .i64 k0, .int .i64 k1, .int .i64 o0, .int .i64 o1, .bool mk]) (.slice la ln lc) w.heap.size (.agg #[.int .i64 fu, .int .i64 fe, .int .i64 r0, .int .i64 r1, .int .i64 h0, .int .i64 h1, .int .i64 t0, .int .i64 t1, .int .i64 b0, .int .i64 b1, .int .i64 u0, .int .i64 u1, .int .i64 m0, .int .i64 m1, .int .i64 hz, .int .i64 s0, .int .i64 s1, .int .i64 w0, .int .i64 w1, .int .i64 k0, .int .i64 k1, .int .i64 o0, .int .i64 o1, .bool mk]) (.func (.func 65) #[] #[.pointer (some ⟨pa + 1, 0, none⟩), .pointer (some ⟨pa, 0, none⟩)]) (.pointer (some ⟨p, 0, none⟩)) (.int .u8 x.f) (beastVal x.b x.c) (.int .u8 x.f), defers := [] } ∧ V.heap[p]? = some (.cells (bCells x.b x.c).toArray 96 (0, 0)))
    (fun x a B C h k => h.imp fun p h => ⟨h.1, k.cells h.2 id⟩) ?assign ?body ?done ?stop)
  case assign =>
    intro l x W K hs hK
    obtain ⟨xb, xc, xf⟩ := x
    have ez : (#[25, 26] : Array Tmp).zip (DayStep.enc ⟨xb, xc, xf⟩) = #[(25, beastVal xb xc), (26, .int .u8 xf)] := by simp [DayStep.enc]
    rw [ez]
    show Code.wpIn _ _ _ _ _ { tmps := daysTm (.agg #[.int .i64 fu, .int .i64 fe, .int .i64 r0, .int .i64 r1, .int .i64 h0, .int .i64 h1, .int .i64 t0, .int .i64 t1, .int .i64 b0, .int .i64 b1, .int .i64 u0, .int .i64 u1, .int .i64 m0, .int .i64 m1, .int .i64 hz, .int .i64 s0, .int .i64 s1]) (.agg #[.int .i64 w0, .int .i64 w1, .int .i64 k0, .int .i64 k1, .int .i64 o0, .int .i64 o1, .bool mk]) (.slice la ln lc) w.heap.size (.agg #[.int .i64 fu, .int .i64 fe, .int .i64 r0, .int .i64 r1, .int .i64 h0, .int .i64 h1, .int .i64 t0, .int .i64 t1, .int .i64 b0, .int .i64 b1, .int .i64 u0, .int .i64 u1, .int .i64 m0, .int .i64 m1, .int .i64 hz, .int .i64 s0, .int .i64 s1, .int .i64 w0, .int .i64 w1, .int .i64 k0, .int .i64 k1, .int .i64 o0, .int .i64 o1, .bool mk]) (.func (.func 65) #[] #[.pointer (some ⟨pa + 1, 0, none⟩), .pointer (some ⟨pa, 0, none⟩)]) undef undef (.agg (bCells xb xc).toArray) (.int .u8 xf), defers := [] } W
    dsimp only [daysTm]
    gi_wp2_with (refine wpListR_store_row rfl 96 (.tmp 11) (.tmp 25) rfl W.heap.size (bCells xb xc).toArray rfl rfl 96 zbCells (heap_alloc_new W _) (by kernel_rfl) (by kernel_rfl) (by kernel_rfl) ?_)
    refine hK _ _ ?_ ⟨W.heap.size, rfl, ?_⟩
    · exact below_setRow ((Ext.refl W).alloc _) (Nat.le_refl _) _
    · exact setRow_heap _ W.heap.size _ (bCells xb xc).toArray 96 (0, 0) (heap_alloc_new W _)
  case body =>
    intro l pre x a' W hI hA hlt
    obtain ⟨p, rfl, hp⟩ := hA
    obtain ⟨v, hv, ho⟩ := hI.all
    have hpl := heap_lt hp
    have hfl := heap_lt hI.er
    have hvl := heap_lt hv
    have hn60 : pre.length ≤ 60 := by omega
    obtain ⟨xb, xc, xf⟩ := x
    unfold bCells at hp
    simp only at hp
    dsimp only [daysTm]
    by_cases h2 : xf = 2
    · have h2B : (xf == 2) = true := by simpa using h2
      obtain ⟨va, vc, rfl, -, k1, k2, -⟩ := camels_of_owns ho
      simp only [List.length_map] at hv k1
      unfold maxLen at k2
      obtain ⟨y0, y1⟩ := (Ext.refl W).box hv
      obtain ⟨y2, y3⟩ := (Ext.refl W).box hI.fate
      obtain ⟨y4, y5⟩ := (Ext.refl W).box hI.at'
      obtain ⟨y6, y7⟩ := (Ext.refl W).box hI.er
      have HI := Lib.hid hI
      have H2 := Lib.hid h2
      have Ho := Lib.hid ho
      clear hI h2 ho
      clear hp
      gi_wp2
      exact ⟨(((KeepsOthers.setCell _ _ _).trans (KeepsOthers.setCell _ _ _)).trans (KeepsOthers.setCell _ _ _)).trans (KeepsOthers.setCell _ _ _), ⟨xb, xc, xf⟩, by simp, H2.out⟩
    · have h2B : (xf == 2) = false := by simpa using h2
      have hpo : ∀ q, v.ownBlock = some q → q ≠ p := fun q hq e => by
        subst e
        obtain ⟨cs, hcs⟩ := ho.cellsAt hq
        rw [hcs] at hp
        cases hp
      have hvo : ∀ q, v.ownBlock = some q → w.heap.size + 1 + 1 + 1 + 1 + 1 < q := fun q hq => by have := (ho.lt q hq).1; omega
      have hp6 : w.heap.size + 1 + 1 ≠ p := fun e => by rw [e, hp] at hv; cases hv
      have hfa := hI.fate
      obtain ⟨F, hF⟩ : ∃ F, fateL pre = F := ⟨_, rfl⟩
      obtain ⟨M, hM⟩ : ∃ M, (if F < xf then xf else F) = M := ⟨_, rfl⟩
      have hMe : M = fateL (pre ++ [(⟨xb, xc, xf⟩ : DayStep)]) := by
        rw [fateL_snoc, hF, ← hM]
        simp only
        split <;> omega
      rw [hF] at hfa
      have hrl : (camelRows (pre.map (·.c))).length = pre.length := by simp [camelRows]
      have hWr : (Ext.refl W).drew = (Ext.refl W).drew := rfl
      have hv0 := ((Ext.refl W).drew).heap hv
      have hS1 : But (fun b => v.ownBlock = some b ∨ b = w.heap.size + 1 + 1) W W.drew := ((Ext.refl W).drew).but _
      have hS2 : But (fun b => v.ownBlock = some b) W W.drew := ((Ext.refl W).drew).but _
      obtain ⟨⟨cw0, cw1⟩, ⟨ck0, ck1⟩, ⟨co0, co1⟩, cmk⟩ := xc
      simp only at hp
      have HI := Lib.hid hI
      have Hp := Lib.hid hp
      have Hv := Lib.hid hv
      have Ho := Lib.hid ho
      have Hpo := Lib.hid hpo
      have Hvo := Lib.hid hvo
      have Hfa := Lib.hid hfa
      have HMe := Lib.hid hMe
      have Hrl := Lib.hid hrl
      have HS1 := Lib.hid hS1
      have HS2 := Lib.hid hS2
      clear hI hp hv ho hpo hvo hfa hMe hrl hS1 hS2
      clear hWr h2
      gi_wp2
      refine wpIn_region_E (E := E9 v.ownBlock (w.heap.size + 1 + 1)) (by kernel_rfl) (by kernel_rfl) (fun hcl => ?_)
      refine anyE_take [1, 2, 5, 6, 7] [0, 1, 2, 3, 4, 5, 6, 7, 8] (But (fun b => v.ownBlock = some b ∨ b = w.heap.size + 1 + 1) W) 5 _ hcl (by kernel_rfl) rfl HS1.out (fun k hk w => E9.read _ _ k w) (fun k hk w w' hS h => E9.keepA hk hS h) ?_
      intro ι _ f hf
      have f0 := fun q => ((hf q).box Hp.out (fun h => h.elim (fun h => Hpo.out _ h rfl) (fun h => hp6 h.symm))).1
      have f1 := fun q => ((hf q).box Hfa.out (fun h => h.elim (fun h => by have := Hvo.out _ h; omega) (fun h => by omega))).1
      clear hf
      simp only [opsOf, consOp, List.getElem?_toArray, List.getElem?_cons_succ, List.getElem?_cons_zero]
      repeat (go_big_quiet_step (fail))
      refine wpQuiet_nil ?_
      clear f0 f1 hcl
      intro hcl
      refine anyE_take [0] [0, 1, 2, 3, 5, 6, 7] (But (fun b => v.ownBlock = some b) W) 4 _ hcl (by kernel_rfl) rfl HS2.out (fun k hk w => E9.read _ _ k w) (fun k hk w w' hS h => E9.keepB hk hS h) ?_
      intro ι _ f hf
      have f0 := fun q => ((hf q).box Hv.out (fun h => by have := Hvo.out _ h; omega)).1
      clear hf
      simp only [opsOf, consOp, List.getElem?_toArray, List.getElem?_cons_succ, List.getElem?_cons_zero]
      repeat (go_big_quiet_step (fail))
      refine wpQuiet_nil ?_
      clear f0 hcl
      intro hcl
      refine anyE_one (k := 3) (by kernel_rfl) (by simp only [List.getElem?_toArray, List.getElem?_cons_succ, List.getElem?_cons_zero]; rfl) hcl ?_
      clear hcl
      go_wp2_with fail
      have hx3 : Ext W (W.alloc (.cells #[.int .i64 cw0, .int .i64 cw1, .int .i64 ck0, .int .i64 ck1, .int .i64 co0, .int .i64 co1, .bool cmk] 31)).drew := ((Ext.refl W).alloc _).drew
      refine ⟨fun _ => ((Ext.refl W.drew).alloc _).but _, fun hcl => ?_⟩
      refine anyE_one (k := 4) (by kernel_rfl) (by simp only [List.getElem?_toArray, List.getElem?_cons_succ, List.getElem?_cons_zero]; rfl) hcl ?_
      clear hcl
      go_wp2_with (at_builtin; refine wpList_app elem49 _ rfl (.tmp 32) (.tmp 35) rfl W4.heap.size v (camelRows (pre.map (fun z : DayStep => z.c))) rfl (Ho.out.ext hx3) (some ⟨W.heap.size, 0, none⟩) 1 1 (camelRows [⟨⟨cw0, cw1⟩, ⟨ck0, ck1⟩, ⟨co0, co1⟩, cmk⟩]) rfl rfl ((camel_src W ⟨⟨cw0, cw1⟩, ⟨ck0, ck1⟩, ⟨co0, co1⟩, cmk⟩).ext (Ext.refl _).drew) (camelRows_row _) (by rw [Hrl.out]; simp [camelRows]; omega) (by have := HI.out.low; have := hx3.size; omega) ?_; intro v8 w8 ho8 hg8 hq8)
      have ho9 := ho8
      rw [← camelRows_append] at ho9
      obtain ⟨va8, vc8, rfl, -, -, -, -⟩ := camels_of_owns ho9
      clear ho9
      obtain ⟨n8, hn8⟩ : ∃ n8, (pre.map (fun z : DayStep => z.c) ++ [(⟨⟨cw0, cw1⟩, ⟨ck0, ck1⟩, ⟨co0, co1⟩, cmk⟩ : Camel)]).length = n8 := ⟨_, rfl⟩
      rw [hn8] at ho8 hq8 ⊢
      clear hn8
      have hb8 := (hx3.but (fun b => v.ownBlock = some b)).trans (but_grown hg8)
      have hk8 : KeepsOthers W w8 := (show KeepsOthers W (W.alloc (.cells #[.int .i64 cw0, .int .i64 cw1, .int .i64 ck0, .int .i64 ck1, .int .i64 co0, .int .i64 co1, .bool cmk] 31)).drew from ⟨(KeepsOthers.alloc W (.cells #[.int .i64 cw0, .int .i64 cw1, .int .i64 ck0, .int .i64 ck1, .int .i64 co0, .int .i64 co1, .bool cmk] 31)).size, (KeepsOthers.alloc W (.cells #[.int .i64 cw0, .int .i64 cw1, .int .i64 ck0, .int .i64 ck1, .int .i64 co0, .int .i64 co1, .bool cmk] 31)).same⟩).trans (KeepsOthers.of_grownBy hg8 (fun j o hj hjo => by
        obtain ⟨cs, hcs⟩ := Ho.out.cellsAt hj
        rw [hx3.heap hcs] at hjo
        cases hjo
        rfl))
      have h68 := hb8.block _ _ Hv.out (fun h => by have := Hvo.out _ h; omega)
      have h78 := hb8.block _ _ Hfa.out (fun h => by have := Hvo.out _ h; omega)
      obtain ⟨y0, y1⟩ := (Ext.refl w8).box h68
      have hl6 := heap_lt h68
      have hl7 := heap_lt h78
      refine ⟨fun _ => (but_grown hg8).mono fun b hb => .inl hb, fun hcl => ?_⟩
      have Hg8 := Lib.hid hg8
      have Hb8 := Lib.hid hb8
      have Hk8 := Lib.hid hk8
      have H68 := Lib.hid h68
      have H78 := Lib.hid h78
      have Ho8 := Lib.hid ho8
      have Hq8 := Lib.hid hq8
      have Hx3 := Lib.hid hx3
      clear hg8 hb8 hk8 h68 h78 ho8 hq8 hx3
      refine anyE_one (k := 8) (by kernel_rfl) (by simp only [List.getElem?_toArray, List.getElem?_cons_succ, List.getElem?_cons_zero]; rfl) hcl ?_
      clear hcl
      go_wp2_with fail
      refine ⟨fun _ => But.setCell w8 (.slice va8 n8 vc8) (.inr ⟨rfl, rfl⟩), fun hcl => ?_⟩
      have h79 := (Below.heap_setCell w8 ⟨w.heap.size + 1 + 1, 0, none⟩ (.slice va8 n8 vc8) (w.heap.size + 1 + 1 + 1) (by simp only; omega)).trans H78.out
      obtain ⟨y2, y3⟩ := (Ext.refl _).box h79
      clear y0 y1
      have H79 := Lib.hid h79
      clear h79
      refine anyE_one (k := 9) (by kernel_rfl) (by simp only [List.getElem?_toArray, List.getElem?_cons_succ, List.getElem?_cons_zero]; rfl) hcl ?_
      clear hcl
      go_wp2_with fail
      refine ⟨fun h => absurd rfl h, fun hcl => ?_⟩
      refine anyE_done (by kernel_rfl) ?_
      exact days_step HI.out Hv.out Ho.out Hb8.out Ho8.out Hq8.out Hx3.out.size Hk8.out (by omega) HMe.out
  case done =>
    rintro D xs W hD rfl hI hK
    obtain ⟨v, hv, ho⟩ := hI.all
    obtain ⟨va, vc, rfl, -, k1, k2, -⟩ := camels_of_owns ho
    obtain ⟨n9, hn9⟩ : ∃ n9, (xs.map (fun z : DayStep => z.c)).length = n9 := ⟨_, rfl⟩
    rw [hn9] at hv ho
    obtain ⟨F, hF⟩ : ∃ F, fateL xs = F := ⟨_, rfl⟩
    have hfin := fun W' h1 h2 => Hfin.out (.slice va n9 vc) W' h1 h2
    rw [hF] at hfin
    have hfa := hI.fate
    rw [hF] at hfa
    have hat := hI.at'
    have her := hI.er
    have hIe := hI.ext
    have hl9 := heap_lt her
    have hlo := ho.lt
    have hBw : w.heap.size + 1 + 1 + 1 + 1 + 1 < W4.heap.size := by omega
    have hS1 : But (fun _ => False) W W.drew := ((Ext.refl W).drew).but _
    have hS2 : But (fun b => b = w.heap.size + 1 + 1) W W.drew := ((Ext.refl W).drew).but _
    clear hI hF hn9 k1 k2 Hfin
    have Hv := Lib.hid hv
    have Ho := Lib.hid ho
    have Hfin := Lib.hid hfin
    have Hfa := Lib.hid hfa
    have Hat := Lib.hid hat
    have Her := Lib.hid her
    have HIe := Lib.hid hIe
    have HS1 := Lib.hid hS1
    have HS2 := Lib.hid hS2
    have Hlo := Lib.hid hlo
    clear hv ho hfin hfa hat her hIe hS1 hS2 hlo
    gi_wp2
    go_wp2_with fail
    refine wp_region_E (E := E10 (w.heap.size + 1 + 1)) (by kernel_rfl) (fun hcl => ?_)
    refine anyE_take [0] [0, 1] (But (fun _ => False) W) 5 _ hcl (by kernel_rfl) rfl HS1.out (fun k hk w => E10.read _ k w) (fun k hk w w' hS h => E10.keepA hk hS h) ?_
    intro ι _ f hf
    have f0 := fun q => ((hf q).box Hv.out id).1
    clear hf
    simp only [opsOf, consOp, List.getElem?_toArray, List.getElem?_cons_succ, List.getElem?_cons_zero]
    repeat (go_big_quiet_step (fail))
    refine wpQuiet_nil ?_
    clear f0 hcl
    intro hcl
    refine anyE_take [1] [0, 1, 2] (But (fun b => b = w.heap.size + 1 + 1) W) 4 _ hcl (by kernel_rfl) rfl HS2.out (fun k hk w => E10.read _ k w) (fun k hk w w' hS h => E10.keepB hk hS h) ?_
    intro ι _ f hf
    have f0 := fun q => ((hf q).box Hfa.out (by omega)).1
    clear hf
    simp only [opsOf, consOp, List.getElem?_toArray, List.getElem?_cons_succ, List.getElem?_cons_zero]
    repeat (go_big_quiet_step (fail))
    refine wpQuiet_nil ?_
    clear f0 hcl
    intro hcl
    have hD0 : DEnd w D W4.heap.size (.slice va n9 vc) (camelRows (xs.map (fun z : DayStep => z.c))) (.slice va n9 vc) (.int .u8 F) (.int .i64 0) (.int .i64 0) W.drew := ⟨((Ext.refl W).drew).heap Hv.out, ((Ext.refl W).drew).heap Hfa.out, ((Ext.refl W).drew).heap Hat.out, ((Ext.refl W).drew).heap Her.out, Ho.out.ext ((Ext.refl W).drew), HIe.out.drew, hK, hBw⟩
    generalize W.drew = W5 at *
    obtain ⟨y0, y1⟩ := (Ext.refl W5).box hD0.v6
    have hl0 := heap_lt hD0.v6
    have HD0 := Lib.hid hD0
    clear hD0
    refine anyE_one (k := 2) (by kernel_rfl) (by simp only [List.getElem?_toArray, List.getElem?_cons_succ, List.getElem?_cons_zero]; rfl) hcl ?_
    clear hcl
    go_wp2_with fail
    refine ⟨.inr (But.setCell W5 (.slice va n9 vc) ⟨rfl, rfl⟩), fun hcl => ?_⟩
    have hD1 := HD0.out.set6 (.slice va n9 vc)
    generalize W5.setCell ⟨w.heap.size + 1 + 1, 0, none⟩ (.slice va n9 vc) = W6 at *
    clear y0 y1
    obtain ⟨y0, y1⟩ := (Ext.refl W6).box hD1.v7
    have hl1 := heap_lt hD1.v7
    have HD1 := Lib.hid hD1
    clear hD1
    refine anyE_one (k := 3) (by kernel_rfl) (by simp only [List.getElem?_toArray, List.getElem?_cons_succ, List.getElem?_cons_zero]; rfl) hcl ?_
    clear hcl
    go_wp2_with fail
    refine ⟨.inl (by omega), fun hcl => ?_⟩
    have hD2 := HD1.out.set7 (.int .u8 F)
    generalize W6.setCell ⟨w.heap.size + 1 + 1 + 1, 0, none⟩ (.int .u8 F) = W7 at *
    clear y0 y1
    obtain ⟨y0, y1⟩ := (Ext.refl W7).box hD2.v8
    have hl2 := heap_lt hD2.v8
    have HD2 := Lib.hid hD2
    clear hD2
    refine anyE_one (k := 4) (by kernel_rfl) (by simp only [List.getElem?_toArray, List.getElem?_cons_succ, List.getElem?_cons_zero]; rfl) hcl ?_
    clear hcl
    go_wp2_with fail
    refine ⟨.inl (by omega), fun hcl => ?_⟩
    have hD3 := HD2.out.set8 (.int .i64 0)
    generalize W7.setCell ⟨w.heap.size + 1 + 1 + 1 + 1, 0, none⟩ (.int .i64 0) = W8 at *
    clear y0 y1
    obtain ⟨y0, y1⟩ := (Ext.refl W8).box hD3.v9
    have hl3 := heap_lt hD3.v9
    have HD3 := Lib.hid hD3
    clear hD3
    refine anyE_one (k := 5) (by kernel_rfl) (by simp only [List.getElem?_toArray, List.getElem?_cons_succ, List.getElem?_cons_zero]; rfl) hcl ?_
    clear hcl
    go_wp2_with fail
    refine ⟨.inl (by omega), fun hcl => ?_⟩
    have hD4 := HD3.out.set9 (.int .i64 0)
    generalize W8.setCell ⟨w.heap.size + 1 + 1 + 1 + 1 + 1, 0, none⟩ (.int .i64 0) = W9 at *
    clear y0 y1
    refine anyE_done (by kernel_rfl) ?_
    clear hcl
    go_wp2_with fail
    have hc6 := ((Ext.refl _).box (taken_heap hD4.v6 hD4.kd)).1 0
    have hc7 := ((Ext.refl _).box (taken_heap hD4.v7 hD4.kd)).1 0
    have hc8 := ((Ext.refl _).box (taken_heap hD4.v8 hD4.kd)).1 0
    have hc9 := ((Ext.refl _).box (taken_heap hD4.v9 hD4.kd)).1 0
    refine marks_ret1 hD4.kd (v := .tuple #[.slice va n9 vc, .int .u8 F, .int .i64 0, .int .i64 0]) (by simp [results, Tryz.f52, go_sem, hc6, hc7, hc8, hc9]) ?_
    exact Hfin.out _ ((hD4.own.butF (ButF.put (O := fun _ => False) (lo := 0) (.deferred none) hD4.kd rfl (by omega)) (fun b q => id)).lower (by omega)) (ext_taken hD4.ext (by omega))
  case stop =>
    rintro D c pre W hD hpre ⟨x, hx, h2⟩ hK
    have := H01.out x (hpre.subset hx)
    omega
end Go.Proofs.YtcoelhpmkhimpaaGreat
