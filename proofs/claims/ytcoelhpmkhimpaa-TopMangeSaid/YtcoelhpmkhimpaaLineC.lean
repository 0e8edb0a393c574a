/- brand.Line: the mothers of an animal (how many they are). -/
import Derived.Test.YtcoelhpmkhimpaaCollC
import Derived.Test.YtcoelhpmkhimpaaUnl
import Derived.Test.YtcoelhpmkhimpaaTreeIn
namespace Go.Proofs.Ytcoelhpmkhimpaa
open Go.RowKit
set_option linter.unusedVariables false
set_option linter.unusedSimpArgs false
attribute [local go_sem] Oper.semAt_some
def otherN (i : Nat) (pre : List Nat) : Nat := (pre.filter (fun x => !(x == i))).length
theorem otherN_same (i : Nat) (pre : List Nat) : otherN i (pre ++ [i]) = otherN i pre := by simp [otherN]
theorem otherN_more {i x : Nat} (h : x ≠ i) (pre : List Nat) : otherN i (pre ++ [x]) = otherN i pre + 1 := by simp [otherN, h]
theorem otherN_le (i : Nat) (pre : List Nat) : otherN i pre ≤ pre.length := List.length_filter_le _ _
theorem otherN_line {l : List Animal} (h : HerdOk l) {i : Nat} (hi : i < l.length) : otherN i (lineOf l i) + 1 = (lineOf l i).length := by
  have hL := h.lineIs hi
  have hn := hL.nodup
  generalize lineOf l i = L at *
  have key : ∀ r : List Nat, i ∉ r → otherN i (i :: r) + 1 = (i :: r).length := fun r hr => by
    have : r.filter (fun x => !(x == i)) = r := by
      rw [List.filter_eq_self]
      intro a ha
      have : a ≠ i := fun e => hr (e ▸ ha)
      simp [this]
    simp [otherN, this]
  cases hL with
  | root => exact key [] (by simp)
  | step h' t => exact key _ (List.nodup_cons.1 hn).1
/-- what the loop holds: so many numbers in a slice of its own -/
structure LnI (w : World) (hb i n : Nat) (X : World) : Prop where
  size : w.heap.size + 1 + 1 + 1 + 1 + 1 ≤ X.heap.size
  ext : Ext w X
  b6 : X.heap[w.heap.size]? = some (.cells #[.pointer (some ⟨hb, 0, none⟩)] 134 (0, 0))
  b8 : X.heap[w.heap.size + 1]? = some (.cells #[.int .i64 (i : Int)] 3 (0, 0))
  all : ∃ v ids, X.heap[w.heap.size + 1 + 1]? = some (.cells #[v] 34 (0, 0)) ∧ ids.length = n ∧ Owns X (w.heap.size + 1 + 1 + 1 + 1 + 1) 3 1 v (intRows .i64 ids)
theorem LnI.f {w A B : World} {hb i n : Nat} (h : LnI w hb i n A) (k : ButF (fun q => q = w.heap.size + 1 + 1 + 1 + 1) (w.heap.size + 1 + 1 + 1 + 1 + 1) A B) : LnI w hb i n B := by
  obtain ⟨v, ids, h1, h2, h3⟩ := h.all
  exact ⟨Nat.le_trans h.size k.size, ButF.ext h.ext k (fun b e => by have : b = w.heap.size + 1 + 1 + 1 + 1 := e; omega) (by omega), k.cells h.b6 (fun e => by have : w.heap.size = w.heap.size + 1 + 1 + 1 + 1 := e; omega), k.cells h.b8 (fun e => by have : w.heap.size + 1 = w.heap.size + 1 + 1 + 1 + 1 := e; omega), v, ids, k.cells h1 (fun e => by have : w.heap.size + 1 + 1 = w.heap.size + 1 + 1 + 1 + 1 := e; omega), h2,
    h3.butFI k fun b hb e => by have := (h3.lt b hb).1; have : b = w.heap.size + 1 + 1 + 1 + 1 := e; omega⟩
/-- a turn of the loop -/
theorem LnI.next {w X V : World} {hb i n : Nat} {v v' : Value} {ids ids' : List Int} (h : LnI w hb i n X) (hv : X.heap[w.heap.size + 1 + 1]? = some (.cells #[v] 34 (0, 0))) (ho : Owns X (w.heap.size + 1 + 1 + 1 + 1 + 1) 3 1 v (intRows .i64 ids)) (hb' : But (fun b => v.ownBlock = some b) X V) (hl' : ids'.length = n + 1) (ho' : Owns V (w.heap.size + 1 + 1 + 1 + 1 + 1) 3 1 v' (intRows .i64 ids')) :
    KeepsOthers X (V.setCell ⟨w.heap.size + 1 + 1, 0, none⟩ v') ∧ KpO (fun b => b = w.heap.size + 1 + 1 ∨ w.heap.size + 1 + 1 + 1 + 1 + 1 ≤ b) X (V.setCell ⟨w.heap.size + 1 + 1, 0, none⟩ v') ∧ LnI w hb i (n + 1) (V.setCell ⟨w.heap.size + 1 + 1, 0, none⟩ v') := by
  have hlt := fun b e => ho.lt b e
  have k1 : KeepsOthers X V := ⟨hb'.size, fun b o hk hc => hb'.block b o hk fun e => by
    have e : v.ownBlock = some b := e
    rcases ho.1.2 with q | ⟨g, cap, cur, e1, e2, e3, e4⟩
    · rcases q with ⟨rfl, _⟩
      cases e
    · rw [e1] at e
      cases e
      rw [e3] at hk
      cases hk
      cases hc⟩
  have kp : ∀ b o, X.heap[b]? = some o → b < w.heap.size + 1 + 1 → (V.setCell ⟨w.heap.size + 1 + 1, 0, none⟩ v').heap[b]? = some o := fun b o h1 h2 => (Below.heap_setCell _ _ _ _ (by simp only; omega)).trans (hb'.block b o h1 fun e => by have := (hlt b e).1; omega)
  have hc2 := hb'.block _ _ hv (fun e => by have := (hlt _ e).1; omega)
  refine ⟨k1.trans (KeepsOthers.setCell _ _ _), ⟨by simp only [World.setCell]; have := hb'.size; simpa using this, fun b o hk hc hn => ?_⟩, ⟨by simp only [World.setCell]; have := hb'.size; have := h.size; simp; omega, (But.ext h.ext hb' fun b e => by have := (hlt b e).1; omega).setCell (p := ⟨w.heap.size + 1 + 1, 0, none⟩) (by simp only; omega) _, kp _ _ h.b6 (by omega), kp _ _ h.b8 (by omega), v', ids', ?_, hl', owns_setO ho' (by omega)⟩⟩
  · have hn : ¬(b = w.heap.size + 1 + 1 ∨ w.heap.size + 1 + 1 + 1 + 1 + 1 ≤ b) := hn
    exact (Below.heap_setCell _ _ _ _ (by simp only; omega)).trans (hb'.block b o hk fun e => by have := (hlt b e).1; omega)
  · rw [heap_setCell_box, hc2]
    rfl
def LinePost (n : Nat) (w : World) (e : Ending) (w' : World) : Prop := ∃ a c, e = .returned (.tuple #[.slice a n c, .int .i64 0]) ∧ n ≤ c ∧ c ≤ maxLen ∧ Ext w w'
def E11 (ob : Option Nat) (k : Nat) (w w' : World) : Prop := k ≠ 11 → But (fun b => ob = some b) w w'
theorem E11.read (ob : Option Nat) (k : Nat) (w : World) : E11 ob k w w := fun _ => But.refl _ _
theorem E11.keep {ob : Option Nat} {k : Nat} {w0 w w' : World} (hk : ([0, 1, 2, 3, 4, 5, 6, 7, 8, 9] : List Nat).contains k = true ∨ 12 ≤ k) (hS : But (fun b => ob = some b) w0 w) (h : E11 ob k w w') : But (fun b => ob = some b) w0 w' :=
  hS.trans (h (by rintro rfl; rcases hk with h | h <;> simp at h))
theorem wpIn_region_EI {P : Program} {E : Nat → World → World → Prop} {Q : Exit → Act → World → Prop} {l id : Nat} {l0 : List Oper} {a : Act} {w : World} (hm : P.follows .mixedOrders = true) (hd : l0.toArray.all noDefer = true) (h : Closed l0.toArray (Array.replicate l0.toArray.size false) → wpAnyE P l0.toArray (normalOnly Q) E l0.toArray.size (Array.replicate l0.toArray.size false) a w.drew) : (Code.region id l0.toArray true).wpIn (Fence.wide.inRound l) 0 P Q a w := by
  have key := wpAny_of_E _ _ _ _ (h (closed_none _ _))
  have key2 := wpAnyIn_of_wpAny (l := l) hd (fun ⟨_, _, e⟩ => e) _ _ _ _ key
  exact wpIn_mono (wpIn_region_any (Q := normalOnly Q) hm key2) fun e a w hq => by cases e <;> first | exact hq | exact hq.elim
theorem But.cellI {O : Nat → Prop} {A B : World} (h : But O A B) {x : Addr} {v : Value} (hc : A.cell? x = some v) (hn : ¬O x.block) : B.cell? x = some v := by
  obtain ⟨o, ho, _⟩ := cells_of_cell hc
  exact (World.cell?_of_block ((h.block _ o ho hn).trans ho.symm)).trans hc
set_option maxRecDepth 100000 in
set_option maxHeartbeats 4000000 in
theorem line23_any {w : World} {a : Option Addr} {c : Nat} {l : List Animal} (hok : HerdOk l) (hla : AnimalsAt w a l.length l) (hcc : l.length ≤ c ∧ c ≤ maxLen) {id : Int} {i : Nat} (hid : placeOf l id = some i) :
    Calls Try.prog 23 #[.slice a l.length c, .int .i64 id] w (LinePost ((lineOf l i).length - 1) w) := by
  have hlen := hok.len
  have hi := placeOf_lt hid
  have hop := open_any hok hla hcc
  have hlk := fun (V : World) (mp : Nat) (h : OMapIs V mp (placeV l)) => (run_lookup_int (P := Try.prog) h Try.underlying138 Try.underlying3 (z := .int .i64 0) (by kernel_rfl) id).1
  have e1 : (placeV l id).getD (.int .i64 0) = .int .i64 (i : Int) := by unfold placeV; rw [hid]; rfl
  have e2 : (placeV l id).isSome = true := by unfold placeV; rw [hid]; rfl
  rw [e1, e2] at hlk
  have hcnt := otherN_line hok hi
  clear hid e1 e2 hla
  have Hop := Lib.hid hop
  have Hlk := Lib.hid hlk
  have Hcnt := Lib.hid hcnt
  clear hop hlk hcnt
  refine (callsIn_wide (n := 2)).1 ?_
  refine callsIn_of_wp_marks Try.func23 rfl trivial ?_ rfl
  simp only [Try.ntmps23, List.size_toArray, List.length_cons, List.length_nil, Nat.reduceAdd, Nat.reduceSub, Array.replicate_succ, Array.replicate_zero, List.push_toArray, List.append_toArray, List.nil_append, List.cons_append]
  refine wpIn_wide.2 ?_
  go_upto_region 4 with (go_at_call 62; refine Hop.out.mono ?_; rintro e w1 ⟨hb, rfl, hhd, hx1⟩)
  obtain ⟨a', c', mp, ma, mc, v, hin, _, _⟩ := hhd
  have hin2 := hin.ext ((Ext.refl w1).alloc (.cells #[.pointer (some ⟨hb, 0, none⟩)] 134))
  have hl2 := Hlk.out _ mp hin2.map
  obtain ⟨y0, _⟩ := (Ext.refl _).box hin2.box
  have hhb := heap_lt hin.box
  have Hin := Lib.hid hin
  clear hin
  clear hin2 Hlk Hop
  go_upto_region 8 with fail
  clear hl2 y0
  go_wp2_with (go_at_call 63; refine (line_any hb (i : Int) _).mono ?_; rintro e w3 ⟨rfl, rfl⟩)
  have hx4 : Ext w1 (((((w1.alloc (.cells #[.pointer (some ⟨hb, 0, none⟩)] 134)).alloc (.cells #[.int .i64 i] 3)).alloc (.cells #[.slice none 0 0] 34)).alloc (.cells #[.pointer (some ⟨hb, 0, none⟩)] 134)).alloc (.cells #[.int .i64 i] 3)) := (((((Ext.refl w1).alloc _).alloc _).alloc _).alloc _).alloc _
  have g6 : (((((w1.alloc (.cells #[.pointer (some ⟨hb, 0, none⟩)] 134)).alloc (.cells #[.int .i64 i] 3)).alloc (.cells #[.slice none 0 0] 34)).alloc (.cells #[.pointer (some ⟨hb, 0, none⟩)] 134)).alloc (.cells #[.int .i64 i] 3)).heap[w1.heap.size]? = some (.cells #[.pointer (some ⟨hb, 0, none⟩)] 134 (0, 0)) := (((((Ext.refl _).alloc _).alloc _).alloc _).alloc _).heap (heap_alloc_new w1 _)
  have g8 : (((((w1.alloc (.cells #[.pointer (some ⟨hb, 0, none⟩)] 134)).alloc (.cells #[.int .i64 i] 3)).alloc (.cells #[.slice none 0 0] 34)).alloc (.cells #[.pointer (some ⟨hb, 0, none⟩)] 134)).alloc (.cells #[.int .i64 i] 3)).heap[w1.heap.size + 1]? = some (.cells #[.int .i64 i] 3 (0, 0)) := ((((Ext.refl _).alloc _).alloc _).alloc _).heap (alloc_at _ _ _ (by simp))
  have g10 : (((((w1.alloc (.cells #[.pointer (some ⟨hb, 0, none⟩)] 134)).alloc (.cells #[.int .i64 i] 3)).alloc (.cells #[.slice none 0 0] 34)).alloc (.cells #[.pointer (some ⟨hb, 0, none⟩)] 134)).alloc (.cells #[.int .i64 i] 3)).heap[w1.heap.size + 1 + 1]? = some (.cells #[.slice none 0 0] 34 (0, 0)) := (((Ext.refl _).alloc _).alloc _).heap (alloc_at _ _ _ (by simp))
  have gh : (((((w1.alloc (.cells #[.pointer (some ⟨hb, 0, none⟩)] 134)).alloc (.cells #[.int .i64 i] 3)).alloc (.cells #[.slice none 0 0] 34)).alloc (.cells #[.pointer (some ⟨hb, 0, none⟩)] 134)).alloc (.cells #[.int .i64 i] 3)).heap[w1.heap.size + 1 + 1 + 1]? = some (.cells #[.pointer (some ⟨hb, 0, none⟩)] 134 (0, 0)) := ((Ext.refl _).alloc _).heap (alloc_at _ _ _ (by simp))
  have gi : (((((w1.alloc (.cells #[.pointer (some ⟨hb, 0, none⟩)] 134)).alloc (.cells #[.int .i64 i] 3)).alloc (.cells #[.slice none 0 0] 34)).alloc (.cells #[.pointer (some ⟨hb, 0, none⟩)] 134)).alloc (.cells #[.int .i64 i] 3)).heap[w1.heap.size + 1 + 1 + 1 + 1]? = some (.cells #[.int .i64 i] 3 (0, 0)) := alloc_at _ _ _ (by simp)
  have hsz : (((((w1.alloc (.cells #[.pointer (some ⟨hb, 0, none⟩)] 134)).alloc (.cells #[.int .i64 i] 3)).alloc (.cells #[.slice none 0 0] 34)).alloc (.cells #[.pointer (some ⟨hb, 0, none⟩)] 134)).alloc (.cells #[.int .i64 i] 3)).heap.size = w1.heap.size + 1 + 1 + 1 + 1 + 1 := by simp
  generalize ((((w1.alloc (.cells #[.pointer (some ⟨hb, 0, none⟩)] 134)).alloc (.cells #[.int .i64 i] 3)).alloc (.cells #[.slice none 0 0] 34)).alloc (.cells #[.pointer (some ⟨hb, 0, none⟩)] 134)).alloc (.cells #[.int .i64 i] 3) = W4 at *
  have hma : ∀ x, ma = some x → x.block < w1.heap.size := fun x hx => by
    obtain ⟨b5, o5, _, e5, _, hl5, _⟩ := Hin.out.moms.get 0 (by omega)
    rw [hx] at e5
    cases e5
    exact hl5
  have hin4 := Hin.out.ext hx4
  have hsq := line_stopsF 1 (w1.heap.size + 1 + 1 + 1 + 1) (w1.heap.size + 1 + 1 + 1) hb mp a' ma l.length c' mc v l hok i hi (fun b => b = w1.heap.size + 1 + 1 ∨ w1.heap.size + 1 + 1 + 1 + 1 + 1 ≤ b) W4 gi gh hin4.box hin4.moms hin4.mcap.1 hin4.mcap.2 (by omega) (by omega) (by omega) (fun x hx => by have := hma x hx; omega) ⟨by omega, by omega, fun x hx => by have := hma x hx; omega⟩
  have hL := (hok.lineIs hi).len hi
  have hst : LnI w1 hb i 0 W4 := ⟨by omega, hx4, g6, g8, _, [], g10, rfl, Owns.nil _ _ _ _⟩
  clear hin4 g6 g8 g10 gh gi
  have Hsq := Lib.hid hsq
  have Hst := Lib.hid hst
  have Hx4 := Lib.hid hx4
  clear hsq hst hx4
  refine (wpIn_wide (n := 2)).1 (wpIn_rangeFunc_but rfl (by omega) (gf := 110) (lb := #[.pointer (some ⟨w1.heap.size + 1 + 1 + 1 + 1, 0, none⟩), .pointer (some ⟨w1.heap.size + 1 + 1 + 1, 0, none⟩)]) rfl trivial (enters_of Try.func110 (by kernel_rfl) rfl) Hsq.out kpO_t kpO_b (Ext.refl _) (fun b hb => by have : b = w1.heap.size + 1 + 1 + 1 + 1 := hb; omega) (fun _ => rfl)
    (fun (pre : List {x : Nat // x < l.length}) X => LnI w1 hb i (otherN i (pre.map (·.1))) X) (fun _ _ _ => False)
    (fun (q : List {x : Nat // x < l.length}) A B h k => LnI.f (n := otherN i (q.map (·.1))) h (by rw [hsz] at k; exact k))
    (fun c q A B h k => h.elim)
    Hst.out ?a1 ?assign ?body ?done ?stop)
  case assign =>
    intro y x X K hK
    gi_wp2
    simp [natEnc]
    exact hK
  case body =>
    rintro y pre0 ⟨x, hxm⟩ X hI hpre
    obtain ⟨pre, hpre0⟩ : ∃ pre, pre0.map (·.1) = pre := ⟨_, rfl⟩
    have hpl : pre0.length = pre.length := by rw [← hpre0]; simp
    have hfin : (pre0 ++ [(⟨x, hxm⟩ : {x : Nat // x < l.length})]).map (·.1) = pre ++ [x] := by rw [← hpre0]; simp
    rw [hpl] at hpre
    have hI : LnI w1 hb i (otherN i pre) X := by rw [← hpre0]; exact hI
    clear hpre0
    obtain ⟨y8, z8⟩ := (Ext.refl X).box hI.b8
    by_cases hxi : x = i
    · subst hxi
      have hB : ((x : Int) != (x : Int)) = false := by simp
      have hn := otherN_same x pre
      have HI := Lib.hid hI
      have Hfin := Lib.hid hfin
      have Hn := Lib.hid hn
      clear hI hfin hn
      gi_wp2
      exact ⟨KeepsOthers.refl _, KpO.refl _ _, by show LnI w1 hb x (otherN x ((pre0 ++ [(⟨x, hxm⟩ : {x : Nat // x < l.length})]).map (·.1))) X; rw [Hfin.out, Hn.out]; exact HI.out⟩
    · have hB : ((x : Int) != (i : Int)) = true := by simp; omega
      have hn := otherN_more hxi pre
      have hnle := otherN_le i pre
      obtain ⟨N, hN⟩ : ∃ N, otherN i pre = N := ⟨_, rfl⟩
      rw [hN] at hn hnle hI
      obtain ⟨v0, ids, hv, hil, ho⟩ := hI.all
      obtain ⟨va, vc, rfl, _, _, _, _⟩ := ints_of_owns ho
      rw [hil] at hv ho
      have hinX := Hin.out.ext hI.ext
      obtain ⟨b, off, z, ka, kn, kc, rfl, hxk, hbs, c0, c1, c2, c3, c4, q1, q2, hm⟩ := hinX.animals.get x hxm
      have hb6 := hI.b6
      have hbx := hinX.box
      have hnv : ∀ q, q < w1.heap.size + 1 + 1 + 1 + 1 + 1 → ¬((Value.slice va N vc).ownBlock = some q) := fun q hq e => by have := (ho.lt q e).1; omega
      have hrl : (intRows .i64 ids).length = N := by simp [intRows, hil]
      have hbB : b < w1.heap.size := by
        obtain ⟨b2, off2, _, _, _, _, e2, _, hb2, _⟩ := Hin.out.animals.get x hxm
        cases e2
        exact hb2
      clear hm hinX hxk c1 c2 c3 c4
      have HI := Lib.hid hI
      have Hfin := Lib.hid hfin
      have Hn := Lib.hid hn
      have Hv := Lib.hid hv
      have Ho := Lib.hid ho
      have C0 := Lib.hid c0
      have Hb6 := Lib.hid hb6
      have Hbx := Lib.hid hbx
      have Hnv := Lib.hid hnv
      have Hrl := Lib.hid hrl
      clear hI hfin hn hv ho c0 hb6 hbx hnv hrl
      gi_wp2
      have hS1 : But (fun q => (Value.slice va N vc).ownBlock = some q) X X.drew := ((Ext.refl X).drew).but _
      refine wpIn_region_EI (E := E11 (Value.slice va N vc).ownBlock) (by kernel_rfl) (by kernel_rfl) (fun hcl => ?_)
      refine anyE_take [0, 1, 2, 3, 4, 5, 6, 7, 8] [0, 1, 2, 3, 4, 5, 6, 7, 8, 9] (But (fun q => (Value.slice va N vc).ownBlock = some q) X) 3 _ hcl (by kernel_rfl) rfl hS1 (fun k hk w => E11.read _ k w) (fun k hk w w' hS h => E11.keep hk hS h) ?_
      clear hS1
      intro ι _ f hf
      have f0 := fun q => ((hf q).boxI Hv.out (Hnv.out _ (by omega))).1
      have f1 := fun q => ((hf q).boxI Hb6.out (Hnv.out _ (by omega))).1
      have f2 := fun q => ((hf q).boxI Hbx.out (Hnv.out _ (by omega))).1
      have f3 := fun q => (hf q).cellI C0.out (Hnv.out b (by omega))
      clear hf
      simp only [opsOf, consOp, List.getElem?_toArray, List.getElem?_cons_succ, List.getElem?_cons_zero]
      repeat (go_big_quiet_step (fail))
      refine wpQuiet_nil ?_
      clear f0 f1 f2 f3 hcl
      intro hcl
      refine anyE_one (k := 9) (by kernel_rfl) (by simp only [List.getElem?_toArray, List.getElem?_cons_succ, List.getElem?_cons_zero]; rfl) hcl ?_
      clear hcl
      go_wp2_with fail
      have hx3 : Ext X (X.alloc (.cells #[.int .i64 z.id] 3)).drew := ((Ext.refl X).alloc _).drew
      refine ⟨fun _ => ((Ext.refl X.drew).alloc _).but _, fun hcl => ?_⟩
      refine anyE_one (k := 10) (by kernel_rfl) (by simp only [List.getElem?_toArray, List.getElem?_cons_succ, List.getElem?_cons_zero]; rfl) hcl ?_
      clear hcl
      have hl6 : (ids ++ [z.id]).length = N + 1 := by rw [List.length_append, hil]; rfl
      have Hl6 := Lib.hid hl6
      clear hl6
      go_wp2_with (at_builtin; refine wpList_app elemI34 _ rfl (.tmp 38) (.tmp 47) rfl (w1.heap.size + 1 + 1 + 1 + 1 + 1) (.slice va N vc) (intRows .i64 ids) rfl (Ho.out.ext hx3) (some ⟨X.heap.size, 0, none⟩) 1 1 (intRows .i64 [z.id]) rfl rfl ((one_int X z.id 3).ext (Ext.refl _).drew) (intRows_row _ _) (by rw [Hrl.out]; omega) (by have := HI.out.size; have := hx3.size; omega) ?_; intro v8 w8 ho8 hg8 _; rw [← intRows_append] at ho8; obtain ⟨a8, c8, e8, _, _, _, _⟩ := ints_of_owns ho8; rw [Hl6.out] at e8; subst e8)
      have hb8 := (hx3.but (fun q => (Value.slice va N vc).ownBlock = some q)).trans (but_grownI hg8)
      have h68 := hb8.block _ _ Hv.out (Hnv.out _ (by omega))
      obtain ⟨y0, y1⟩ := (Ext.refl w8).box h68
      have hlt8 := heap_lt h68
      refine ⟨fun _ => but_grownI hg8, fun hcl => ?_⟩
      have hfi := HI.out.next Hv.out Ho.out hb8 Hl6.out ho8
      have Hfi := Lib.hid hfi
      clear hfi
      clear hg8 hb8 h68 ho8 hx3
      refine anyE_one (k := 11) (by kernel_rfl) (by simp only [List.getElem?_toArray, List.getElem?_cons_succ, List.getElem?_cons_zero]; rfl) hcl ?_
      clear hcl
      go_wp2_with fail
      refine ⟨fun h => absurd rfl h, fun hcl => ?_⟩
      refine anyE_done (by kernel_rfl) ?_
      show KeepsOthers _ _ ∧ KpO _ _ _ ∧ LnI w1 hb i (otherN i ((pre0 ++ [(⟨x, hxm⟩ : {x : Nat // x < l.length})]).map (·.1))) _
      refine ⟨Hfi.out.1, Hfi.out.2.1, ?_⟩
      rw [Hfin.out, Hn.out]
      exact Hfi.out.2.2
  case done =>
    intro D xs0 X hD hxs hI hK
    obtain ⟨v0, ids, h1, hil, h2⟩ := hI.all
    obtain ⟨va, vc, rfl, f1, f2, f3, f4⟩ := ints_of_owns h2
    have hxs : xs0.map (·.1) = lineOf l i := hxs
    rw [hxs] at hil
    have hil : ids.length = (lineOf l i).length - 1 := by have := Hcnt.out; omega
    rw [hil] at h1 f2
    obtain ⟨y0, y1⟩ := (Ext.refl X).box h1
    have hh : Hung (w.heap.size) [{ target := .collected D, args := #[] }] X := ⟨⟨D, rfl, by have := hx1.size; omega, hK, by simp⟩, trivial⟩
    have hxX := hx1.trans hI.ext
    have Hh := Lib.hid hh
    have HxX := Lib.hid hxX
    clear hh hxX
    clear hI h1 h2 hK f4 f1
    go_wp2_with fail
    refine marks_rets Hh.out fun w' ht => ?_
    exact ⟨.tuple #[.slice va ((lineOf l i).length - 1) vc, .int .i64 0], by simp [results, Try.f23, go_sem], va, vc, rfl, f2, f3, ht.ext HxX.out (Nat.le_refl _)⟩
  case stop =>
    intro D c pre X _ _ h
    exact h.elim
end Go.Proofs.Ytcoelhpmkhimpaa
