/- brand.Kin: how two animals are kin. -/
import Derived.Test.YtcoelhpmkhimpaaLineC
namespace Go.Proofs.Ytcoelhpmkhimpaa
open Go.RowKit
set_option linter.unusedVariables false
set_option linter.unusedSimpArgs false
attribute [local go_sem] Oper.semAt_some
theorem idx_nats {L : List Nat} {x : Nat} : idxOf (natsI L) (x : Int) = match L.findIdx? (· == x) with | some d => (d : Int) | none => -1 := by
  unfold idxOf natsI
  rw [List.findIdx?_map]
  have e : ((fun y => (x : Int) == y) ∘ fun (z : Nat) => (z : Int)) = fun z : Nat => z == x := by
    funext z
    by_cases h : z = x
    · simp [h]
    · have h' : ¬((x : Int) = (z : Int)) := fun e => h (by omega)
      have b1 : ((x : Int) == (z : Int)) = false := by simpa using h'
      have b2 : (z == x) = false := by simpa using h
      show ((x : Int) == (z : Int)) = (z == x)
      rw [b1, b2]
  rw [e]
  cases L.findIdx? (fun z => z == x) <;> rfl
theorem set_same {W : World} {b : Nat} {v : Value} {t : TypeId} (h : W.heap[b]? = some (.cells #[v] t (0, 0))) : Ext W (W.setCell ⟨b, 0, none⟩ v) :=
  But.ext (Ext.refl W) (O := fun _ => False) ⟨rfl, rfl, rfl, by simp [World.setCell], fun k o hk _ => by
    by_cases e : k = b
    · subst e
      rw [heap_setCell_box, h]
      rw [h] at hk
      exact hk
    · exact (Below.heap_setCell _ _ _ _ (by simp only; omega)).trans hk⟩ (fun _ h => h.elim)
theorem kinF_pre {T : List Nat} {r : List Nat} : ∀ (pre : List Nat) (k : Nat), (∀ y ∈ pre, T.findIdx? (· == y) = none) → kinF T (pre ++ r) k = kinF T r (k + pre.length)
  | [], k, _ => rfl
  | x :: p, k, h => by
    have e := h x (by simp)
    have ih := kinF_pre (r := r) p (k + 1) (fun y hy => h y (by simp [hy]))
    rw [List.cons_append, kinF, e]
    simp only
    rw [ih, List.length_cons]
    congr 1
    omega
theorem kinF_none {T pre : List Nat} (h : ∀ y ∈ pre, T.findIdx? (· == y) = none) : kinF T pre 0 = (0, 0, 6) := by
  have := kinF_pre (r := []) pre 0 h
  rw [List.append_nil] at this
  rw [this]
  rfl
theorem kinF_hit {T pre r : List Nat} {x d : Nat} (h : ∀ y ∈ pre, T.findIdx? (· == y) = none) (hx : T.findIdx? (· == x) = some d) : kinF T (pre ++ x :: r) 0 = ((pre.length : Int), (d : Int), 0) := by
  rw [kinF_pre pre 0 h, kinF, hx]
  simp
theorem IntsAt.butFI {q : IntKind} {O : Nat → Prop} {lo : Nat} {A B : World} {a : Option Addr} {n : Nat} {l : List Int} (h : IntsAt q A a n l) (k : ButF O lo A B) (hn : ∀ x, a = some x → ¬O x.block) : IntsAt q B a n l :=
  ⟨h.1, fun h0 => let ⟨b, off, ha, hc⟩ := h.2 h0; ⟨b, off, ha, fun i hi j v hv => by
    obtain ⟨o, ho, hoc⟩ := cells_of_cell (hc i hi j v hv)
    exact (World.cell?_of_block ((k.block _ o ho (hn ⟨b, off, none⟩ ha) (.inl hoc)).trans ho.symm)).trans (hc i hi j v hv)⟩⟩
/-- what the loop holds -/
structure KnI (w : World) (p14 : Nat) (a2 : Option Addr) (c2 : Nat) (T : List Nat) (n : Nat) (X : World) : Prop where
  ext : Ext w X
  b6 : X.heap[w.heap.size]? = some (.cells #[.int .i64 (n : Int)] 3 (0, 0))
  b7 : ∃ d, X.heap[w.heap.size + 1]? = some (.cells #[.int .i64 d] 3 (0, 0))
  b8 : X.heap[w.heap.size + 1 + 1]? = some (.cells #[.int .i64 0] 40 (0, 0))
  b14 : X.heap[p14]? = some (.cells #[.slice a2 T.length c2] 34 (0, 0))
  their : IntsAt .i64 X a2 T.length (natsI T)
theorem KnI.f {w A B : World} {p14 pi lo : Nat} {a2 : Option Addr} {c2 : Nat} {T : List Nat} {n : Nat} (h : KnI w p14 a2 c2 T n A) (h1 : w.heap.size + 1 + 1 < pi) (h2 : p14 ≠ pi) (h3 : ∀ x, a2 = some x → x.block ≠ pi) (h4 : w.heap.size ≤ lo) (k : ButF (fun q => q = pi) lo A B) : KnI w p14 a2 c2 T n B := by
  obtain ⟨d, hd⟩ := h.b7
  exact ⟨ButF.ext h.ext k (fun b e => by have : b = pi := e; omega) h4, k.cells h.b6 (fun e => by have : w.heap.size = pi := e; omega), ⟨d, k.cells hd (fun e => by have : w.heap.size + 1 = pi := e; omega)⟩, k.cells h.b8 (fun e => by have : w.heap.size + 1 + 1 = pi := e; omega), k.cells h.b14 h2, h.their.butFI k h3⟩
/-- it returns: they are kin -/
structure KnX (w : World) (n : Nat) (d : Int) (X : World) : Prop where
  ext : Ext w X
  b6 : X.heap[w.heap.size]? = some (.cells #[.int .i64 (n : Int)] 3 (0, 0))
  b7 : X.heap[w.heap.size + 1]? = some (.cells #[.int .i64 d] 3 (0, 0))
  b8 : X.heap[w.heap.size + 1 + 1]? = some (.cells #[.int .i64 0] 40 (0, 0))
theorem KnX.f {w A B : World} {pi lo n : Nat} {d : Int} (h : KnX w n d A) (h1 : w.heap.size + 1 + 1 < pi) (h4 : w.heap.size ≤ lo) (k : ButF (fun q => q = pi) lo A B) : KnX w n d B :=
  ⟨ButF.ext h.ext k (fun b e => by have : b = pi := e; omega) h4, k.cells h.b6 (fun e => by have : w.heap.size = pi := e; omega), k.cells h.b7 (fun e => by have : w.heap.size + 1 = pi := e; omega), k.cells h.b8 (fun e => by have : w.heap.size + 1 + 1 = pi := e; omega)⟩
theorem set3 {X : World} {b : Nat} {x y z x' y' z' : Value} {t : TypeId} (h6 : X.heap[b]? = some (.cells #[x] 3 (0, 0))) (h7 : X.heap[b + 1]? = some (.cells #[y] 3 (0, 0))) (h8 : X.heap[b + 1 + 1]? = some (.cells #[z] t (0, 0))) :
    (((X.setCell ⟨b, 0, none⟩ x').setCell ⟨b + 1, 0, none⟩ y').setCell ⟨b + 1 + 1, 0, none⟩ z').heap[b]? = some (.cells #[x'] 3 (0, 0)) ∧ (((X.setCell ⟨b, 0, none⟩ x').setCell ⟨b + 1, 0, none⟩ y').setCell ⟨b + 1 + 1, 0, none⟩ z').heap[b + 1]? = some (.cells #[y'] 3 (0, 0)) ∧ (((X.setCell ⟨b, 0, none⟩ x').setCell ⟨b + 1, 0, none⟩ y').setCell ⟨b + 1 + 1, 0, none⟩ z').heap[b + 1 + 1]? = some (.cells #[z'] t (0, 0)) := by
  refine ⟨?_, ?_, ?_⟩
  · refine (Below.heap_setCell _ _ _ _ (by simp only; omega)).trans ((Below.heap_setCell _ _ _ _ (by simp only; omega)).trans ?_)
    rw [heap_setCell_box, h6]
    rfl
  · refine (Below.heap_setCell _ _ _ _ (by simp only; omega)).trans ?_
    rw [heap_setCell_box, Below.heap_setCell _ _ _ _ (by simp only; omega), h7]
    rfl
  · rw [heap_setCell_box, Below.heap_setCell _ _ _ _ (by simp only; omega), Below.heap_setCell _ _ _ _ (by simp only; omega), h8]
    rfl
theorem KnI.more {w X : World} {p14 : Nat} {a2 : Option Addr} {c2 : Nat} {T : List Nat} {n : Nat} (h : KnI w p14 a2 c2 T n X) (h14 : w.heap.size + 1 + 1 < p14) (ha : ∀ x, a2 = some x → w.heap.size + 1 + 1 < x.block) (d : Int) :
    KeepsOthers X ((X.setCell ⟨w.heap.size + 1, 0, none⟩ (.int .i64 d)).setCell ⟨w.heap.size, 0, none⟩ (.int .i64 ((n : Int) + 1))) ∧ KpO (fun b => b = w.heap.size ∨ b = w.heap.size + 1 ∨ b = w.heap.size + 1 + 1) X ((X.setCell ⟨w.heap.size + 1, 0, none⟩ (.int .i64 d)).setCell ⟨w.heap.size, 0, none⟩ (.int .i64 ((n : Int) + 1)))
      ∧ KnI w p14 a2 c2 T (n + 1) ((X.setCell ⟨w.heap.size + 1, 0, none⟩ (.int .i64 d)).setCell ⟨w.heap.size, 0, none⟩ (.int .i64 ((n : Int) + 1))) := by
  have kp : ∀ b, b ≠ w.heap.size → b ≠ w.heap.size + 1 → ((X.setCell ⟨w.heap.size + 1, 0, none⟩ (.int .i64 d)).setCell ⟨w.heap.size, 0, none⟩ (.int .i64 ((n : Int) + 1))).heap[b]? = X.heap[b]? := fun b h1 h2 => (Below.heap_setCell _ _ _ _ h1).trans (Below.heap_setCell _ _ _ _ h2)
  obtain ⟨d0, hd⟩ := h.b7
  refine ⟨(KeepsOthers.setCell _ _ _).trans (KeepsOthers.setCell _ _ _), ⟨by simp [World.setCell], fun b o hb _ hn => ?_⟩, (h.ext.setCell (p := ⟨w.heap.size + 1, 0, none⟩) (by simp only; omega) _).setCell (p := ⟨w.heap.size, 0, none⟩) (by simp only; omega) _, ?_, ⟨d, ?_⟩, (kp _ (by omega) (by omega)).trans h.b8, (kp _ (by omega) (by omega)).trans h.b14, h.their.1, h.their.2.same fun x hx => kp _ (by have := ha x hx; omega) (by have := ha x hx; omega)⟩
  · have hn : ¬(b = w.heap.size ∨ b = w.heap.size + 1 ∨ b = w.heap.size + 1 + 1) := hn
    exact (kp b (by omega) (by omega)).trans hb
  · rw [heap_setCell_box, Below.heap_setCell _ _ _ _ (by simp only; omega), h.b6]
    rfl
  · refine (Below.heap_setCell _ _ _ _ (by simp only; omega)).trans ?_
    rw [heap_setCell_box, hd]
    rfl
theorem KnX.same {w V : World} {n : Nat} {d : Int} (h : KnX w n d V) : KnX w n d (V.setCell ⟨w.heap.size, 0, none⟩ (.int .i64 (n : Int))) ∧ KnX w n d (V.setCell ⟨w.heap.size + 1, 0, none⟩ (.int .i64 d)) ∧ KnX w n d (V.setCell ⟨w.heap.size + 1 + 1, 0, none⟩ (.int .i64 0)) := by
  have e1 := set_same h.b6
  have e2 := set_same h.b7
  have e3 := set_same h.b8
  exact ⟨⟨h.ext.trans e1, e1.heap h.b6, e1.heap h.b7, e1.heap h.b8⟩, ⟨h.ext.trans e2, e2.heap h.b6, e2.heap h.b7, e2.heap h.b8⟩, ⟨h.ext.trans e3, e3.heap h.b6, e3.heap h.b7, e3.heap h.b8⟩⟩
def KnIn (w : World) (p14 : Nat) (a2 : Option Addr) (c2 : Nat) (T : List Nat) (m : Nat) (pre : List {x : Nat // x < m}) (X : World) : Prop := KnI w p14 a2 c2 T pre.length X ∧ ∀ y ∈ pre.map (·.1), T.findIdx? (· == y) = none
def KnEx (w : World) (T : List Nat) (m : Nat) (e : Code) (pre : List {x : Nat // x < m}) (X : World) : Prop := e = .ret ∧ ∃ pre0 x d, pre.map (·.1) = pre0 ++ [x] ∧ (∀ y ∈ pre0, T.findIdx? (· == y) = none) ∧ T.findIdx? (· == x) = some d ∧ KnX w pre0.length (d : Int) X
def KinPost (r : Int × Int × Int) (w : World) (e : Ending) (w' : World) : Prop := e = .returned (.tuple #[.int .i64 r.1, .int .i64 r.2.1, .int .i64 r.2.2]) ∧ Ext w w'
set_option maxRecDepth 100000 in
set_option maxHeartbeats 4000000 in
theorem kin_any {w : World} {a : Option Addr} {c : Nat} {l : List Animal} (hok : HerdOk l) (hla : AnimalsAt w a l.length l) (hcc : l.length ≤ c ∧ c ≤ maxLen) {ida idb : Int} {i j : Nat} (hia : placeOf l ida = some i) (hjb : placeOf l idb = some j) :
    Calls Try.prog 26 #[.slice a l.length c, .int .i64 ida, .int .i64 idb] w (KinPost (kinOf l i j) w) := by
  have hlen := hok.len
  have hi := placeOf_lt hia
  have hj := placeOf_lt hjb
  have hop := fun (V : World) (hV : Ext w V) => open_any hok (hla.ext hV) hcc
  have hlk := fun (V : World) (mp : Nat) (h : OMapIs V mp (placeV l)) (q : Int) => (run_lookup_int (P := Try.prog) h Try.underlying138 Try.underlying3 (z := .int .i64 0) (by kernel_rfl) q).1
  have e1 : (placeV l ida).getD (.int .i64 0) = .int .i64 (i : Int) := by unfold placeV; rw [hia]; rfl
  have e2 : (placeV l ida).isSome = true := by unfold placeV; rw [hia]; rfl
  have e3 : (placeV l idb).getD (.int .i64 0) = .int .i64 (j : Int) := by unfold placeV; rw [hjb]; rfl
  have e4 : (placeV l idb).isSome = true := by unfold placeV; rw [hjb]; rfl
  clear hia hjb hla
  have Hop := Lib.hid hop
  have Hlk := Lib.hid hlk
  have E1 := Lib.hid e1
  have E2 := Lib.hid e2
  have E3 := Lib.hid e3
  have E4 := Lib.hid e4
  clear hop hlk e1 e2 e3 e4
  refine (callsIn_wide (n := 2)).1 ?_
  refine callsIn_of_wp_marks Try.func26 rfl trivial ?_ rfl
  simp only [Try.ntmps26, List.size_toArray, List.length_cons, List.length_nil, Nat.reduceAdd, Nat.reduceSub, Array.replicate_succ, Array.replicate_zero, List.push_toArray, List.append_toArray, List.nil_append, List.cons_append]
  refine wpIn_wide.2 ?_
  have hx0 : Ext w (((w.alloc (.cells #[.int .i64 0] 3)).alloc (.cells #[.int .i64 0] 3)).alloc (.cells #[.int .i64 0] 40)) := (((Ext.refl w).alloc _).alloc _).alloc _
  have g6 : (((w.alloc (.cells #[.int .i64 0] 3)).alloc (.cells #[.int .i64 0] 3)).alloc (.cells #[.int .i64 0] 40)).heap[w.heap.size]? = some (.cells #[.int .i64 0] 3 (0, 0)) := (((Ext.refl _).alloc _).alloc _).heap (heap_alloc_new w _)
  have g7 : (((w.alloc (.cells #[.int .i64 0] 3)).alloc (.cells #[.int .i64 0] 3)).alloc (.cells #[.int .i64 0] 40)).heap[w.heap.size + 1]? = some (.cells #[.int .i64 0] 3 (0, 0)) := ((Ext.refl _).alloc _).heap (alloc_at _ _ _ (by simp))
  have g8 : (((w.alloc (.cells #[.int .i64 0] 3)).alloc (.cells #[.int .i64 0] 3)).alloc (.cells #[.int .i64 0] 40)).heap[w.heap.size + 1 + 1]? = some (.cells #[.int .i64 0] 40 (0, 0)) := alloc_at _ _ _ (by simp)
  have Hx0 := Lib.hid hx0
  have G6 := Lib.hid g6
  have G7 := Lib.hid g7
  have G8 := Lib.hid g8
  clear hx0 g6 g7 g8
  have hsz0 : (((w.alloc (.cells #[.int .i64 0] 3)).alloc (.cells #[.int .i64 0] 3)).alloc (.cells #[.int .i64 0] 40)).heap.size = w.heap.size + 1 + 1 + 1 := by simp
  go_upto_region 1 with fail
  generalize ((w.alloc (.cells #[.int .i64 0] 3)).alloc (.cells #[.int .i64 0] 3)).alloc (.cells #[.int .i64 0] 40) = W0 at *
  go_upto_region 4 with (go_at_call 62; refine (Hop.out _ Hx0.out).mono ?_; rintro e w1 ⟨hb, rfl, hhd, hx1⟩; have h81 := hx1.heap G8.out; obtain ⟨y0, y1⟩ := (Ext.refl w1).box h81; have hl1 := heap_lt h81; have H81 := Lib.hid h81; clear h81)
  obtain ⟨a', c', mp, ma, mc, v, hin, hf1, hf2⟩ := hhd
  have hse := set_same H81.out
  have hin1 := hin.ext hse
  have hx1' := hx1.trans hse
  clear y0 y1 hl1 hse H81 hin hx1
  generalize w1.setCell ⟨w.heap.size + 1 + 1, 0, none⟩ (.int .i64 0) = W1 at *
  have g61 := hx1'.heap G6.out
  have g71 := hx1'.heap G7.out
  have g81 := hx1'.heap G8.out
  have hxw1 := Hx0.out.trans hx1'
  have hl1 := Hlk.out W1 mp hin1.map ida
  have hl2 := Hlk.out W1 mp hin1.map idb
  rw [E1.out, E2.out] at hl1
  rw [E3.out, E4.out] at hl2
  obtain ⟨y0, _⟩ := (Ext.refl _).box hin1.box
  have hhb := heap_lt hin1.box
  have Hin1 := Lib.hid hin1
  have G61 := Lib.hid g61
  have G71 := Lib.hid g71
  have G81 := Lib.hid g81
  have Hxw1 := Lib.hid hxw1
  clear hin1 g61 g71 g81 hxw1
  clear Hlk Hop E1 E2 E3 E4 Hx0 G6 G7 G8 hx1'
  go_upto_region 8 with fail
  clear hl1 hl2 y0
  have hma : ∀ x, ma = some x → x.block < W1.heap.size := fun x hx => by
    obtain ⟨b5, o5, _, e5, _, hl5, _⟩ := Hin1.out.moms.get 0 (by omega)
    rw [hx] at e5
    cases e5
    exact hl5
  have hcol : Calls Try.prog 75 #[.func (.func 110) #[] #[.pointer (some ⟨W1.heap.size + 1, 0, none⟩), .pointer (some ⟨W1.heap.size, 0, none⟩)]] ((W1.alloc (.cells #[.pointer (some ⟨hb, 0, none⟩)] 134)).alloc (.cells #[.int .i64 j] 3)) (CollPost (lineOf l j) (W1.heap.size + 1) ((W1.alloc (.cells #[.pointer (some ⟨hb, 0, none⟩)] 134)).alloc (.cells #[.int .i64 j] 3))) := by
    have hx : Ext W1 ((W1.alloc (.cells #[.pointer (some ⟨hb, 0, none⟩)] 134)).alloc (.cells #[.int .i64 j] 3)) := ((Ext.refl W1).alloc _).alloc _
    have gh : ((W1.alloc (.cells #[.pointer (some ⟨hb, 0, none⟩)] 134)).alloc (.cells #[.int .i64 j] 3)).heap[W1.heap.size]? = some (.cells #[.pointer (some ⟨hb, 0, none⟩)] 134 (0, 0)) := ((Ext.refl _).alloc _).heap (heap_alloc_new W1 _)
    have gi : ((W1.alloc (.cells #[.pointer (some ⟨hb, 0, none⟩)] 134)).alloc (.cells #[.int .i64 j] 3)).heap[W1.heap.size + 1]? = some (.cells #[.int .i64 j] 3 (0, 0)) := alloc_at _ _ _ (by simp)
    have hsz : ((W1.alloc (.cells #[.pointer (some ⟨hb, 0, none⟩)] 134)).alloc (.cells #[.int .i64 j] 3)).heap.size = W1.heap.size + 1 + 1 := by simp
    generalize (W1.alloc (.cells #[.pointer (some ⟨hb, 0, none⟩)] 134)).alloc (.cells #[.int .i64 j] 3) = W2 at *
    have hin2 := Hin1.out.ext hx
    exact collect_any (by omega) (Nat.le_trans ((hok.lineIs hj).len hj) hlen) (line_stopsF 2 (W1.heap.size + 1) W1.heap.size hb mp a' ma l.length c' mc v l hok j hj (fun b => W2.heap.size ≤ b) W2 gi gh hin2.box hin2.moms hin2.mcap.1 hin2.mcap.2 (by omega) (by omega) (by omega) (fun x hx => by have := hma x hx; omega) ⟨by omega, by omega, fun x hx => by have := hma x hx; omega⟩)
  have Hcol := Lib.hid hcol
  clear hcol
  go_upto_region 9 with (first
    | (go_at_call 63; refine (line_any hb (j : Int) _).mono ?_; rintro e w3 ⟨rfl, rfl⟩)
    | (go_at_call 75; refine Hcol.out.mono ?_; rintro e w5 ⟨a2, c2, rfl, k1, k2, k3, k4, k5⟩))
  have hx5 : Ext W1 w5 := But.ext (((Ext.refl W1).alloc _).alloc _) k5 (fun b e => by omega)
  have hx6 := hx5.alloc (.cells #[.slice a2 (lineOf l j).length c2] 34)
  have g14 := heap_alloc_new w5 (.cells #[.slice a2 (lineOf l j).length c2] 34)
  have k6 := k1.ext ((Ext.refl w5).alloc (.cells #[.slice a2 (lineOf l j).length c2] 34))
  have hsz5 : (w5.alloc (.cells #[.slice a2 (lineOf l j).length c2] 34)).heap.size = w5.heap.size + 1 := by simp
  have hle5 := hx5.size
  clear Hcol k1 k5 hx5
  generalize w5.alloc (.cells #[.slice a2 (lineOf l j).length c2] 34) = W6 at *
  generalize w5.heap.size = p14 at *
  have Hx6 := Lib.hid hx6
  have G14 := Lib.hid g14
  have K6 := Lib.hid k6
  have Hsz5 := Lib.hid hsz5
  clear hx6 g14 k6 hsz5
  go_wp2_with (go_at_call 63; refine (line_any hb (i : Int) _).mono ?_; rintro e w3 ⟨rfl, rfl⟩)
  have hW7 : ∃ W7, (W6.alloc (.cells #[.pointer (some ⟨hb, 0, none⟩)] 134)).alloc (.cells #[.int .i64 i] 3) = W7 := ⟨_, rfl⟩
  have hx7 : Ext W6 ((W6.alloc (.cells #[.pointer (some ⟨hb, 0, none⟩)] 134)).alloc (.cells #[.int .i64 i] 3)) := ((Ext.refl W6).alloc _).alloc _
  have gh : ((W6.alloc (.cells #[.pointer (some ⟨hb, 0, none⟩)] 134)).alloc (.cells #[.int .i64 i] 3)).heap[W6.heap.size]? = some (.cells #[.pointer (some ⟨hb, 0, none⟩)] 134 (0, 0)) := ((Ext.refl _).alloc _).heap (heap_alloc_new W6 _)
  have gi : ((W6.alloc (.cells #[.pointer (some ⟨hb, 0, none⟩)] 134)).alloc (.cells #[.int .i64 i] 3)).heap[W6.heap.size + 1]? = some (.cells #[.int .i64 i] 3 (0, 0)) := alloc_at _ _ _ (by simp)
  have hsz7 : ((W6.alloc (.cells #[.pointer (some ⟨hb, 0, none⟩)] 134)).alloc (.cells #[.int .i64 i] 3)).heap.size = W6.heap.size + 1 + 1 := by simp
  clear hW7
  generalize (W6.alloc (.cells #[.pointer (some ⟨hb, 0, none⟩)] 134)).alloc (.cells #[.int .i64 i] 3) = W7 at *
  have hx17 := Hx6.out.trans hx7
  have hin7 := Hin1.out.ext hx17
  have hle1 := Hx6.out.size
  have hl81 := heap_lt G81.out
  have hsq := line_stopsF 1 (W6.heap.size + 1) W6.heap.size hb mp a' ma l.length c' mc v l hok i hi (fun b => b = w.heap.size ∨ b = w.heap.size + 1 ∨ b = w.heap.size + 1 + 1) W7 gi gh hin7.box hin7.moms hin7.mcap.1 hin7.mcap.2 (by omega) (by omega) (by omega) (fun x hx => by have := hf2 x hx; omega) ⟨by omega, by omega, fun x hx => by have := hma x hx; omega⟩
  have hst : KnI w p14 a2 c2 (lineOf l j) 0 W7 := ⟨Hxw1.out.trans hx17, hx17.heap G61.out, ⟨0, hx17.heap G71.out⟩, hx17.heap G81.out, hx7.heap G14.out, K6.out.ext hx7⟩
  have ha2 : ∀ x, a2 = some x → x.block ≠ W6.heap.size + 1 := fun x hx => by
    obtain ⟨b5, o5, _, e5, _, hl5, _⟩ := K6.out.get 0 (hok.lineIs hj).len_pos
    rw [hx] at e5
    cases e5
    simp only
    omega
  have hTL := (hok.lineIs hj).len hj
  clear hin7 gh gi hx17
  have Hsq := Lib.hid hsq
  have Hst := Lib.hid hst
  have Hx7 := Lib.hid hx7
  clear hsq hst hx7
  obtain ⟨T, hT⟩ : ∃ T, lineOf l j = T := ⟨_, rfl⟩
  have hko : kinOf l i j = kinF T (lineOf l i) 0 := by unfold kinOf; rw [hT]
  rw [hko]
  rw [hT] at Hst hTL
  have Hko := Lib.hid hko
  have HT := Lib.hid hT
  clear hko hT
  refine (wpIn_wide (n := 2)).1 (wpIn_rangeFunc_but rfl (by omega) (gf := 110) (lb := #[.pointer (some ⟨W6.heap.size + 1, 0, none⟩), .pointer (some ⟨W6.heap.size, 0, none⟩)]) rfl trivial (enters_of Try.func110 (by kernel_rfl) rfl) Hsq.out kpO_t kpO_b (Ext.refl _) (fun b hb => by have : b = W6.heap.size + 1 := hb; omega) (fun _ => rfl)
    (KnIn w p14 a2 c2 T l.length) (KnEx w T l.length)
    (fun q A B h k => ⟨h.1.f (by omega) (by have := heap_lt G14.out; omega) ha2 (by omega) k, h.2⟩)
    (fun e q A B h k => by
      obtain ⟨h0, pre0, x, d, h1, h2, h3, h4⟩ := h
      exact ⟨h0, pre0, x, d, h1, h2, h3, h4.f (by omega) (by omega) k⟩)
    ⟨Hst.out, by simp⟩ ?a1 ?assign ?body ?done ?stop)
  case assign =>
    intro y x X K hK
    gi_wp2
    simp [natEnc]
    exact hK
  case body =>
    rintro y pre0 ⟨x, hxm⟩ X ⟨hI, hno⟩ hpre
    have hp16 : pre0.length ≤ 16 := by have := (hok.lineIs hi).len hi; omega
    have hidx := index_any (c := c2) hI.their (by omega) (x : Int)
    rw [idx_nats] at hidx
    obtain ⟨d, hd⟩ := hI.b7
    have hb6 := hI.b6
    have hb8 := hI.b8
    have hb14 := hI.b14
    obtain ⟨y0, y1⟩ := (Ext.refl X).box hb6
    obtain ⟨y2, y3⟩ := (Ext.refl X).box hd
    obtain ⟨y6, y7⟩ := (Ext.refl X).box hb14
    have l6 := heap_lt hb6
    have l7 := heap_lt hd
    cases hf : T.findIdx? (· == x) with
    | none =>
      rw [hf] at hidx
      have Hidx := Lib.hid hidx
      have HI := Lib.hid hI
      have Hno := Lib.hid hno
      have Hf := Lib.hid hf
      have Hb6 := Lib.hid hb6
      have Hd := Lib.hid hd
      have Hb8 := Lib.hid hb8
      have Hb14 := Lib.hid hb14
      clear hidx hI hno hf hb6 hd hb8 hb14
      gi_wp2_with (first | (refine ⟨trivial, rfl, ?_⟩; gi_at_call 76; refine (((callsIn_wide (n := 0)).2 Hidx.out).inRound y).mono ?_; rintro e w3 ⟨rfl, rfl⟩) | (refine ⟨trivial, ?_⟩; gi_at_call 76; refine (((callsIn_wide (n := 0)).2 Hidx.out).inRound y).mono ?_; rintro e w3 ⟨rfl, rfl⟩))
      show KeepsOthers _ _ ∧ KpO _ _ _ ∧ KnIn w p14 a2 c2 T l.length (pre0 ++ [(⟨x, hxm⟩ : {x : Nat // x < l.length})]) _
      obtain ⟨m1, m2, m3⟩ := HI.out.more (by omega) (fun q hq => by have := k4 q hq; have e : ((W1.alloc (.cells #[.pointer (some ⟨hb, 0, none⟩)] 134)).alloc (.cells #[.int .i64 j] 3)).heap.size = W1.heap.size + 1 + 1 := by simp
                                                                    omega) (-1)
      refine ⟨m1, m2, by rw [List.length_append]; exact m3, fun z hz => ?_⟩
      rw [List.map_append] at hz
      rcases List.mem_append.1 hz with hz | hz
      · exact Hno.out z hz
      · simp at hz
        rw [hz]
        exact Hf.out
    | some k =>
      rw [hf] at hidx
      have hk0 : decide (0 ≤ (k : Int)) = true := by simp
      have Hidx := Lib.hid hidx
      have HI := Lib.hid hI
      have Hno := Lib.hid hno
      have Hf := Lib.hid hf
      have Hb6 := Lib.hid hb6
      have Hd := Lib.hid hd
      have Hb8 := Lib.hid hb8
      have Hb14 := Lib.hid hb14
      clear hidx hI hno hf hb6 hd hb8 hb14
      gi_wp2_with (first | (refine ⟨trivial, rfl, ?_⟩; gi_at_call 76; refine (((callsIn_wide (n := 0)).2 Hidx.out).inRound y).mono ?_; rintro e w3 ⟨rfl, rfl⟩) | (refine ⟨trivial, ?_⟩; gi_at_call 76; refine (((callsIn_wide (n := 0)).2 Hidx.out).inRound y).mono ?_; rintro e w3 ⟨rfl, rfl⟩))
      have hX0 : KnX w pre0.length (k : Int) (w3.setCell ⟨w.heap.size + 1, 0, none⟩ (.int .i64 (k : Int))) := ⟨HI.out.ext.setCell (p := ⟨w.heap.size + 1, 0, none⟩) (by simp only; omega) _, (Below.heap_setCell _ _ _ _ (by simp only; omega)).trans Hb6.out, by rw [heap_setCell_box, Hd.out]; rfl, (Below.heap_setCell _ _ _ _ (by simp only; omega)).trans Hb8.out⟩
      have hK0 : KeepsOthers w3 (w3.setCell ⟨w.heap.size + 1, 0, none⟩ (.int .i64 (k : Int))) := KeepsOthers.setCell _ _ _
      generalize w3.setCell ⟨w.heap.size + 1, 0, none⟩ (.int .i64 (k : Int)) = W8 at *
      clear y0 y1 y2 y3 y6 y7
      have HX0 := Lib.hid hX0
      have HK0 := Lib.hid hK0
      clear hX0 hK0
      refine wpIn_region_tree (.take [0, 1] (.one 2 (.one 3 (.one 4 .done)))) (fun V => KnX w pre0.length (k : Int) V ∧ KeepsOthers w3 V) _ (by kernel_rfl) (by kernel_rfl) rfl (⟨⟨HX0.out.ext.drew, HX0.out.b6, HX0.out.b7, HX0.out.b8⟩, HK0.out.trans (KeepsOthers.drew _)⟩) ?_
      intro ι _ f hf hs
      have f0 := fun q => ((Ext.refl _).box (hf q).1.b6).1
      have f1 := fun q => ((Ext.refl _).box (hf q).1.b7).1
      have HS := Lib.hid hs
      clear hf hs
      simp only [treeOf, oneOp, twoOp, opsOf, consOp, List.getElem?_toArray, List.getElem?_cons_succ, List.getElem?_cons_zero]
      refine wpOT_take ?_
      repeat (go_big_quiet_step (fail))
      refine wpQuiet_nil ?_
      clear f0 f1
      have hX1 : KnX w pre0.length (k : Int) W8.drew := ⟨HX0.out.ext.drew, HX0.out.b6, HX0.out.b7, HX0.out.b8⟩
      have hK1 : KeepsOthers w3 W8.drew := HK0.out.trans (KeepsOthers.drew _)
      generalize W8.drew = W9 at *
      obtain ⟨y0, y1⟩ := (Ext.refl W9).box hX1.b6
      have l9 := heap_lt hX1.b6
      have hX2 := hX1.same.1
      have hK2 := hK1.trans (KeepsOthers.setCell W9 ⟨w.heap.size, 0, none⟩ (.int .i64 (pre0.length : Int)))
      have HX1 := Lib.hid hX1
      have HX2 := Lib.hid hX2
      have HK2 := Lib.hid hK2
      clear hX1 hX2 hK2
      refine wpOT_one ?_
      go_wp2_with fail
      refine ⟨HS.out _ ⟨HX2.out, HK2.out⟩, ?_⟩
      generalize W9.setCell ⟨w.heap.size, 0, none⟩ (.int .i64 (pre0.length : Int)) = W10 at *
      clear y0 y1 l9
      obtain ⟨y0, y1⟩ := (Ext.refl W10).box HX2.out.b7
      have l9 := heap_lt HX2.out.b7
      have hX3 := HX2.out.same.2.1
      have hK3 := HK2.out.trans (KeepsOthers.setCell W10 ⟨w.heap.size + 1, 0, none⟩ (.int .i64 (k : Int)))
      have HX3 := Lib.hid hX3
      have HK3 := Lib.hid hK3
      clear hX3 hK3
      refine wpOT_one ?_
      go_wp2_with fail
      refine ⟨HS.out _ ⟨HX3.out, HK3.out⟩, ?_⟩
      generalize W10.setCell ⟨w.heap.size + 1, 0, none⟩ (.int .i64 (k : Int)) = W11 at *
      clear y0 y1 l9
      obtain ⟨y0, y1⟩ := (Ext.refl W11).box HX3.out.b8
      have l9 := heap_lt HX3.out.b8
      have hX4 := HX3.out.same.2.2
      have hK4 := HK3.out.trans (KeepsOthers.setCell W11 ⟨w.heap.size + 1 + 1, 0, none⟩ (.int .i64 0))
      have HX4 := Lib.hid hX4
      have HK4 := Lib.hid hK4
      clear hX4 hK4
      refine wpOT_one ?_
      go_wp2_with fail
      refine ⟨HS.out _ ⟨HX4.out, HK4.out⟩, ?_⟩
      refine wpOT_done ?_
      gi_wp2
      exact ⟨HK4.out, rfl, pre0.map (·.1), x, k, by simp, Hno.out, Hf.out, by rw [List.length_map]; exact HX4.out⟩
  case done =>
    rintro D xs0 X hD hxs ⟨hI, hno⟩ hK
    have hxs : xs0.map (·.1) = lineOf l i := hxs
    have hkn := kinF_none hno
    rw [hxs] at hkn
    obtain ⟨d, hd⟩ := hI.b7
    have hb6 := hI.b6
    have hb8 := hI.b8
    have hxI := hI.ext
    obtain ⟨y0, y1⟩ := (Ext.refl X).box hb6
    obtain ⟨y2, y3⟩ := (Ext.refl X).box hd
    obtain ⟨y4, y5⟩ := (Ext.refl X).box hb8
    have l6 := heap_lt hb6
    have l7 := heap_lt hd
    have l8 := heap_lt hb8
    have hDD : w.heap.size ≤ D := by have := Hx7.out.size; omega
    have hh : Hung w.heap.size [{ target := .collected D, args := #[] }] X := ⟨⟨D, rfl, hDD, hK, by simp⟩, trivial⟩
    have hs3 := set3 (x' := .int .i64 0) (y' := .int .i64 0) (z' := .int .i64 6) hb6 hd hb8
    have hx9 := ((hxI.setCell (p := ⟨w.heap.size, 0, none⟩) (by simp only; omega) (.int .i64 0)).setCell (p := ⟨w.heap.size + 1, 0, none⟩) (by simp only; omega) (.int .i64 0)).setCell (p := ⟨w.heap.size + 1 + 1, 0, none⟩) (by simp only; omega) (.int .i64 6)
    have hh9 := ((hh.others (KeepsOthers.setCell X ⟨w.heap.size, 0, none⟩ (.int .i64 0))).others (KeepsOthers.setCell _ ⟨w.heap.size + 1, 0, none⟩ (.int .i64 0))).others (KeepsOthers.setCell _ ⟨w.heap.size + 1 + 1, 0, none⟩ (.int .i64 6))
    clear hI hno hK hh hb6 hd hb8 hxI
    have Hs3 := Lib.hid hs3
    have Hx9 := Lib.hid hx9
    have Hh9 := Lib.hid hh9
    have Hkn := Lib.hid hkn
    clear hs3 hx9 hh9 hkn
    go_wp2_with fail
    generalize ((X.setCell ⟨w.heap.size, 0, none⟩ (.int .i64 0)).setCell ⟨w.heap.size + 1, 0, none⟩ (.int .i64 0)).setCell ⟨w.heap.size + 1 + 1, 0, none⟩ (.int .i64 6) = V2 at *
    refine marks_rets Hh9.out fun w' ht => ?_
    obtain ⟨s6, s7, s8⟩ := Hs3.out
    have c6 := ((Ext.refl w').box (ht.cells _ _ _ _ s6)).1 0
    have c7 := ((Ext.refl w').box (ht.cells _ _ _ _ s7)).1 0
    have c8 := ((Ext.refl w').box (ht.cells _ _ _ _ s8)).1 0
    refine ⟨.tuple #[.int .i64 0, .int .i64 0, .int .i64 6], by simp [results, Try.f26, go_sem, c6, c7, c8], ?_, ht.ext Hx9.out (Nat.le_refl _)⟩
    rw [Hko.out, Hkn.out]
  case stop =>
    rintro D e pre X hD hp ⟨rfl, pre0, x, d, h1, h2, h3, h4⟩ hK
    obtain ⟨r, hr⟩ := hp
    have hkn := kinF_hit (r := r) h2 h3
    have hLi : lineOf l i = pre0 ++ x :: r := by
      rw [← hr]
      show pre.map (·.1) ++ r = _
      rw [h1]
      simp
    rw [← hLi] at hkn
    have hDD : w.heap.size ≤ D := by have := Hx7.out.size; omega
    have hh : Hung w.heap.size [{ target := .collected D, args := #[] }] X := ⟨⟨D, rfl, hDD, hK, by simp⟩, trivial⟩
    have Hkn := Lib.hid hkn
    have H4 := Lib.hid h4
    have Hh := Lib.hid hh
    clear hkn h4 hh
    clear h1 h2 h3 hr hLi hK
    refine wpIn_wide.2 ?_
    go_wp2_with fail
    refine marks_rets Hh.out fun w' ht => ?_
    have c6 := ((Ext.refl w').box (ht.cells _ _ _ _ H4.out.b6)).1 0
    have c7 := ((Ext.refl w').box (ht.cells _ _ _ _ H4.out.b7)).1 0
    have c8 := ((Ext.refl w').box (ht.cells _ _ _ _ H4.out.b8)).1 0
    refine ⟨.tuple #[.int .i64 (pre0.length : Int), .int .i64 (d : Int), .int .i64 0], by simp [results, Try.f26, go_sem, c6, c7, c8], ?_, ht.ext H4.out.ext (Nat.le_refl _)⟩
    rw [Hkn.out]
end Go.Proofs.Ytcoelhpmkhimpaa
