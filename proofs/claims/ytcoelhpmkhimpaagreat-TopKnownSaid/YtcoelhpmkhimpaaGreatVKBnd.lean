/- Contracts of layer 4: bounds, near (ported). -/
import Derived.Test.YtcoelhpmkhimpaaGreatVKSee
import Derived.Test.YtcoelhpmkhimpaaGreatVGb
import Derived.Test.YtcoelhpmkhimpaaGreatVGq
import Derived.Test.YtcoelhpmkhimpaaGreatVGn
import Derived.Test.YtcoelhpmkhimpaaGreatVGe
namespace Go.Proofs.YtcoelhpmkhimpaaGreat
open Go.RowKit
set_option linter.unusedVariables false
set_option linter.unusedSimpArgs false
theorem gceil_any (a b : Int) (w : World) (ha0 : -1000000000000000 ≤ a) (ha1 : a ≤ 1000000000000000) (hb0 : 1 ≤ b) (hb1 : b ≤ 1000000000000000) :
    Calls Tryz.prog 76 #[.int .i64 a, .int .i64 b] w fun e w' => e = .returned (.int .i64 (cei a b)) ∧ w' = w := by
  have hf := fun W => floor_any (-a) b W (by omega) (by omega) hb0 hb1
  have hbd := flo_bd (a := -a) (b := b) (M := 1000000000000000) (by omega) (by omega) (by omega)
  have he : cei a b = -flo (-a) b := rfl
  rw [he]
  generalize flo (-a) b = q at *
  have Hf := Lib.hid hf
  clear hf
  clear he
  go_enter Tryz.func76, Tryz.ntmps76
  go_wp2_with (go_at_call 75; refine (Hf.out _).mono ?_; rintro e w1 ⟨rfl, rfl⟩)
  go_ret
  exact ⟨rfl, rfl⟩
set_option maxRecDepth 100000 in
theorem start_any (e n : Span) (w : World) : Calls Tryz.prog 19 #[e.val, n.val] w (AreaOwn (startOf e n) w) := by
  have hor := fun W k hb => ordered2 (-10000000) 10000000 e n W k hb
  have hbo : (spanOk e (-10000000) 10000000 && spanOk n (-10000000) 10000000) = true → ∀ W, Calls Tryz.prog 44 #[e.val, n.val] W (NewHalves (box e n) W) := fun h W => by
    simp only [spanOk, Bool.and_eq_true, decide_eq_true_eq] at h
    exact box_any e n W ⟨by omega, by omega⟩ ⟨by omega, by omega⟩ ⟨by omega, by omega⟩ ⟨by omega, by omega⟩
  have hst : startOf e n = if spanOk e (-10000000) 10000000 && spanOk n (-10000000) 10000000 then (box e n, 0) else ([], 2) := rfl
  have hbl : (box e n).length = 4 := rfl
  generalize box e n = B at *
  obtain ⟨e0, e1⟩ := e
  obtain ⟨n0, n1⟩ := n
  unfold Span.val at *
  simp only at hor hbo ⊢
  obtain ⟨W0, hW0⟩ : ∃ W0, ((w.alloc (.cells #[.int .i64 e0, .int .i64 e1] 27)).alloc (.cells #[.int .i64 n0, .int .i64 n1] 27)).alloc (.cells #[.slice none 0 0] 24) = W0 := ⟨_, rfl⟩
  have hx0 : Ext w W0 := by rw [← hW0]; exact (((Ext.refl w).alloc _).alloc _).alloc _
  have ha0 : W0.heap[w.heap.size]? = some (.cells #[.int .i64 e0, .int .i64 e1] 27 (0, 0)) := by rw [← hW0]; exact (((Ext.refl _).alloc _).alloc _).heap (heap_alloc_new w _)
  have hs0 : W0.heap[w.heap.size + 1]? = some (.cells #[.int .i64 n0, .int .i64 n1] 27 (0, 0)) := by rw [← hW0]; exact ((Ext.refl _).alloc _).heap (alloc_at _ _ _ (by simp))
  have hr0 : W0.heap[w.heap.size + 1 + 1]? = some (.cells #[.slice none 0 0] 24 (0, 0)) := by rw [← hW0]; exact alloc_at _ _ _ (by simp)
  obtain ⟨z0, _⟩ := (Ext.refl W0).box ha0
  obtain ⟨y0, _⟩ := (Ext.refl W0).box hs0
  have hl0 := heap_lt ha0
  have hl1 := heap_lt hs0
  have hl2 := heap_lt hr0
  have hsz := hx0.size
  have hnew := fun (W : World) (o : Obj) (b : Nat) (hb : b = W.heap.size) => show (W.alloc o).heap[b]? = some o from by rw [hb]; exact heap_alloc_new W o
  cases h : (spanOk ⟨e0, e1⟩ (-10000000) 10000000 && spanOk ⟨n0, n1⟩ (-10000000) 10000000) with
  | false =>
    rw [h] at hor
    rw [hst, if_neg (by rw [h]; simp)]
    have Hor := Lib.hid hor
    have Hx0 := Lib.hid hx0
    have Ha0 := Lib.hid ha0
    have Hs0 := Lib.hid hs0
    have Hr0 := Lib.hid hr0
    have Hnew := Lib.hid hnew
    clear hor hx0 ha0 hs0 hr0 hnew
    clear hbo hst h
    go_enter Tryz.func19, Tryz.ntmps19
    go_wp2_with (go_at_call 43; refine (Hor.out _ _ (Hnew.out _ _ _ rfl)).mono ?_; rintro e w1 ⟨rfl, hx1⟩; have hx01 := ((Ext.refl W0).alloc _).trans hx1; have hr1 := hx01.heap Hr0.out; obtain ⟨q1, r1⟩ := (Ext.refl w1).box hr1; have hlr := heap_lt hr1; clear z0 y0)
    refine bodyPost_ret (results_cell_tmp (P := Tryz.prog) (fn := Tryz.f19) rfl _ _ (w.heap.size + 1 + 1) 24 #[.slice none 0 0] (0, 0) _ rfl (by simp only [heap_setCell_box, hr1, Option.map_some, setIn_cells, List.setIfInBounds_toArray, List.set_cons_zero, List.set_cons_succ]) Tryz.underlying24 rfl (by kernel_rfl)) rfl ?_
    exact areaown_none _ _ ((Hx0.out.trans hx01).setCell (p := ⟨w.heap.size + 1 + 1, 0, none⟩) (by simp only; omega) _)
  | true =>
    rw [h] at hor
    rw [hst, if_pos h]
    replace hbo := hbo h
    unfold NewHalves at hbo
    rw [hbl] at hbo
    have Hor := Lib.hid hor
    have Hx0 := Lib.hid hx0
    have Ha0 := Lib.hid ha0
    have Hs0 := Lib.hid hs0
    have Hr0 := Lib.hid hr0
    have Hnew := Lib.hid hnew
    have Hbo := Lib.hid hbo
    have Hbl := Lib.hid hbl
    clear hor hx0 ha0 hs0 hr0 hnew hbo hbl
    clear hst h
    go_enter Tryz.func19, Tryz.ntmps19
    go_wp2_with (first | (go_at_call 43; refine (Hor.out _ _ (Hnew.out _ _ _ rfl)).mono ?_; rintro e w1 ⟨rfl, hx1⟩; have hx01 := ((Ext.refl W0).alloc _).trans hx1; obtain ⟨z1, _⟩ := hx01.box Ha0.out; obtain ⟨y1, _⟩ := hx01.box Hs0.out; clear z0 y0) | (go_at_call 44; refine (Hbo.out _).mono ?_; rintro e w2 ⟨bb, rfl, hbb, hx2, hbh⟩; have hx02 := hx01.trans hx2; have hr2 := hx02.heap Hr0.out; obtain ⟨q1, r1⟩ := (Ext.refl w2).box hr2; have hlr := heap_lt hr2; have hs01 := hx01.size; clear z1 y1))
    refine bodyPost_ret (results_cell_tmp (P := Tryz.prog) (fn := Tryz.f19) rfl _ _ (w.heap.size + 1 + 1) 24 #[.slice (some ⟨bb, 0, none⟩) 4 4] (0, 0) _ rfl (by simp only [heap_setCell_box, hr2, Option.map_some, setIn_cells, List.setIfInBounds_toArray, List.set_cons_zero, List.set_cons_succ]) Tryz.underlying24 rfl (by kernel_rfl)) rfl ?_
    exact areaown_set rfl Hbl.out hbh (by omega) (by decide) (Hx0.out.trans hx02) (by omega) (by omega) _
set_option maxRecDepth 100000 in
theorem nearF_any (a : Option Addr) (len cap : Nat) (l : List Half) (x y far : Int) (w : World) (hl : HalvesAt w a len l) (hc : len ≤ cap) (hm : cap ≤ maxLen) : Calls Tryz.prog 22 #[.agg #[.slice a len cap], .int .i64 x, .int .i64 y, .int .i64 far] w (NearPost l x y far w) := by
  have has := fun W (hW : Ext w W) => asked_any a len cap l x y far W (hl.ext hW) hc hm
  obtain ⟨K, hK⟩ : ∃ K, askedOf l x y far = K := ⟨_, rfl⟩
  have herr := fun hk => near_err hK hk w
  obtain ⟨Q, hQ⟩ : ∃ Q, NearPost l x y far w = Q := ⟨_, rfl⟩
  rw [hQ]
  simp only [hQ] at herr
  have hll := hl.1
  obtain ⟨W0, hW0⟩ : ∃ W0, w.alloc (.cells #[.slice a len cap] 24) = W0 := ⟨_, rfl⟩
  have hx0 : Ext w W0 := by rw [← hW0]; exact (Ext.refl w).alloc _
  have hb0 : W0.heap[w.heap.size]? = some (.cells #[.slice a len cap] 24 (0, 0)) := by rw [← hW0]; exact heap_alloc_new w _
  obtain ⟨z0, _⟩ := (Ext.refl W0).box hb0
  by_cases hk : K = 0
  · subst hk
    obtain ⟨hA, hn, _⟩ := asked_zero hK
    have hlen := hA.len
    have hne := fun W (hW : Ext w W) => near_any a len cap l x y far W (hl.ext hW) (by omega) (by omega) hc hm hA.each hn
    have his := fun k (h : knownOf l x y far = k) => near_is hK h w
    simp only [hQ] at his
    clear hQ
    rw [hK] at has
    generalize knownOf l x y far = k at *
    have Has := Lib.hid has
    have Hx0 := Lib.hid hx0
    have Hb0 := Lib.hid hb0
    have Hne := Lib.hid hne
    have His := Lib.hid his
    clear has hx0 hb0 hne his
    clear hl herr hA
    go_enter Tryz.func22, Tryz.ntmps22
    go_wp2_with (first | (go_at_call 33; refine (Has.out _ Hx0.out).mono ?_; rintro e w1 ⟨rfl, hx1⟩; obtain ⟨z1, _⟩ := hx1.box Hb0.out; clear z0 hW0) | (go_at_call 37; refine (Hne.out _ (Hx0.out.trans hx1)).mono ?_; rintro e w2 ⟨rfl, hx2⟩))
    exact His.out _ rfl _ (Hx0.out.trans (hx1.trans hx2))
  · have hkB : (K != 0) = true := by rw [bne_iff_ne]; exact hk
    rw [hK] at has
    have herr2 := herr hk
    clear hQ
    have Has := Lib.hid has
    have Hx0 := Lib.hid hx0
    have Hb0 := Lib.hid hb0
    have Herr2 := Lib.hid herr2
    clear has hx0 hb0 herr2
    clear hl herr
    go_enter Tryz.func22, Tryz.ntmps22
    go_wp2_with (go_at_call 33; refine (Has.out _ Hx0.out).mono ?_; rintro e w1 ⟨rfl, hx1⟩)
    exact Herr2.out _ (Hx0.out.trans hx1)
/-- three results, the first two aggregates in variables of their own -/
theorem results_cells_tmp {P : Program} {fn : Func} {p p' t : Tmp} {ty ty' : TypeId} (h : fn.results = #[.cell p ty, .cell p' ty', .tmp t]) (tmps : Array Value) (w : World) (g g' : Nat) (T T' : TypeId) (cs cs' : Array Value) (fr fr' : Nat × Nat) (d d' : TypeDesc)
    (hp : tmps.getD p undef = .pointer (some ⟨g, 0, none⟩)) (hg : w.heap[g]? = some (.cells cs T fr)) (hu : P.underlying ty = some d) (hd : (match d with | .struct _ | .array _ _ => true | _ => false) = true) (hi : (P.info? ty).map (·.size) = some cs.size)
    (hp' : tmps.getD p' undef = .pointer (some ⟨g', 0, none⟩)) (hg' : w.heap[g']? = some (.cells cs' T' fr')) (hu' : P.underlying ty' = some d') (hd' : (match d' with | .struct _ | .array _ _ => true | _ => false) = true) (hi' : (P.info? ty').map (·.size) = some cs'.size) :
    (results fn tmps).run P w = .ok (.tuple #[.agg cs, .agg cs', tmps.getD t undef]) w := by
  have e : tmps[p]?.getD undef = .pointer (some ⟨g, 0, none⟩) := by simpa using hp
  have e' : tmps[p']?.getD undef = .pointer (some ⟨g', 0, none⟩) := by simpa using hp'
  simp [results, h, e, e', asAddr, run_loadVar_row w g T ty cs fr d hg hu hd hi, run_loadVar_row w g' T' ty' cs' fr' d' hg' hu' hd' hi']
attribute [local go_sem] Oper.semAt_some
theorem KpO.set {O : Nat → Prop} {W : World} {b i : Nat} {u : Value} (h : O b) : KpO O W (W.setCell ⟨b, i, none⟩ u) :=
  ⟨by simp, fun k o hk _ hn => (Below.heap_setCell _ _ _ _ (fun e => hn (by rw [e]; exact h))).trans hk⟩
/-- the bounds of a list of corners -/
def bndL (cs : List Corner) : Span × Span := (bndOf cs).getD (zs, zs)
theorem bndL_snoc (cs : List Corner) (c : Corner) : bndL (cs ++ [c]) = if cs.isEmpty then (spanX c, spanY c) else ((bndL cs).1.hull (spanX c), (bndL cs).2.hull (spanY c)) := by
  unfold bndL
  rw [bndOf_snoc]
  have inv := bndOf_inv cs
  cases hb : bndOf cs with
  | none =>
    rw [hb] at inv
    simp only at inv
    rw [inv]
    rfl
  | some a =>
    cases cs with
    | nil => cases hb
    | cons x r => rfl
/-- what lies in the variables of the results -/
def BJ (w : World) (pe pn pb : Nat) (cs : List Corner) (W : World) : Prop :=
  W.heap[pe]? = some (.cells #[.int .i64 (bndL cs).1.lo, .int .i64 (bndL cs).1.hi] 27 (0, 0)) ∧ W.heap[pn]? = some (.cells #[.int .i64 (bndL cs).2.lo, .int .i64 (bndL cs).2.hi] 27 (0, 0)) ∧ W.heap[pb]? = some (.cells #[.bool (!cs.isEmpty)] 4 (0, 0)) ∧ Ext w W
/-- writes to the blocks O alone; blocks may be added -/
def Wr (O : Nat → Prop) (B : Nat) (W W' : World) : Prop := KeepsFrom B W W' ∧ KpO O W W'
theorem Wr.trans {O : Nat → Prop} {B : Nat} {X Y Z : World} (h : Wr O B X Y) (k : Wr O B Y Z) : Wr O B X Z := ⟨h.1.trans k.1, h.2.trans k.2⟩
theorem Wr.ext {O : Nat → Prop} {B : Nat} {X Y : World} (h : Ext X Y) : Wr O B X Y := ⟨h.keeps _, h.kpO _⟩
theorem Wr.set {O : Nat → Prop} {B : Nat} {W : World} {b i : Nat} {u : Value} (h : O b) : Wr O B W (W.setCell ⟨b, i, none⟩ u) := ⟨(KeepsOthers.setCell _ _ _).from _, KpO.set h⟩
theorem Wr.set2 {O : Nat → Prop} {B : Nat} {W : World} {b : Nat} {u v : Value} (h : O b) : Wr O B W ((W.setCell ⟨b, 0, none⟩ u).setCell ⟨b, 1, none⟩ v) := (Wr.set h).trans (Wr.set h)
theorem Wr.drew {O : Nat → Prop} {B : Nat} {W : World} : Wr O B W W.drew := .ext (Ext.refl _).drew
theorem bndL_le {cs : List Corner} (h : ∀ c ∈ cs, 0 < c.d) : (bndL cs).1.lo ≤ (bndL cs).1.hi ∧ (bndL cs).2.lo ≤ (bndL cs).2.hi := by
  unfold bndL
  have inv := bndOf_inv cs
  cases hb : bndOf cs with
  | none => exact ⟨Int.le_refl _, Int.le_refl _⟩
  | some a =>
    rw [hb] at inv
    simp only at inv
    obtain ⟨c, hc, e⟩ := inv.xl
    obtain ⟨d, hd, f⟩ := inv.yl
    have h1 := (inv.x c hc).2
    have h2 := (inv.y d hd).2
    have h3 := flo_cei (a := c.x) (h c hc)
    have h4 := flo_cei (a := d.y) (h d hd)
    simp only [Option.getD_some]
    omega
/-- the three variables of the results -/
def BJ3 (pe pn pb : Nat) (a b c d : Int) (is : Bool) (W : World) : Prop := W.heap[pe]? = some (.cells #[.int .i64 a, .int .i64 b] 27 (0, 0)) ∧ W.heap[pn]? = some (.cells #[.int .i64 c, .int .i64 d] 27 (0, 0)) ∧ W.heap[pb]? = some (.cells #[.bool is] 4 (0, 0))
theorem BJ3.set1 {p : Nat} {a b c d : Int} {is : Bool} {W : World} (h : BJ3 p (p + 1) (p + 1 + 1) a b c d is W) : BJ3 p (p + 1) (p + 1 + 1) a b c d is ((W.setCell ⟨p, 0, none⟩ (.int .i64 a)).setCell ⟨p, 1, none⟩ (.int .i64 b)) :=
  ⟨set2_at h.1, (gset2_other (by omega)).trans h.2.1, (gset2_other (by omega)).trans h.2.2⟩
theorem BJ3.set2 {p : Nat} {a b c d : Int} {is : Bool} {W : World} (h : BJ3 p (p + 1) (p + 1 + 1) a b c d is W) : BJ3 p (p + 1) (p + 1 + 1) a b c d is ((W.setCell ⟨p + 1, 0, none⟩ (.int .i64 c)).setCell ⟨p + 1, 1, none⟩ (.int .i64 d)) :=
  ⟨(gset2_other (by omega)).trans h.1, set2_at h.2.1, (gset2_other (by omega)).trans h.2.2⟩
theorem BJ3.set3 {p : Nat} {a b c d : Int} {is : Bool} {W : World} (h : BJ3 p (p + 1) (p + 1 + 1) a b c d is W) : BJ3 p (p + 1) (p + 1 + 1) a b c d is (W.setCell ⟨p + 1 + 1, 0, none⟩ (.bool is)) :=
  ⟨(Below.heap_setCell _ _ _ _ (by simp only; omega)).trans h.1, (Below.heap_setCell _ _ _ _ (by simp only; omega)).trans h.2.1, by rw [heap_setCell_box, h.2.2]; rfl⟩
theorem BJ3.drew {p q r : Nat} {a b c d : Int} {is : Bool} {W : World} (h : BJ3 p q r a b c d is W) : BJ3 p q r a b c d is W.drew := h
theorem Two.drew {p q : Nat} {a b c d : Int} {W : World} (h : Two p q a b c d W) : Two p q a b c d W.drew := h
theorem heap_drew (W : World) : W.drew.heap = W.heap := rfl
theorem minmax4 {a b c d : Int} (h : a ≤ b) (k : c ≤ d) : min (min a b) (min c d) = min a c ∧ max (max a b) (max c d) = max b d := by omega
theorem results_bnd {tmps : Array Value} {p q r : Nat} (hp : tmps.getD 2 undef = .pointer (some ⟨p, 0, none⟩)) (hq : tmps.getD 3 undef = .pointer (some ⟨q, 0, none⟩)) (hr : tmps.getD 4 undef = .pointer (some ⟨r, 0, none⟩)) (hu : Tryz.prog.underlying 28 = Tryz.prog.underlying 28) (W : World) (e0 e1 n0 n1 : Int) {is : Bool} (h1 : W.heap[p]? = some (.cells #[.int .i64 e0, .int .i64 e1] 27 (0, 0))) (h2 : W.heap[q]? = some (.cells #[.int .i64 n0, .int .i64 n1] 27 (0, 0))) (h3 : W.cell? ⟨r, 0, none⟩ = some (.bool is)) :
    (results Tryz.f48 tmps).run Tryz.prog W = .ok (.tuple #[.agg #[.int .i64 e0, .int .i64 e1], .agg #[.int .i64 n0, .int .i64 n1], .bool is]) W := by
  have ep : tmps[2]?.getD undef = .pointer (some ⟨p, 0, none⟩) := by simpa using hp
  have eq : tmps[3]?.getD undef = .pointer (some ⟨q, 0, none⟩) := by simpa using hq
  have er : tmps[4]?.getD undef = .pointer (some ⟨r, 0, none⟩) := by simpa using hr
  have c0 := ((Ext.refl W).box h1).1
  have d0 := ((Ext.refl W).box h2).1
  simp [results, Tryz.f48, Tryz.results48, ep, eq, er, asAddr, go_sem, h3, c0, d0]
set_option maxRecDepth 100000 in
set_option maxHeartbeats 8000000 in
theorem bounds_any (a : Option Addr) (len cap : Nat) (l : List Half) (w : World) (hl : HalvesAt w a len l) (hl0 : 0 < len) (hlen : len ≤ 900) (hcap : len ≤ cap) (hcm : cap ≤ maxLen) (hh : ∀ h ∈ l, HalfIn h) :
    Calls Tryz.prog 48 #[.slice a len cap] w fun e w' => e = .returned (.tuple #[(bndL (cornersOf l)).1.val, (bndL (cornersOf l)).2.val, .bool (someB l)]) ∧ Ext w w' := by
  have hsm : someB l = !(cornersOf l).isEmpty := rfl
  have hll := hl.1
  obtain ⟨lb, lo, _, rfl, _, hbl, _⟩ := hl.get 0 hl0
  obtain ⟨EN, hEN⟩ : ∃ EN, bndL (cornersOf l) = EN := ⟨_, rfl⟩
  obtain ⟨is, his⟩ : ∃ b, someB l = b := ⟨_, rfl⟩
  rw [hEN, his]
  have Hl := Lib.hid hl
  have Hh := Lib.hid hh
  have Hll := Lib.hid hll
  have Hsm := Lib.hid hsm
  have HEN := Lib.hid hEN
  have His := Lib.hid his
  clear hl hh hll hsm hEN his
  refine (callsIn_wide (n := 2)).1 ?_
  refine callsIn_of_wp_marks Tryz.func48 rfl trivial ?_ rfl
  simp only [Tryz.ntmps48, List.size_toArray, List.length_cons, List.length_nil, Nat.reduceAdd, Nat.reduceSub, Array.replicate_succ, Array.replicate_zero, List.push_toArray, List.append_toArray, List.nil_append, List.cons_append]
  gi_wp2_with (refine ⟨trivial, ?_⟩; gi_at_call 58; refine (callsIn_wide.2 (corners_any _ _ _ _)).mono ?_; rintro e w3 ⟨rfl, rfl⟩)
  obtain ⟨W0, hW0⟩ : ∃ W0, (((w.alloc (.cells #[.int .i64 0, .int .i64 0] 27)).alloc (.cells #[.int .i64 0, .int .i64 0] 27)).alloc (.cells #[.bool false] 4)).alloc (.cells #[.slice (some ⟨lb, lo, none⟩) len cap] 22) = W0 := ⟨_, rfl⟩
  have hx0 : Ext w W0 := by rw [← hW0]; exact ((((Ext.refl _).alloc _).alloc _).alloc _).alloc _
  have he0 : W0.heap[w.heap.size]? = some (.cells #[.int .i64 0, .int .i64 0] 27 (0, 0)) := by rw [← hW0]; exact ((((Ext.refl _).alloc _).alloc _).alloc _).heap (heap_alloc_new w _)
  have hn0 : W0.heap[w.heap.size + 1]? = some (.cells #[.int .i64 0, .int .i64 0] 27 (0, 0)) := by rw [← hW0]; exact (((Ext.refl _).alloc _).alloc _).heap (alloc_at _ _ _ (by simp))
  have hb0 : W0.heap[w.heap.size + 1 + 1]? = some (.cells #[.bool false] 4 (0, 0)) := by rw [← hW0]; exact ((Ext.refl _).alloc _).heap (alloc_at _ _ _ (by simp))
  have hc0 : W0.heap[w.heap.size + 1 + 1 + 1]? = some (.cells #[.slice (some ⟨lb, lo, none⟩) len cap] 22 (0, 0)) := by rw [← hW0]; exact alloc_at _ _ _ (by simp)
  have hl0 := Hl.out.ext hx0
  have hlc := heap_lt hc0
  rw [hW0]
  clear hW0
  refine wpIn_rangeFunc_ownH rfl (by omega) (gf := 85) (lb := #[.pointer (some ⟨w.heap.size + 1 + 1 + 1, 0, none⟩)]) rfl trivial (enters_of Tryz.func85 (by kernel_rfl) rfl)
    (corners_stops _ (w.heap.size + 1 + 1 + 1) (some ⟨lb, lo, none⟩) len cap l (fun b => b = w.heap.size ∨ b = w.heap.size + 1 ∨ b = w.heap.size + 1 + 1) W0 hc0 hl0 Hh.out (by omega) hcap hcm (by omega) (fun x hx => by cases hx; simp only; omega) (fun b hb => by omega)) kpO_t kpO_b (Below.refl _ _) (fun _ => rfl)
    (fun pre W => BJ w w.heap.size (w.heap.size + 1) (w.heap.size + 1 + 1) (vals pre) W ∧ W0.heap.size ≤ W.heap.size)
    (fun c pre W => False)
    (fun s A' B row hs hg hr => ⟨⟨heap_own hs.1.1 hg hr, heap_own hs.1.2.1 hg hr, heap_own hs.1.2.2.1 hg hr, ext_own (by have := hx0.size; omega) s A' B row hs.1.2.2.2 hg hr⟩, Nat.le_trans hs.2 hg.size⟩)
    (fun c s A' B row hs hg hr => hs)
    ⟨⟨he0, hn0, hb0, hx0⟩, Nat.le_refl _⟩
    (fun q a' W => ∃ Bx, W0.heap.size ≤ Bx ∧ W.heap[Bx]? = some (.cells #[.int .i64 q.1.x, .int .i64 q.1.y, .int .i64 q.1.d] 122 (0, 0)) ∧ a' = { tmps := #[.slice (some ⟨lb, lo, none⟩) len cap, undef, .pointer (some ⟨w.heap.size, 0, none⟩), .pointer (some ⟨w.heap.size + 1, 0, none⟩), .pointer (some ⟨w.heap.size + 1 + 1, 0, none⟩), .pointer (some ⟨Bx, 0, none⟩), undef, undef, .slice (some ⟨lb, lo, none⟩) len cap, .func (.func 85) #[] #[.pointer (some ⟨w.heap.size + 1 + 1 + 1, 0, none⟩)], q.1.val, undef, undef, undef, undef, undef, undef, undef, undef, undef, undef, undef, undef, undef, undef, undef, undef, undef, undef, undef, undef, undef, undef, undef, undef, undef, undef, undef, undef, undef, undef, undef, undef, undef, undef, undef, undef, undef, undef, undef, undef, undef, undef, undef, undef, undef, undef, undef, undef, undef], defers := [] })
    (fun q a' s A' B row hs hg hr => let ⟨Bx, h1, h2, h3⟩ := hs; ⟨Bx, h1, heap_own h2 hg hr, h3⟩) ?assign ?body ?done ?stop
  case assign =>
    intro l' pre q W K hI hK
    obtain ⟨⟨cx, cy, cd⟩, hq⟩ := q
    simp only [Corner.val]
    gi_wp2
    have hxa : Ext W (W.alloc (.cells #[.int .i64 cx, .int .i64 cy, .int .i64 cd] 122)) := (Ext.refl _).alloc _
    exact hK _ _ (hxa.keeps _) (hxa.kpO _) ⟨⟨hxa.heap hI.1.1, hxa.heap hI.1.2.1, hxa.heap hI.1.2.2.1, hI.1.2.2.2.trans hxa⟩, Nat.le_trans hI.2 hxa.size⟩ ⟨W.heap.size, hI.2, heap_alloc_new _ _, rfl⟩
  case body =>
    rintro l' pre q a' W hl' hr' ⟨⟨hbe, hbn, hbb, hxw⟩, hszw⟩ ⟨Bx, hBx, hbx, rfl⟩ hN
    obtain ⟨⟨cx, cy, cd⟩, hci, hcd⟩ := q
    obtain ⟨x0, x1, y0, y1, d0, d1⟩ := hci
    simp only at x0 x1 y0 y1 d0 d1 hcd hbx
    have hsn := bndL_snoc (vals pre) ⟨cx, cy, cd⟩
    have hf1 := fun W => floor_any cx cd W (by omega) (by omega) (by omega) (by omega)
    have hf2 := fun W => gceil_any cx cd W (by omega) (by omega) (by omega) (by omega)
    have hf3 := fun W => floor_any cy cd W (by omega) (by omega) (by omega) (by omega)
    have hf4 := fun W => gceil_any cy cd W (by omega) (by omega) (by omega) (by omega)
    have hlx : (spanX ⟨cx, cy, cd⟩).lo ≤ (spanX ⟨cx, cy, cd⟩).hi := flo_cei hcd
    have hly : (spanY ⟨cx, cy, cd⟩).lo ≤ (spanY ⟨cx, cy, cd⟩).hi := flo_cei hcd
    simp only [spanX, spanY] at hsn hlx hly
    generalize flo cx cd = q1 at *
    generalize cei cx cd = q2 at *
    generalize flo cy cd = q3 at *
    generalize cei cy cd = q4 at *
    have Hbe := Lib.hid hbe
    have Hbn := Lib.hid hbn
    have Hbb := Lib.hid hbb
    have Hxw := Lib.hid hxw
    have Hbx := Lib.hid hbx
    have Hf1 := Lib.hid hf1
    have Hf2 := Lib.hid hf2
    have Hf3 := Lib.hid hf3
    have Hf4 := Lib.hid hf4
    have Hsn := Lib.hid hsn
    clear hbe hbn hbb hxw hbx hf1 hf2 hf3 hf4 hsn
    simp only [Corner.val]
    gi_wp2
    refine wpIn_region_plan (.take [0, 1, 2, 3, 5, 6, 7, 8, 11, 12, 13, 14, 16, 17, 18, 19] (.call 4 (.call 9 (.free [10] (.call 15 (.call 20 (.free [21] (.two 22 (.one 23 (.fin (.one 24 (.one 25 .done)))) 23 (.one 22 (.fin (.one 24 (.one 25 .done)))))))))))) [24, 25] (Ext W) _ (by kernel_rfl) (by kernel_rfl) rfl (EC.ext W) ((Ext.refl _).drew) ?_
    simp only [planOf, treeOf, oneOp, twoOp, opsOf, consOp, callOC, oneOC, twoOC, List.getElem?_toArray, List.getElem?_cons_succ, List.getElem?_cons_zero]
    intro ι _ f hf
    have f0 := fun q => ((hf q).box Hbx.out).1
    clear hf
    repeat (go_big_quiet_step (fail))
    refine wpQuiet_nil ?_
    clear f0
    refine wpOC_call (args := #[.int .i64 cx, .int .i64 cd]) (v := .int .i64 q1) rfl rfl (enters_of Tryz.func75 (by kernel_rfl) rfl) (by kernel_rfl) (fun W _ => (Hf1.out W).mono fun e w' ⟨h1, h2⟩ => ⟨h1, h2 ▸ Ext.refl _⟩) ?_
    simp only [Act.put, List.setIfInBounds_toArray, List.set_cons_succ, List.set_cons_zero]
    refine wpOC_call (args := #[.int .i64 cx, .int .i64 cd]) (v := .int .i64 q2) rfl rfl (enters_of Tryz.func76 (by kernel_rfl) rfl) (by kernel_rfl) (fun W _ => (Hf2.out W).mono fun e w' ⟨h1, h2⟩ => ⟨h1, h2 ▸ Ext.refl _⟩) ?_
    simp only [Act.put, List.setIfInBounds_toArray, List.set_cons_succ, List.set_cons_zero]
    refine wpOC_free ?_
    repeat (go_big_quiet_step (fail))
    refine wpQuiet_nil ?_
    refine wpOC_call (args := #[.int .i64 cy, .int .i64 cd]) (v := .int .i64 q3) rfl rfl (enters_of Tryz.func75 (by kernel_rfl) rfl) (by kernel_rfl) (fun W _ => (Hf3.out W).mono fun e w' ⟨h1, h2⟩ => ⟨h1, h2 ▸ Ext.refl _⟩) ?_
    simp only [Act.put, List.setIfInBounds_toArray, List.set_cons_succ, List.set_cons_zero]
    refine wpOC_call (args := #[.int .i64 cy, .int .i64 cd]) (v := .int .i64 q4) rfl rfl (enters_of Tryz.func76 (by kernel_rfl) rfl) (by kernel_rfl) (fun W _ => (Hf4.out W).mono fun e w' ⟨h1, h2⟩ => ⟨h1, h2 ▸ Ext.refl _⟩) ?_
    simp only [Act.put, List.setIfInBounds_toArray, List.set_cons_succ, List.set_cons_zero]
    refine wpOC_free ?_
    repeat (go_big_quiet_step (fail))
    refine wpQuiet_nil ?_
    refine wpOC_two ?_
    apply join_orders (F := fun p10 p11 W' => Ext W W' ∧ W.heap.size ≤ p10 ∧ W.heap.size ≤ p11 ∧ W'.heap[p10]? = some (.cells #[.int .i64 q1, .int .i64 q2] 27 (0, 0)) ∧ W'.heap[p11]? = some (.cells #[.int .i64 q3, .int .i64 q4] 27 (0, 0)))
    · intro G Wa hxa
      go_wp2_with fail
      have hpa := hxa.size
      have haa := heap_alloc_new Wa (.cells #[.int .i64 0, .int .i64 0] 27)
      have hxa' := hxa.alloc (.cells #[.int .i64 0, .int .i64 0] 27)
      generalize Wa.alloc (.cells #[.int .i64 0, .int .i64 0] 27) = Wa' at *
      generalize Wa.heap.size = pa at *
      refine ⟨fun V => Ext W V ∧ V.heap[pa]? = some (.cells #[.int .i64 0, .int .i64 0] 27 (0, 0)), (EC.ext W).and (EC.heap pa _), fun _ h => h.1, ⟨hxa', haa⟩, ?_⟩
      clear hxa hxa' haa Wa Wa'
      rintro Wb ⟨hxb, hab⟩
      go_wp2_with fail
      have hpb := hxb.size
      have hlb := heap_lt hab
      have hbb := heap_alloc_new Wb (.cells #[.int .i64 0, .int .i64 0] 27)
      have hxb' := hxb.alloc (.cells #[.int .i64 0, .int .i64 0] 27)
      have hab' := ((Ext.refl Wb).alloc (.cells #[.int .i64 0, .int .i64 0] 27)).heap hab
      have hne : pa ≠ Wb.heap.size := by omega
      clear hlb
      generalize Wb.alloc (.cells #[.int .i64 0, .int .i64 0] 27) = Wb' at *
      generalize Wb.heap.size = pb at *
      refine ⟨fun V => (Ext W V ∧ V.heap[pa]? = some (.cells #[.int .i64 0, .int .i64 0] 27 (0, 0))) ∧ V.heap[pb]? = some (.cells #[.int .i64 0, .int .i64 0] 27 (0, 0)), ((EC.ext W).and (EC.heap pa _)).and (EC.heap pb _), fun _ h => h.1, ⟨⟨hxb', hab'⟩, hbb⟩, ?_⟩
      clear hxb hxb' hab hab' hbb Wb Wb'
      rintro Wc ⟨⟨hxc, hac⟩, hbc⟩
      refine wpOT_one ?_
      obtain ⟨k0, k1⟩ := (Ext.refl Wc).box hac
      obtain ⟨j0, j1⟩ := (Ext.refl Wc).box hbc
      have hla := heap_lt hac
      have hlb := heap_lt hbc
      go_wp2_with fail
      refine wpOT_one ?_
      go_wp2_with fail
      refine wpOT_done ?_
      have hc4 := set4_at (a := .int .i64 q1) (b := .int .i64 q2) (c := .int .i64 q3) (d := .int .i64 q4) hac hbc hne
      exact G _ _ _ ⟨gset2_ext (gset2_ext hxc hpa) hpb, hpa, hpb, hc4⟩
    · intro G Wa hxa
      go_wp2_with fail
      have hpa := hxa.size
      have haa := heap_alloc_new Wa (.cells #[.int .i64 0, .int .i64 0] 27)
      have hxa' := hxa.alloc (.cells #[.int .i64 0, .int .i64 0] 27)
      generalize Wa.alloc (.cells #[.int .i64 0, .int .i64 0] 27) = Wa' at *
      generalize Wa.heap.size = pa at *
      refine ⟨fun V => Ext W V ∧ V.heap[pa]? = some (.cells #[.int .i64 0, .int .i64 0] 27 (0, 0)), (EC.ext W).and (EC.heap pa _), fun _ h => h.1, ⟨hxa', haa⟩, ?_⟩
      clear hxa hxa' haa Wa Wa'
      rintro Wb ⟨hxb, hab⟩
      go_wp2_with fail
      have hpb := hxb.size
      have hlb := heap_lt hab
      have hbb := heap_alloc_new Wb (.cells #[.int .i64 0, .int .i64 0] 27)
      have hxb' := hxb.alloc (.cells #[.int .i64 0, .int .i64 0] 27)
      have hab' := ((Ext.refl Wb).alloc (.cells #[.int .i64 0, .int .i64 0] 27)).heap hab
      have hne : pa ≠ Wb.heap.size := by omega
      clear hlb
      generalize Wb.alloc (.cells #[.int .i64 0, .int .i64 0] 27) = Wb' at *
      generalize Wb.heap.size = pb at *
      refine ⟨fun V => (Ext W V ∧ V.heap[pa]? = some (.cells #[.int .i64 0, .int .i64 0] 27 (0, 0))) ∧ V.heap[pb]? = some (.cells #[.int .i64 0, .int .i64 0] 27 (0, 0)), ((EC.ext W).and (EC.heap pa _)).and (EC.heap pb _), fun _ h => h.1, ⟨⟨hxb', hab'⟩, hbb⟩, ?_⟩
      clear hxb hxb' hab hab' hbb Wb Wb'
      rintro Wc ⟨⟨hxc, hac⟩, hbc⟩
      refine wpOT_one ?_
      obtain ⟨k0, k1⟩ := (Ext.refl Wc).box hac
      obtain ⟨j0, j1⟩ := (Ext.refl Wc).box hbc
      have hla := heap_lt hac
      have hlb := heap_lt hbc
      go_wp2_with fail
      refine wpOT_one ?_
      go_wp2_with fail
      refine wpOT_done ?_
      have hc4 := set4_at (a := .int .i64 q1) (b := .int .i64 q2) (c := .int .i64 q3) (d := .int .i64 q4) hbc hac (Ne.symm hne)
      exact G _ _ _ ⟨gset2_ext (gset2_ext hxc hpb) hpa, hpb, hpa, hc4⟩
    rintro p10 p11 W2 ⟨hx2, hp10, hp11, hb10, hb11⟩
    have hk2 := hx2.heap Hbe.out
    have hk3 := hx2.heap Hbn.out
    have hk4 := hx2.heap Hbb.out
    have hx02 := Hxw.out.trans hx2
    have hwr2 : Wr (fun b => b = w.heap.size ∨ b = w.heap.size + 1 ∨ b = w.heap.size + 1 + 1) W0.heap.size W W2 := .ext hx2
    have hlw := heap_lt Hbb.out
    have hl2 := heap_lt hk2
    have hl3 := heap_lt hk3
    have hl4 := heap_lt hk4
    have hl10 := heap_lt hb10
    have hl11 := heap_lt hb11
    obtain ⟨k4, m4⟩ := (Ext.refl W2).box hk4
    have hle := bndL_le (cs := vals pre) (fun c hc => by
      obtain ⟨g, _, rfl⟩ := List.mem_map.1 hc
      exact g.2.2)
    have hend : ∀ (E N : Span) (W' : World), bndL (vals pre ++ [⟨cx, cy, cd⟩]) = (E, N) → W'.heap[w.heap.size]? = some (.cells #[.int .i64 E.lo, .int .i64 E.hi] 27 (0, 0)) → W'.heap[w.heap.size + 1]? = some (.cells #[.int .i64 N.lo, .int .i64 N.hi] 27 (0, 0)) → W'.heap[w.heap.size + 1 + 1]? = some (.cells #[.bool true] 4 (0, 0)) → Ext w W' →
        BJ w w.heap.size (w.heap.size + 1) (w.heap.size + 1 + 1) (vals (pre ++ [⟨⟨cx, cy, cd⟩, ⟨x0, x1, y0, y1, d0, d1⟩, hcd⟩])) W' := fun E N W' h1 h2 h3 h4 h5 => by
      unfold BJ
      rw [vals_snoc, h1]
      exact ⟨h2, h3, by rw [h4]; simp, h5⟩
    generalize bndL (vals pre) = EN at *
    obtain ⟨⟨e0, e1⟩, ⟨n0, n1⟩⟩ := EN
    simp only at hk2 hk3 hle
    obtain ⟨hle1, hle2⟩ := hle
    have Hk2 := Lib.hid hk2
    have Hk3 := Lib.hid hk3
    have Hk4 := Lib.hid hk4
    have Hb10 := Lib.hid hb10
    have Hb11 := Lib.hid hb11
    have Hx02 := Lib.hid hx02
    have Hwr2 := Lib.hid hwr2
    have Hend := Lib.hid hend
    clear hk2 hk3 hk4 hb10 hb11 hx02 hwr2 hend
    clear Hf1 Hf2 Hf3 Hf4 hx2 Hbe Hbn Hbb Hxw Hbx
    cases hpe : (vals pre).isEmpty with
    | true =>
      rw [hpe] at k4
      have hk4' := Hk4.out
      rw [hpe] at hk4'
      clear Hk4
      have Hk4 := Lib.hid hk4'
      clear hk4'
      obtain ⟨k0, k1⟩ := (Ext.refl W2).box Hk2.out
      obtain ⟨j0, j1⟩ := (Ext.refl W2).box Hk3.out
      gi_wp2
      have hnpe1 : p10 ≠ w.heap.size := by omega
      have hnpe2 : p11 ≠ w.heap.size := by omega
      have hnpn1 : p10 ≠ w.heap.size + 1 := by omega
      have hnpn2 : p11 ≠ w.heap.size + 1 := by omega
      have hnpb1 : p10 ≠ w.heap.size + 1 + 1 := by omega
      have hnpb2 : p11 ≠ w.heap.size + 1 + 1 := by omega
      refine wpIn_region_tree (.take [0, 1] (.one 2 (.one 3 (.one 4 .done)))) (Two p10 p11 q1 q2 q3 q4) _ (by kernel_rfl) (by kernel_rfl) rfl ⟨Hb10.out, Hb11.out⟩ ?_
      intro ι _ f hf hs
      have f0 := fun q => ((Ext.refl (f q)).box (hf q).1).1
      have f1 := fun q => ((Ext.refl (f q)).box (hf q).2).1
      have HS := Lib.hid hs
      clear hf hs
      simp only [treeOf, oneOp, twoOp, opsOf, consOp, List.getElem?_toArray, List.getElem?_cons_succ, List.getElem?_cons_zero]
      refine wpOT_take ?_
      repeat (go_big_quiet_step (fail))
      refine wpQuiet_nil ?_
      clear f0 f1
      have hT0 : Two p10 p11 q1 q2 q3 q4 W2 := ⟨Hb10.out, Hb11.out⟩
      have hT1 := hT0.set (u := .int .i64 q1) (v := .int .i64 q2) hnpe1 hnpe2
      have hT2 := hT1.set (u := .int .i64 q3) (v := .int .i64 q4) hnpn1 hnpn2
      have hT3 : Two p10 p11 q1 q2 q3 q4 ((((((W2.setCell ⟨w.heap.size, 0, none⟩ (.int .i64 q1)).setCell ⟨w.heap.size, 1, none⟩ (.int .i64 q2)).setCell ⟨w.heap.size + 1, 0, none⟩ (.int .i64 q3)).setCell ⟨w.heap.size + 1, 1, none⟩ (.int .i64 q4)).setCell ⟨w.heap.size + 1 + 1, 0, none⟩ (.bool true))) := ⟨(Below.heap_setCell _ _ _ _ (by simp only; omega)).trans hT2.1, (Below.heap_setCell _ _ _ _ (by simp only; omega)).trans hT2.2⟩
      have hq4 := set4_at (a := .int .i64 q1) (b := .int .i64 q2) (c := .int .i64 q3) (d := .int .i64 q4) Hk2.out Hk3.out (show w.heap.size ≠ w.heap.size + 1 by omega)
      have hq5 : ((((W2.setCell ⟨w.heap.size, 0, none⟩ (.int .i64 q1)).setCell ⟨w.heap.size, 1, none⟩ (.int .i64 q2)).setCell ⟨w.heap.size + 1, 0, none⟩ (.int .i64 q3)).setCell ⟨w.heap.size + 1, 1, none⟩ (.int .i64 q4)).heap[w.heap.size + 1 + 1]? = some (.cells #[.bool (!true)] 4 (0, 0)) := (gset2_other (by omega)).trans ((gset2_other (by omega)).trans Hk4.out)
      have hx5 := gset2_ext (a := .int .i64 q3) (b := .int .i64 q4) (gset2_ext (a := .int .i64 q1) (b := .int .i64 q2) Hx02.out (Nat.le_refl _)) (show w.heap.size ≤ w.heap.size + 1 by omega)
      have hw5 : Wr (fun b => b = w.heap.size ∨ b = w.heap.size + 1 ∨ b = w.heap.size + 1 + 1) W0.heap.size W _ := Hwr2.out.trans ((Wr.set2 (u := .int .i64 q1) (v := .int .i64 q2) (.inl rfl)).trans (Wr.set2 (u := .int .i64 q3) (v := .int .i64 q4) (.inr (.inl rfl))))
      have HT0 := Lib.hid hT0
      have HT1 := Lib.hid hT1
      have HT2 := Lib.hid hT2
      have HT3 := Lib.hid hT3
      have Hq4 := Lib.hid hq4
      have Hq5 := Lib.hid hq5
      have Hx5 := Lib.hid hx5
      have Hw5 := Lib.hid hw5
      clear hT0 hT1 hT2 hT3 hq4 hq5 hx5 hw5
      refine wpOT_one ?_
      go_wp2_with fail
      refine ⟨HS.out _ HT1.out.drew, ?_⟩
      refine wpOT_one ?_
      go_wp2_with fail
      refine ⟨HS.out _ HT2.out.drew, ?_⟩
      refine wpOT_one ?_
      go_wp2_with fail
      refine ⟨HS.out _ HT3.out.drew, ?_⟩
      refine wpOT_done ?_
      clear k0 k1 j0 j1 k4 m4 HS
      have hx6 := (Hx5.out.setCell (p := ⟨w.heap.size + 1 + 1, 0, none⟩) (by simp only; omega) (.bool true)).drew
      have hw6 := (Hw5.out.trans (Wr.set (i := 0) (u := .bool true) (.inr (.inr rfl)))).trans Wr.drew
      have z0 := (Below.heap_setCell (((((W2.setCell ⟨w.heap.size, 0, none⟩ (.int .i64 q1)).setCell ⟨w.heap.size, 1, none⟩ (.int .i64 q2)).setCell ⟨w.heap.size + 1, 0, none⟩ (.int .i64 q3)).setCell ⟨w.heap.size + 1, 1, none⟩ (.int .i64 q4))) ⟨w.heap.size + 1 + 1, 0, none⟩ (.bool true) w.heap.size (by simp only; omega)).trans Hq4.out.1
      have z1 := (Below.heap_setCell (((((W2.setCell ⟨w.heap.size, 0, none⟩ (.int .i64 q1)).setCell ⟨w.heap.size, 1, none⟩ (.int .i64 q2)).setCell ⟨w.heap.size + 1, 0, none⟩ (.int .i64 q3)).setCell ⟨w.heap.size + 1, 1, none⟩ (.int .i64 q4))) ⟨w.heap.size + 1 + 1, 0, none⟩ (.bool true) (w.heap.size + 1) (by simp only; omega)).trans Hq4.out.2
      have z2 : ((((((W2.setCell ⟨w.heap.size, 0, none⟩ (.int .i64 q1)).setCell ⟨w.heap.size, 1, none⟩ (.int .i64 q2)).setCell ⟨w.heap.size + 1, 0, none⟩ (.int .i64 q3)).setCell ⟨w.heap.size + 1, 1, none⟩ (.int .i64 q4)).setCell ⟨w.heap.size + 1 + 1, 0, none⟩ (.bool true))).heap[w.heap.size + 1 + 1]? = some (.cells #[.bool true] 4 (0, 0)) := by rw [heap_setCell_box, Hq5.out]; rfl
      obtain ⟨W3, hW3⟩ : ∃ W3, ((((((W2.setCell ⟨w.heap.size, 0, none⟩ (.int .i64 q1)).setCell ⟨w.heap.size, 1, none⟩ (.int .i64 q2)).setCell ⟨w.heap.size + 1, 0, none⟩ (.int .i64 q3)).setCell ⟨w.heap.size + 1, 1, none⟩ (.int .i64 q4)).setCell ⟨w.heap.size + 1 + 1, 0, none⟩ (.bool true))).drew = W3 := ⟨_, rfl⟩
      have y0 : W3.heap[w.heap.size]? = some (.cells #[.int .i64 q1, .int .i64 q2] 27 (0, 0)) := by rw [← hW3, heap_drew]; exact z0
      have y1 : W3.heap[w.heap.size + 1]? = some (.cells #[.int .i64 q3, .int .i64 q4] 27 (0, 0)) := by rw [← hW3, heap_drew]; exact z1
      have y2 : W3.heap[w.heap.size + 1 + 1]? = some (.cells #[.bool true] 4 (0, 0)) := by rw [← hW3, heap_drew]; exact z2
      have y10 : W3.heap[p10]? = some (.cells #[.int .i64 q1, .int .i64 q2] 27 (0, 0)) := by rw [← hW3, heap_drew]; exact HT3.out.1
      have y11 : W3.heap[p11]? = some (.cells #[.int .i64 q3, .int .i64 q4] 27 (0, 0)) := by rw [← hW3, heap_drew]; exact HT3.out.2
      rw [hW3] at hx6 hw6 ⊢
      clear hW3 z0 z1 z2 HT0 HT1 HT2 HT3 Hq4 Hq5 Hx5 Hw5 Hk2 Hk3 Hk4 Hb10 Hb11 Hx02 Hwr2
      have Y0 := Lib.hid y0
      have Y1 := Lib.hid y1
      have Y2 := Lib.hid y2
      have Y10 := Lib.hid y10
      have Y11 := Lib.hid y11
      have Hx6 := Lib.hid hx6
      have Hw6 := Lib.hid hw6
      clear y0 y1 y2 y10 y11 hx6 hw6
      gi_wp2
      have hh1 := fun W k (hk : W.heap[k]? = some (.cells #[.int .i64 q1, .int .i64 q2, .int .i64 q1, .int .i64 q2] 3 (0, 0))) => hull_any (some ⟨k, 0, none⟩) 4 4 [q1, q2, q1, q2] W (ints_built (l := [q1, q2, q1, q2]) hk) (by omega) (by omega)
      have hh2 := fun W k (hk : W.heap[k]? = some (.cells #[.int .i64 q3, .int .i64 q4, .int .i64 q3, .int .i64 q4] 3 (0, 0))) => hull_any (some ⟨k, 0, none⟩) 4 4 [q3, q4, q3, q4] W (ints_built (l := [q3, q4, q3, q4]) hk) (by omega) (by omega)
      rw [(times4 q1 q2 q1 q2).1, (times4 q1 q2 q1 q2).2, (minmax4 hlx hlx).1, (minmax4 hlx hlx).2] at hh1
      rw [(times4 q3 q4 q3 q4).1, (times4 q3 q4 q3 q4).2, (minmax4 hly hly).1, (minmax4 hly hly).2] at hh2
      unfold Span.val at hh1 hh2
      simp only at hh1 hh2
      obtain ⟨E0, hE0⟩ : ∃ E0, min q1 q1 = E0 := ⟨_, rfl⟩
      obtain ⟨E1, hE1⟩ : ∃ E1, max q2 q2 = E1 := ⟨_, rfl⟩
      obtain ⟨N0, hN0⟩ : ∃ N0, min q3 q3 = N0 := ⟨_, rfl⟩
      obtain ⟨N1, hN1⟩ : ∃ N1, max q4 q4 = N1 := ⟨_, rfl⟩
      rw [hE0, hE1] at hh1
      rw [hN0, hN1] at hh2
      have Hh1 := Lib.hid hh1
      have Hh2 := Lib.hid hh2
      have HE0 := Lib.hid hE0
      have HE1 := Lib.hid hE1
      have HN0 := Lib.hid hN0
      have HN1 := Lib.hid hN1
      clear hh1 hh2 hE0 hE1 hN0 hN1
      refine wpIn_region_plan (.take [0, 1, 2, 3, 4, 5, 6, 7, 10, 11, 12, 13, 14, 15, 16, 17] (.two 8 (.call 9 (.one 18 (.call 19 (.fin (.one 20 (.one 21 .done)))))) 18 (.one 8 (.call 9 (.call 19 (.fin (.one 20 (.one 21 .done)))))))) [20, 21] (Ext W3) _ (by kernel_rfl) (by kernel_rfl) rfl (EC.ext W3) ((Ext.refl _).drew) ?_
      simp only [planOf, treeOf, oneOp, twoOp, opsOf, consOp, callOC, oneOC, twoOC, List.getElem?_toArray, List.getElem?_cons_succ, List.getElem?_cons_zero]
      intro ι _ f hf
      have f0 := fun q => ((hf q).box Y0.out).1
      have f1 := fun q => ((hf q).box Y1.out).1
      have f2 := fun q => ((hf q).box Y10.out).1
      have f3 := fun q => ((hf q).box Y11.out).1
      clear hf
      repeat (go_big_quiet_step (fail))
      refine wpQuiet_nil ?_
      clear f0 f1 f2 f3
      refine wpOC_two ?_
      apply join_orders (F := fun p8 p18 V => V.heap[w.heap.size]? = some (.cells #[.int .i64 E0, .int .i64 E1] 27 (0, 0)) ∧ V.heap[w.heap.size + 1]? = some (.cells #[.int .i64 N0, .int .i64 N1] 27 (0, 0)) ∧ V.heap[w.heap.size + 1 + 1]? = some (.cells #[.bool true] 4 (0, 0)) ∧ Ext w V ∧ Wr (fun b => b = w.heap.size ∨ b = w.heap.size + 1 ∨ b = w.heap.size + 1 + 1) W0.heap.size W V)
      · intro G Wa hxa
        go_wp2_with fail
        have haa := heap_alloc_new Wa (.cells #[.int .i64 q1, .int .i64 q2, .int .i64 q1, .int .i64 q2] 3)
        have hxa' := hxa.alloc (.cells #[.int .i64 q1, .int .i64 q2, .int .i64 q1, .int .i64 q2] 3)
        generalize Wa.alloc (.cells #[.int .i64 q1, .int .i64 q2, .int .i64 q1, .int .i64 q2] 3) = Wa' at *
        generalize Wa.heap.size = pa at *
        refine ⟨fun V => Ext W3 V ∧ V.heap[pa]? = some (.cells #[.int .i64 q1, .int .i64 q2, .int .i64 q1, .int .i64 q2] 3 (0, 0)), (EC.ext W3).and (EC.heap pa _), fun _ h => h.1, ⟨hxa', haa⟩, ?_⟩
        clear hxa hxa' haa Wa Wa'
        refine wpOC_call (args := #[.slice (some ⟨pa, 0, none⟩) 4 4]) (v := .agg #[.int .i64 E0, .int .i64 E1]) rfl rfl (enters_of Tryz.func77 (by kernel_rfl) rfl) (by kernel_rfl) (fun V hV => Hh1.out V pa hV.2) ?_
        simp only [Act.put, List.setIfInBounds_toArray, List.set_cons_succ, List.set_cons_zero]
        rintro Wb ⟨hxb, hab⟩
        go_wp2_with fail
        have hbb := heap_alloc_new Wb (.cells #[.int .i64 q3, .int .i64 q4, .int .i64 q3, .int .i64 q4] 3)
        have hxb' := hxb.alloc (.cells #[.int .i64 q3, .int .i64 q4, .int .i64 q3, .int .i64 q4] 3)
        have hab' := ((Ext.refl Wb).alloc (.cells #[.int .i64 q3, .int .i64 q4, .int .i64 q3, .int .i64 q4] 3)).heap hab
        generalize Wb.alloc (.cells #[.int .i64 q3, .int .i64 q4, .int .i64 q3, .int .i64 q4] 3) = Wb' at *
        generalize Wb.heap.size = pb at *
        refine ⟨fun V => (Ext W3 V ∧ V.heap[pa]? = some (.cells #[.int .i64 q1, .int .i64 q2, .int .i64 q1, .int .i64 q2] 3 (0, 0))) ∧ V.heap[pb]? = some (.cells #[.int .i64 q3, .int .i64 q4, .int .i64 q3, .int .i64 q4] 3 (0, 0)), ((EC.ext W3).and (EC.heap pa _)).and (EC.heap pb _), fun _ h => h.1, ⟨⟨hxb', hab'⟩, hbb⟩, ?_⟩
        clear hxb hxb' hab hab' hbb Wb Wb'
        refine wpOC_call (args := #[.slice (some ⟨pb, 0, none⟩) 4 4]) (v := .agg #[.int .i64 N0, .int .i64 N1]) rfl rfl (enters_of Tryz.func77 (by kernel_rfl) rfl) (by kernel_rfl) (fun V hV => Hh2.out V pb hV.2) ?_
        simp only [Act.put, List.setIfInBounds_toArray, List.set_cons_succ, List.set_cons_zero]
        rintro Wc ⟨⟨hxc, hac⟩, hbc⟩
        clear hac hbc
        have he := hxc.heap Y0.out
        have hn := hxc.heap Y1.out
        obtain ⟨k0, k1⟩ := (Ext.refl Wc).box he
        obtain ⟨j0, j1⟩ := (Ext.refl Wc).box hn
        have hla := heap_lt he
        have hlb := heap_lt hn
        refine wpOT_one ?_
        go_wp2_with fail
        refine wpOT_one ?_
        go_wp2_with fail
        refine wpOT_done ?_
        have hc4 := set4_at (a := .int .i64 E0) (b := .int .i64 E1) (c := .int .i64 N0) (d := .int .i64 N1) he hn (show w.heap.size ≠ w.heap.size + 1 by omega)
        exact G pa pb _ ⟨hc4.1, hc4.2, (gset2_other (by omega)).trans ((gset2_other (by omega)).trans (hxc.heap Y2.out)), gset2_ext (gset2_ext (Hx6.out.trans hxc) (by omega)) (by omega), Hw6.out.trans ((Wr.ext hxc).trans ((Wr.set2 (.inl rfl)).trans (Wr.set2 (.inr (.inl rfl)))))⟩
      · intro G Wa hxa
        go_wp2_with fail
        have haa := heap_alloc_new Wa (.cells #[.int .i64 q3, .int .i64 q4, .int .i64 q3, .int .i64 q4] 3)
        have hxa' := hxa.alloc (.cells #[.int .i64 q3, .int .i64 q4, .int .i64 q3, .int .i64 q4] 3)
        generalize Wa.alloc (.cells #[.int .i64 q3, .int .i64 q4, .int .i64 q3, .int .i64 q4] 3) = Wa' at *
        generalize Wa.heap.size = pb at *
        refine ⟨fun V => Ext W3 V ∧ V.heap[pb]? = some (.cells #[.int .i64 q3, .int .i64 q4, .int .i64 q3, .int .i64 q4] 3 (0, 0)), (EC.ext W3).and (EC.heap pb _), fun _ h => h.1, ⟨hxa', haa⟩, ?_⟩
        clear hxa hxa' haa Wa Wa'
        rintro Wb ⟨hxb, hbb⟩
        go_wp2_with fail
        have hab := heap_alloc_new Wb (.cells #[.int .i64 q1, .int .i64 q2, .int .i64 q1, .int .i64 q2] 3)
        have hxb' := hxb.alloc (.cells #[.int .i64 q1, .int .i64 q2, .int .i64 q1, .int .i64 q2] 3)
        have hbb' := ((Ext.refl Wb).alloc (.cells #[.int .i64 q1, .int .i64 q2, .int .i64 q1, .int .i64 q2] 3)).heap hbb
        generalize Wb.alloc (.cells #[.int .i64 q1, .int .i64 q2, .int .i64 q1, .int .i64 q2] 3) = Wb' at *
        generalize Wb.heap.size = pa at *
        refine ⟨fun V => (Ext W3 V ∧ V.heap[pb]? = some (.cells #[.int .i64 q3, .int .i64 q4, .int .i64 q3, .int .i64 q4] 3 (0, 0))) ∧ V.heap[pa]? = some (.cells #[.int .i64 q1, .int .i64 q2, .int .i64 q1, .int .i64 q2] 3 (0, 0)), ((EC.ext W3).and (EC.heap pb _)).and (EC.heap pa _), fun _ h => h.1, ⟨⟨hxb', hbb'⟩, hab⟩, ?_⟩
        clear hxb hxb' hab hbb' hbb Wb Wb'
        refine wpOC_call (args := #[.slice (some ⟨pa, 0, none⟩) 4 4]) (v := .agg #[.int .i64 E0, .int .i64 E1]) rfl rfl (enters_of Tryz.func77 (by kernel_rfl) rfl) (by kernel_rfl) (fun V hV => Hh1.out V pa hV.2) ?_
        simp only [Act.put, List.setIfInBounds_toArray, List.set_cons_succ, List.set_cons_zero]
        refine wpOC_call (args := #[.slice (some ⟨pb, 0, none⟩) 4 4]) (v := .agg #[.int .i64 N0, .int .i64 N1]) rfl rfl (enters_of Tryz.func77 (by kernel_rfl) rfl) (by kernel_rfl) (fun V hV => Hh2.out V pb hV.1.2) ?_
        simp only [Act.put, List.setIfInBounds_toArray, List.set_cons_succ, List.set_cons_zero]
        rintro Wc ⟨⟨hxc, hbc⟩, hac⟩
        clear hac hbc
        have he := hxc.heap Y0.out
        have hn := hxc.heap Y1.out
        obtain ⟨k0, k1⟩ := (Ext.refl Wc).box he
        obtain ⟨j0, j1⟩ := (Ext.refl Wc).box hn
        have hla := heap_lt he
        have hlb := heap_lt hn
        refine wpOT_one ?_
        go_wp2_with fail
        refine wpOT_one ?_
        go_wp2_with fail
        refine wpOT_done ?_
        have hc4 := set4_at (a := .int .i64 E0) (b := .int .i64 E1) (c := .int .i64 N0) (d := .int .i64 N1) he hn (show w.heap.size ≠ w.heap.size + 1 by omega)
        exact G pa pb _ ⟨hc4.1, hc4.2, (gset2_other (by omega)).trans ((gset2_other (by omega)).trans (hxc.heap Y2.out)), gset2_ext (gset2_ext (Hx6.out.trans hxc) (by omega)) (by omega), Hw6.out.trans ((Wr.ext hxc).trans ((Wr.set2 (.inl rfl)).trans (Wr.set2 (.inr (.inl rfl)))))⟩
      rintro pa pb V ⟨hve, hvn, hvb, hxv, hwv⟩
      have Hve := Lib.hid hve
      have Hvn := Lib.hid hvn
      have Hvb := Lib.hid hvb
      have Hxv := Lib.hid hxv
      have Hwv := Lib.hid hwv
      clear hve hvn hvb hxv hwv
      gi_wp2
      exact ⟨Hwv.out.1, Hwv.out.2, Hend.out ⟨E0, E1⟩ ⟨N0, N1⟩ _ (by rw [Hsn.out]; rw [if_pos hpe, show E0 = q1 by have := HE0.out; omega, show E1 = q2 by have := HE1.out; omega, show N0 = q3 by have := HN0.out; omega, show N1 = q4 by have := HN1.out; omega]) Hve.out Hvn.out Hvb.out Hxv.out, Nat.le_trans hszw Hwv.out.2.size⟩
    | false =>
      rw [hpe] at k4
      have hk4' := Hk4.out
      rw [hpe] at hk4'
      clear Hk4
      have Hk4 := Lib.hid hk4'
      clear hk4'
      gi_wp2
      have hh1 := fun W k (hk : W.heap[k]? = some (.cells #[.int .i64 e0, .int .i64 e1, .int .i64 q1, .int .i64 q2] 3 (0, 0))) => hull_any (some ⟨k, 0, none⟩) 4 4 [e0, e1, q1, q2] W (ints_built (l := [e0, e1, q1, q2]) hk) (by omega) (by omega)
      have hh2 := fun W k (hk : W.heap[k]? = some (.cells #[.int .i64 n0, .int .i64 n1, .int .i64 q3, .int .i64 q4] 3 (0, 0))) => hull_any (some ⟨k, 0, none⟩) 4 4 [n0, n1, q3, q4] W (ints_built (l := [n0, n1, q3, q4]) hk) (by omega) (by omega)
      rw [(times4 e0 e1 q1 q2).1, (times4 e0 e1 q1 q2).2, (minmax4 hle1 hlx).1, (minmax4 hle1 hlx).2] at hh1
      rw [(times4 n0 n1 q3 q4).1, (times4 n0 n1 q3 q4).2, (minmax4 hle2 hly).1, (minmax4 hle2 hly).2] at hh2
      unfold Span.val at hh1 hh2
      simp only at hh1 hh2
      obtain ⟨E0, hE0⟩ : ∃ E0, min e0 q1 = E0 := ⟨_, rfl⟩
      obtain ⟨E1, hE1⟩ : ∃ E1, max e1 q2 = E1 := ⟨_, rfl⟩
      obtain ⟨N0, hN0⟩ : ∃ N0, min n0 q3 = N0 := ⟨_, rfl⟩
      obtain ⟨N1, hN1⟩ : ∃ N1, max n1 q4 = N1 := ⟨_, rfl⟩
      rw [hE0, hE1] at hh1
      rw [hN0, hN1] at hh2
      have Hh1 := Lib.hid hh1
      have Hh2 := Lib.hid hh2
      have HE0 := Lib.hid hE0
      have HE1 := Lib.hid hE1
      have HN0 := Lib.hid hN0
      have HN1 := Lib.hid hN1
      clear hh1 hh2 hE0 hE1 hN0 hN1
      refine wpIn_region_plan (.take [0, 1, 2, 3, 4, 5, 6, 7, 10, 11, 12, 13, 14, 15, 16, 17] (.two 8 (.call 9 (.one 18 (.call 19 (.fin (.one 20 (.one 21 .done)))))) 18 (.one 8 (.call 9 (.call 19 (.fin (.one 20 (.one 21 .done)))))))) [20, 21] (Ext W2) _ (by kernel_rfl) (by kernel_rfl) rfl (EC.ext W2) ((Ext.refl _).drew) ?_
      simp only [planOf, treeOf, oneOp, twoOp, opsOf, consOp, callOC, oneOC, twoOC, List.getElem?_toArray, List.getElem?_cons_succ, List.getElem?_cons_zero]
      intro ι _ f hf
      have f0 := fun q => ((hf q).box Hk2.out).1
      have f1 := fun q => ((hf q).box Hk3.out).1
      have f2 := fun q => ((hf q).box Hb10.out).1
      have f3 := fun q => ((hf q).box Hb11.out).1
      clear hf
      repeat (go_big_quiet_step (fail))
      refine wpQuiet_nil ?_
      clear f0 f1 f2 f3
      refine wpOC_two ?_
      apply join_orders (F := fun p8 p18 V => V.heap[w.heap.size]? = some (.cells #[.int .i64 E0, .int .i64 E1] 27 (0, 0)) ∧ V.heap[w.heap.size + 1]? = some (.cells #[.int .i64 N0, .int .i64 N1] 27 (0, 0)) ∧ V.heap[w.heap.size + 1 + 1]? = some (.cells #[.bool true] 4 (0, 0)) ∧ Ext w V ∧ Wr (fun b => b = w.heap.size ∨ b = w.heap.size + 1 ∨ b = w.heap.size + 1 + 1) W0.heap.size W V)
      · intro G Wa hxa
        go_wp2_with fail
        have haa := heap_alloc_new Wa (.cells #[.int .i64 e0, .int .i64 e1, .int .i64 q1, .int .i64 q2] 3)
        have hxa' := hxa.alloc (.cells #[.int .i64 e0, .int .i64 e1, .int .i64 q1, .int .i64 q2] 3)
        generalize Wa.alloc (.cells #[.int .i64 e0, .int .i64 e1, .int .i64 q1, .int .i64 q2] 3) = Wa' at *
        generalize Wa.heap.size = pa at *
        refine ⟨fun V => Ext W2 V ∧ V.heap[pa]? = some (.cells #[.int .i64 e0, .int .i64 e1, .int .i64 q1, .int .i64 q2] 3 (0, 0)), (EC.ext W2).and (EC.heap pa _), fun _ h => h.1, ⟨hxa', haa⟩, ?_⟩
        clear hxa hxa' haa Wa Wa'
        refine wpOC_call (args := #[.slice (some ⟨pa, 0, none⟩) 4 4]) (v := .agg #[.int .i64 E0, .int .i64 E1]) rfl rfl (enters_of Tryz.func77 (by kernel_rfl) rfl) (by kernel_rfl) (fun V hV => Hh1.out V pa hV.2) ?_
        simp only [Act.put, List.setIfInBounds_toArray, List.set_cons_succ, List.set_cons_zero]
        rintro Wb ⟨hxb, hab⟩
        go_wp2_with fail
        have hbb := heap_alloc_new Wb (.cells #[.int .i64 n0, .int .i64 n1, .int .i64 q3, .int .i64 q4] 3)
        have hxb' := hxb.alloc (.cells #[.int .i64 n0, .int .i64 n1, .int .i64 q3, .int .i64 q4] 3)
        have hab' := ((Ext.refl Wb).alloc (.cells #[.int .i64 n0, .int .i64 n1, .int .i64 q3, .int .i64 q4] 3)).heap hab
        generalize Wb.alloc (.cells #[.int .i64 n0, .int .i64 n1, .int .i64 q3, .int .i64 q4] 3) = Wb' at *
        generalize Wb.heap.size = pb at *
        refine ⟨fun V => (Ext W2 V ∧ V.heap[pa]? = some (.cells #[.int .i64 e0, .int .i64 e1, .int .i64 q1, .int .i64 q2] 3 (0, 0))) ∧ V.heap[pb]? = some (.cells #[.int .i64 n0, .int .i64 n1, .int .i64 q3, .int .i64 q4] 3 (0, 0)), ((EC.ext W2).and (EC.heap pa _)).and (EC.heap pb _), fun _ h => h.1, ⟨⟨hxb', hab'⟩, hbb⟩, ?_⟩
        clear hxb hxb' hab hab' hbb Wb Wb'
        refine wpOC_call (args := #[.slice (some ⟨pb, 0, none⟩) 4 4]) (v := .agg #[.int .i64 N0, .int .i64 N1]) rfl rfl (enters_of Tryz.func77 (by kernel_rfl) rfl) (by kernel_rfl) (fun V hV => Hh2.out V pb hV.2) ?_
        simp only [Act.put, List.setIfInBounds_toArray, List.set_cons_succ, List.set_cons_zero]
        rintro Wc ⟨⟨hxc, hac⟩, hbc⟩
        clear hac hbc
        have he := hxc.heap Hk2.out
        have hn := hxc.heap Hk3.out
        obtain ⟨k0, k1⟩ := (Ext.refl Wc).box he
        obtain ⟨j0, j1⟩ := (Ext.refl Wc).box hn
        have hla := heap_lt he
        have hlb := heap_lt hn
        refine wpOT_one ?_
        go_wp2_with fail
        refine wpOT_one ?_
        go_wp2_with fail
        refine wpOT_done ?_
        have hc4 := set4_at (a := .int .i64 E0) (b := .int .i64 E1) (c := .int .i64 N0) (d := .int .i64 N1) he hn (show w.heap.size ≠ w.heap.size + 1 by omega)
        exact G pa pb _ ⟨hc4.1, hc4.2, (gset2_other (by omega)).trans ((gset2_other (by omega)).trans (hxc.heap Hk4.out)), gset2_ext (gset2_ext (Hx02.out.trans hxc) (by omega)) (by omega), Hwr2.out.trans ((Wr.ext hxc).trans ((Wr.set2 (.inl rfl)).trans (Wr.set2 (.inr (.inl rfl)))))⟩
      · intro G Wa hxa
        go_wp2_with fail
        have haa := heap_alloc_new Wa (.cells #[.int .i64 n0, .int .i64 n1, .int .i64 q3, .int .i64 q4] 3)
        have hxa' := hxa.alloc (.cells #[.int .i64 n0, .int .i64 n1, .int .i64 q3, .int .i64 q4] 3)
        generalize Wa.alloc (.cells #[.int .i64 n0, .int .i64 n1, .int .i64 q3, .int .i64 q4] 3) = Wa' at *
        generalize Wa.heap.size = pb at *
        refine ⟨fun V => Ext W2 V ∧ V.heap[pb]? = some (.cells #[.int .i64 n0, .int .i64 n1, .int .i64 q3, .int .i64 q4] 3 (0, 0)), (EC.ext W2).and (EC.heap pb _), fun _ h => h.1, ⟨hxa', haa⟩, ?_⟩
        clear hxa hxa' haa Wa Wa'
        rintro Wb ⟨hxb, hbb⟩
        go_wp2_with fail
        have hab := heap_alloc_new Wb (.cells #[.int .i64 e0, .int .i64 e1, .int .i64 q1, .int .i64 q2] 3)
        have hxb' := hxb.alloc (.cells #[.int .i64 e0, .int .i64 e1, .int .i64 q1, .int .i64 q2] 3)
        have hbb' := ((Ext.refl Wb).alloc (.cells #[.int .i64 e0, .int .i64 e1, .int .i64 q1, .int .i64 q2] 3)).heap hbb
        generalize Wb.alloc (.cells #[.int .i64 e0, .int .i64 e1, .int .i64 q1, .int .i64 q2] 3) = Wb' at *
        generalize Wb.heap.size = pa at *
        refine ⟨fun V => (Ext W2 V ∧ V.heap[pb]? = some (.cells #[.int .i64 n0, .int .i64 n1, .int .i64 q3, .int .i64 q4] 3 (0, 0))) ∧ V.heap[pa]? = some (.cells #[.int .i64 e0, .int .i64 e1, .int .i64 q1, .int .i64 q2] 3 (0, 0)), ((EC.ext W2).and (EC.heap pb _)).and (EC.heap pa _), fun _ h => h.1, ⟨⟨hxb', hbb'⟩, hab⟩, ?_⟩
        clear hxb hxb' hab hbb' hbb Wb Wb'
        refine wpOC_call (args := #[.slice (some ⟨pa, 0, none⟩) 4 4]) (v := .agg #[.int .i64 E0, .int .i64 E1]) rfl rfl (enters_of Tryz.func77 (by kernel_rfl) rfl) (by kernel_rfl) (fun V hV => Hh1.out V pa hV.2) ?_
        simp only [Act.put, List.setIfInBounds_toArray, List.set_cons_succ, List.set_cons_zero]
        refine wpOC_call (args := #[.slice (some ⟨pb, 0, none⟩) 4 4]) (v := .agg #[.int .i64 N0, .int .i64 N1]) rfl rfl (enters_of Tryz.func77 (by kernel_rfl) rfl) (by kernel_rfl) (fun V hV => Hh2.out V pb hV.1.2) ?_
        simp only [Act.put, List.setIfInBounds_toArray, List.set_cons_succ, List.set_cons_zero]
        rintro Wc ⟨⟨hxc, hbc⟩, hac⟩
        clear hac hbc
        have he := hxc.heap Hk2.out
        have hn := hxc.heap Hk3.out
        obtain ⟨k0, k1⟩ := (Ext.refl Wc).box he
        obtain ⟨j0, j1⟩ := (Ext.refl Wc).box hn
        have hla := heap_lt he
        have hlb := heap_lt hn
        refine wpOT_one ?_
        go_wp2_with fail
        refine wpOT_one ?_
        go_wp2_with fail
        refine wpOT_done ?_
        have hc4 := set4_at (a := .int .i64 E0) (b := .int .i64 E1) (c := .int .i64 N0) (d := .int .i64 N1) he hn (show w.heap.size ≠ w.heap.size + 1 by omega)
        exact G pa pb _ ⟨hc4.1, hc4.2, (gset2_other (by omega)).trans ((gset2_other (by omega)).trans (hxc.heap Hk4.out)), gset2_ext (gset2_ext (Hx02.out.trans hxc) (by omega)) (by omega), Hwr2.out.trans ((Wr.ext hxc).trans ((Wr.set2 (.inl rfl)).trans (Wr.set2 (.inr (.inl rfl)))))⟩
      rintro pa pb V ⟨hve, hvn, hvb, hxv, hwv⟩
      have Hve := Lib.hid hve
      have Hvn := Lib.hid hvn
      have Hvb := Lib.hid hvb
      have Hxv := Lib.hid hxv
      have Hwv := Lib.hid hwv
      clear hve hvn hvb hxv hwv
      gi_wp2
      exact ⟨Hwv.out.1, Hwv.out.2, Hend.out ⟨E0, E1⟩ ⟨N0, N1⟩ _ (by rw [Hsn.out]; rw [if_neg (by rw [hpe]; simp)]; simp only [Span.hull, HE0.out, HE1.out, HN0.out, HN1.out]) Hve.out Hvn.out Hvb.out Hxv.out, Nat.le_trans hszw Hwv.out.2.size⟩
  case done =>
    rintro D qs W hD hqs ⟨⟨hbe, hbn, hbb, hxw⟩, hszw⟩ hK
    rw [hqs, HEN.out] at hbe hbn
    rw [hqs, ← Hsm.out, His.out] at hbb
    obtain ⟨⟨e0, e1⟩, ⟨n0, n1⟩⟩ := EN
    simp only at hbe hbn
    obtain ⟨k0, k1⟩ := (Ext.refl W).box hbe
    obtain ⟨j0, j1⟩ := (Ext.refl W).box hbn
    obtain ⟨m0, m1⟩ := (Ext.refl W).box hbb
    have hb3 : BJ3 w.heap.size (w.heap.size + 1) (w.heap.size + 1 + 1) e0 e1 n0 n1 is W := ⟨hbe, hbn, hbb⟩
    have Hb3 := Lib.hid hb3
    have Hxw := Lib.hid hxw
    have HK := Lib.hid hK
    clear hb3 hxw hK
    gi_wp2
    clear hbe hbn hbb
    refine wpIn_wide.2 (wp_region_tree (.take [0, 1, 2] (.one 3 (.one 4 (.one 5 .done)))) (BJ3 w.heap.size (w.heap.size + 1) (w.heap.size + 1 + 1) e0 e1 n0 n1 is) _ (by kernel_rfl) (by kernel_rfl) rfl Hb3.out ?_)
    intro ι _ f hf hs
    have f0 := fun q => ((Ext.refl (f q)).box (hf q).1).1
    have f1 := fun q => ((Ext.refl (f q)).box (hf q).2.1).1
    have f2 := fun q => ((Ext.refl (f q)).box (hf q).2.2).1
    have HS := Lib.hid hs
    clear hf hs
    simp only [treeOf, oneOp, twoOp, opsOf, consOp, List.getElem?_toArray, List.getElem?_cons_succ, List.getElem?_cons_zero]
    refine wpOT_take ?_
    repeat (go_big_quiet_step (fail))
    refine wpQuiet_nil ?_
    clear f0 f1 f2
    have hT1 := Hb3.out.set1
    have hT2 := hT1.set2
    have hT3 := hT2.set3
    have HT1 := Lib.hid hT1
    have HT2 := Lib.hid hT2
    have HT3 := Lib.hid hT3
    clear hT1 hT2 hT3
    refine wpOT_one ?_
    go_wp2_with fail
    refine ⟨HS.out _ HT1.out.drew, ?_⟩
    refine wpOT_one ?_
    go_wp2_with fail
    refine ⟨HS.out _ HT2.out.drew, ?_⟩
    refine wpOT_one ?_
    go_wp2_with fail
    refine ⟨HS.out _ HT3.out.drew, ?_⟩
    refine wpOT_done ?_
    clear k0 k1 j0 j1 m0 m1
    have hx6 := ((gset2_ext (a := .int .i64 n0) (b := .int .i64 n1) (gset2_ext (a := .int .i64 e0) (b := .int .i64 e1) Hxw.out (Nat.le_refl _)) (show w.heap.size ≤ w.heap.size + 1 by omega)).setCell (p := ⟨w.heap.size + 1 + 1, 0, none⟩) (by simp only; omega) (.bool is)).drew
    obtain ⟨W3, hW3⟩ : ∃ W3, (((((W.setCell ⟨w.heap.size, 0, none⟩ (.int .i64 e0)).setCell ⟨w.heap.size, 1, none⟩ (.int .i64 e1)).setCell ⟨w.heap.size + 1, 0, none⟩ (.int .i64 n0)).setCell ⟨w.heap.size + 1, 1, none⟩ (.int .i64 n1)).setCell ⟨w.heap.size + 1 + 1, 0, none⟩ (.bool is)).drew = W3 := ⟨_, rfl⟩
    have hb6 : BJ3 w.heap.size (w.heap.size + 1) (w.heap.size + 1 + 1) e0 e1 n0 n1 is W3 := by rw [← hW3]; exact HT3.out.drew
    have hK6 : W3.heap[D]? = some (.deferred (some [])) := by
      rw [← hW3, heap_drew]
      have k1 := (KeepsOthers.setCell W ⟨w.heap.size, 0, none⟩ (.int .i64 e0)).same D _ HK.out rfl
      have k2 := (KeepsOthers.setCell _ ⟨w.heap.size, 1, none⟩ (.int .i64 e1)).same D _ k1 rfl
      have k3 := (KeepsOthers.setCell _ ⟨w.heap.size + 1, 0, none⟩ (.int .i64 n0)).same D _ k2 rfl
      have k4 := (KeepsOthers.setCell _ ⟨w.heap.size + 1, 1, none⟩ (.int .i64 n1)).same D _ k3 rfl
      exact (KeepsOthers.setCell _ ⟨w.heap.size + 1 + 1, 0, none⟩ (.bool is)).same D _ k4 rfl
    rw [hW3] at hx6 ⊢
    clear hW3 HT1 HT2 HT3 HS Hb3 HK
    gi_wp2
    refine ⟨by simp, .inl ⟨_, _, rfl, run_takeDeferred hK6, ?_⟩⟩
    have r1 := taken_heap hb6.1 hK6
    have r2 := taken_heap hb6.2.1 hK6
    have r3 := ((Ext.refl _).box (taken_heap hb6.2.2 hK6)).1 0
    refine ⟨.tuple #[.agg #[.int .i64 e0, .int .i64 e1], .agg #[.int .i64 n0, .int .i64 n1], .bool is], ?_, rfl, ext_taken hx6 (by omega)⟩
    exact results_bnd rfl rfl rfl rfl _ _ _ _ _ r1 r2 r3
  case stop =>
    rintro D c pre W hD hpre h hK
    exact h.elim
theorem Two.set_left {p q : Nat} {a b c d : Int} {W : World} (h : Two p q a b c d W) (hne : p ≠ q) : Two p q a b c d ((W.setCell ⟨p, 0, none⟩ (.int .i64 a)).setCell ⟨p, 1, none⟩ (.int .i64 b)) := ⟨set2_at h.1, (gset2_other (Ne.symm hne)).trans h.2⟩
theorem Two.set_right {p q : Nat} {a b c d : Int} {W : World} (h : Two p q a b c d W) (hne : p ≠ q) : Two p q a b c d ((W.setCell ⟨q, 0, none⟩ (.int .i64 c)).setCell ⟨q, 1, none⟩ (.int .i64 d)) := ⟨(gset2_other hne).trans h.1, set2_at h.2⟩
theorem Two.ext {p q : Nat} {a b c d : Int} {W W' : World} (h : Two p q a b c d W) (hx : Ext W W') : Two p q a b c d W' := ⟨hx.heap h.1, hx.heap h.2⟩
theorem Two.put {p q : Nat} {a b c d : Int} (a' b' c' d' : Int) {W : World} (h : Two p q a b c d W) (hne : p ≠ q) : Two p q a' b' c' d' ((((W.setCell ⟨p, 0, none⟩ (.int .i64 a')).setCell ⟨p, 1, none⟩ (.int .i64 b')).setCell ⟨q, 0, none⟩ (.int .i64 c')).setCell ⟨q, 1, none⟩ (.int .i64 d')) := set4_at h.1 h.2 hne
theorem boundsOf_bndL {l : List Half} (ha : areaOk l = true) (hs : someB l = true) : boundsOf l = ((bndL (cornersOf l)).1, (bndL (cornersOf l)).2, 0) := by
  rw [boundsOf_ok ha hs]
  unfold bndTo bndL
  rw [List.take_length]
set_option maxRecDepth 100000 in
set_option maxHeartbeats 8000000 in
theorem boundsF_any (a : Option Addr) (len cap : Nat) (l : List Half) (w : World) (hl : HalvesAt w a len l) (hc : len ≤ cap) (hm : cap ≤ maxLen) : Calls Tryz.prog 21 #[.agg #[.slice a len cap]] w (BoundsPost l w) := by
  have hch := fun W (hW : Ext w W) => gcheck_any a len cap l W (hl.ext hW) (by unfold maxLen at hm; omega)
  have hll := hl.1
  have herr := fun (k : Int) (h : boundsOf l = (zs, zs, k)) => bounds_err (w := w) h
  have his := fun E N (h : boundsOf l = (E, N, 0)) => bounds_is (w := w) h
  have hd1 := boundsOf_area (l := l)
  have hd2 := boundsOf_lost (l := l)
  have hd3 := boundsOf_bndL (l := l)
  obtain ⟨Q, hQ⟩ : ∃ Q, BoundsPost l w = Q := ⟨_, rfl⟩
  rw [hQ]
  simp only [hQ] at herr his
  generalize boundsOf l = B at *
  clear hQ
  unfold checkOf at hch
  obtain ⟨W0, hW0⟩ : ∃ W0, ((w.alloc (.cells #[.slice a len cap] 24)).alloc (.cells #[.int .i64 0, .int .i64 0] 27)).alloc (.cells #[.int .i64 0, .int .i64 0] 27) = W0 := ⟨_, rfl⟩
  have hx0 : Ext w W0 := by rw [← hW0]; exact (((Ext.refl w).alloc _).alloc _).alloc _
  have ha0 : W0.heap[w.heap.size]? = some (.cells #[.slice a len cap] 24 (0, 0)) := by rw [← hW0]; exact (((Ext.refl _).alloc _).alloc _).heap (heap_alloc_new w _)
  have he0 : W0.heap[w.heap.size + 1]? = some (.cells #[.int .i64 0, .int .i64 0] 27 (0, 0)) := by rw [← hW0]; exact ((Ext.refl _).alloc _).heap (alloc_at _ _ _ (by simp))
  have hn0 : W0.heap[w.heap.size + 1 + 1]? = some (.cells #[.int .i64 0, .int .i64 0] 27 (0, 0)) := by rw [← hW0]; exact alloc_at _ _ _ (by simp)
  obtain ⟨z0, _⟩ := (Ext.refl W0).box ha0
  have hl0 := heap_lt ha0
  have hl1 := heap_lt he0
  have hl2 := heap_lt hn0
  have hsz := hx0.size
  have hT0 : Two (w.heap.size + 1) (w.heap.size + 1 + 1) 0 0 0 0 W0 := ⟨he0, hn0⟩
  have hne : w.heap.size + 1 ≠ w.heap.size + 1 + 1 := by omega
  cases h : areaOk l with
  | false =>
    have hfin := herr 40 (hd1 h)
    rw [h] at hch
    simp only [Bool.false_eq_true, if_false] at hch
    have Hch := Lib.hid hch
    have Hx0 := Lib.hid hx0
    have Ha0 := Lib.hid ha0
    have He0 := Lib.hid he0
    have Hn0 := Lib.hid hn0
    have Hfin := Lib.hid hfin
    have HT0 := Lib.hid hT0
    clear hch hx0 ha0 he0 hn0 hfin hT0
    clear hl h herr his hd1 hd2 hd3
    go_enter Tryz.func21, Tryz.ntmps21
    go_upto_region 3 with (go_at_call 45; refine (Hch.out _ Hx0.out).mono ?_; rintro e w1 ⟨rfl, hx1⟩; have hT1 := HT0.out.ext hx1; obtain ⟨q1, r1⟩ := (Ext.refl w1).box hT1.1; obtain ⟨q2, r2⟩ := (Ext.refl w1).box hT1.2; have ll1 := heap_lt hT1.1; have ll2 := heap_lt hT1.2; clear hW0 z0)
    have hxw := Hx0.out.trans hx1
    refine wp_region_tree (.take [0, 1, 2] (.one 3 (.one 4 (.take [5] .done)))) (Two (w.heap.size + 1) (w.heap.size + 1 + 1) 0 0 0 0) _ (by kernel_rfl) (by kernel_rfl) rfl hT1.drew ?_
    intro ι _ f hf hs
    have f0 := fun q => ((Ext.refl (f q)).box (hf q).1).1
    have f1 := fun q => ((Ext.refl (f q)).box (hf q).2).1
    have HS := Lib.hid hs
    clear hf hs
    simp only [treeOf, oneOp, twoOp, opsOf, consOp, List.getElem?_toArray, List.getElem?_cons_succ, List.getElem?_cons_zero]
    refine wpOT_take ?_
    repeat (go_big_quiet_step (fail))
    refine wpQuiet_nil ?_
    clear f0 f1
    have hT2 := hT1.set_left hne
    have hT3 := hT2.set_right hne
    have hx3 := gset2_ext (g := w.heap.size + 1 + 1) (a := .int .i64 0) (b := .int .i64 0) (gset2_ext (g := w.heap.size + 1) (a := .int .i64 0) (b := .int .i64 0) hxw (by omega)) (by omega)
    have HT2 := Lib.hid hT2
    have HT3 := Lib.hid hT3
    have Hx3 := Lib.hid hx3
    clear hT2 hT3 hx3
    refine wpOT_one ?_
    go_wp2_with fail
    refine ⟨HS.out _ HT2.out.drew, ?_⟩
    refine wpOT_one ?_
    go_wp2_with fail
    refine ⟨HS.out _ HT3.out.drew, ?_⟩
    refine wpOT_take ?_
    repeat (go_big_quiet_step (fail))
    refine wpQuiet_nil ?_
    refine wpOT_done ?_
    go_wp2_with fail
    refine bodyPost_ret (results_cells_tmp (P := Tryz.prog) (fn := Tryz.f21) rfl _ _ (w.heap.size + 1) (w.heap.size + 1 + 1) 27 27 #[.int .i64 0, .int .i64 0] #[.int .i64 0, .int .i64 0] (0, 0) (0, 0) _ _ rfl HT3.out.1 Tryz.underlying27 rfl (by kernel_rfl) rfl HT3.out.2 Tryz.underlying27 rfl (by kernel_rfl)) rfl ?_
    exact Hfin.out _ Hx3.out.drew
  | true =>
    have hA := areaOk_iff.1 h
    have hlen4 := hA.len
    rw [hll] at hlen4
    rw [h] at hch
    simp only [if_true] at hch
    have hbn := fun W (hW : Ext w W) => bounds_any a len cap l W (hl.ext hW) (by omega) (by omega) hc hm hA.each
    have hd2 := hd2 h
    have hd3 := hd3 h
    generalize bndL (cornersOf l) = EN at *
    obtain ⟨⟨e0, e1⟩, ⟨n0, n1⟩⟩ := EN
    unfold Span.val at hbn
    simp only at hbn hd3
    cases hs : someB l with
    | false =>
      have hfin := herr 43 (hd2 hs)
      rw [hs] at hbn
      have Hch := Lib.hid hch
      have Hx0 := Lib.hid hx0
      have Ha0 := Lib.hid ha0
      have He0 := Lib.hid he0
      have Hn0 := Lib.hid hn0
      have Hfin := Lib.hid hfin
      have HT0 := Lib.hid hT0
      have Hbn := Lib.hid hbn
      clear hch hx0 ha0 he0 hn0 hfin hT0 hbn
      clear hl h herr his hd1 hd2 hd3 hA hs
      go_enter Tryz.func21, Tryz.ntmps21
      go_wp2_with (first | (go_at_call 45; refine (Hch.out _ Hx0.out).mono ?_; rintro e w1 ⟨rfl, hx1⟩; obtain ⟨z1, _⟩ := hx1.box Ha0.out; clear hW0 z0) | (go_at_call 48; refine (Hbn.out _ (Hx0.out.trans hx1)).mono ?_; rintro e w2 ⟨rfl, hx2⟩; have hT1 := HT0.out.ext (hx1.trans hx2); have hxw := Hx0.out.trans (hx1.trans hx2); obtain ⟨q1, r1⟩ := (Ext.refl w2).box hT1.1; obtain ⟨q2, r2⟩ := (Ext.refl w2).box hT1.2; have ll1 := heap_lt hT1.1; have ll2 := heap_lt hT1.2; clear z1))
      have hT4 := (hT1.put e0 e1 n0 n1 hne).put 0 0 0 0 hne
      have hx4 := gset2_ext (g := w.heap.size + 1 + 1) (a := .int .i64 n0) (b := .int .i64 n1) (gset2_ext (g := w.heap.size + 1) (a := .int .i64 e0) (b := .int .i64 e1) hxw (by omega)) (by omega)
      have hx5 := gset2_ext (g := w.heap.size + 1 + 1) (a := .int .i64 0) (b := .int .i64 0) (gset2_ext (g := w.heap.size + 1) (a := .int .i64 0) (b := .int .i64 0) hx4 (by omega)) (by omega)
      refine bodyPost_ret (results_cells_tmp (P := Tryz.prog) (fn := Tryz.f21) rfl _ _ (w.heap.size + 1) (w.heap.size + 1 + 1) 27 27 #[.int .i64 0, .int .i64 0] #[.int .i64 0, .int .i64 0] (0, 0) (0, 0) _ _ rfl hT4.1 Tryz.underlying27 rfl (by kernel_rfl) rfl hT4.2 Tryz.underlying27 rfl (by kernel_rfl)) rfl ?_
      exact Hfin.out _ hx5
    | true =>
      have hfin := his _ _ (hd3 hs)
      rw [hs] at hbn
      have Hch := Lib.hid hch
      have Hx0 := Lib.hid hx0
      have Ha0 := Lib.hid ha0
      have He0 := Lib.hid he0
      have Hn0 := Lib.hid hn0
      have Hfin := Lib.hid hfin
      have HT0 := Lib.hid hT0
      have Hbn := Lib.hid hbn
      clear hch hx0 ha0 he0 hn0 hfin hT0 hbn
      clear hl h herr his hd1 hd2 hd3 hA hs
      go_enter Tryz.func21, Tryz.ntmps21
      go_upto_region 7 with (first | (go_at_call 45; refine (Hch.out _ Hx0.out).mono ?_; rintro e w1 ⟨rfl, hx1⟩; obtain ⟨z1, _⟩ := hx1.box Ha0.out; clear hW0 z0) | (go_at_call 48; refine (Hbn.out _ (Hx0.out.trans hx1)).mono ?_; rintro e w2 ⟨rfl, hx2⟩; have hT1 := HT0.out.ext (hx1.trans hx2); have hxw := Hx0.out.trans (hx1.trans hx2); obtain ⟨q1, r1⟩ := (Ext.refl w2).box hT1.1; obtain ⟨q2, r2⟩ := (Ext.refl w2).box hT1.2; have ll1 := heap_lt hT1.1; have ll2 := heap_lt hT1.2; clear z1))
      have hT4 := hT1.put e0 e1 n0 n1 hne
      have hx4 := gset2_ext (g := w.heap.size + 1 + 1) (a := .int .i64 n0) (b := .int .i64 n1) (gset2_ext (g := w.heap.size + 1) (a := .int .i64 e0) (b := .int .i64 e1) hxw (by omega)) (by omega)
      have hll1 := heap_lt hT4.1
      have hll2 := heap_lt hT4.2
      obtain ⟨W4, hW4⟩ : ∃ W4, ((((w2.setCell ⟨w.heap.size + 1, 0, none⟩ (.int .i64 e0)).setCell ⟨w.heap.size + 1, 1, none⟩ (.int .i64 e1)).setCell ⟨w.heap.size + 1 + 1, 0, none⟩ (.int .i64 n0)).setCell ⟨w.heap.size + 1 + 1, 1, none⟩ (.int .i64 n1)) = W4 := ⟨_, rfl⟩
      rw [hW4] at hT4 hx4 hll1 hll2 ⊢
      clear hW4 q1 r1 q2 r2 ll1 ll2 hT1
      obtain ⟨q1, r1⟩ := (Ext.refl W4).box hT4.1
      obtain ⟨q2, r2⟩ := (Ext.refl W4).box hT4.2
      refine wp_region_tree (.take [0, 1] (.one 2 (.one 3 (.take [4] .done)))) (Two (w.heap.size + 1) (w.heap.size + 1 + 1) e0 e1 n0 n1) _ (by kernel_rfl) (by kernel_rfl) rfl hT4.drew ?_
      intro ι _ f hf hs
      have f0 := fun q => ((Ext.refl (f q)).box (hf q).1).1
      have f1 := fun q => ((Ext.refl (f q)).box (hf q).2).1
      have HS := Lib.hid hs
      clear hf hs
      simp only [treeOf, oneOp, twoOp, opsOf, consOp, List.getElem?_toArray, List.getElem?_cons_succ, List.getElem?_cons_zero]
      refine wpOT_take ?_
      repeat (go_big_quiet_step (fail))
      refine wpQuiet_nil ?_
      clear f0 f1
      have hT2 := hT4.set_left hne
      have hT3 := hT2.set_right hne
      have hx3 := gset2_ext (g := w.heap.size + 1 + 1) (a := .int .i64 n0) (b := .int .i64 n1) (gset2_ext (g := w.heap.size + 1) (a := .int .i64 e0) (b := .int .i64 e1) hx4 (by omega)) (by omega)
      have HT2 := Lib.hid hT2
      have HT3 := Lib.hid hT3
      have Hx3 := Lib.hid hx3
      clear hT2 hT3 hx3
      refine wpOT_one ?_
      go_wp2_with fail
      refine ⟨HS.out _ HT2.out.drew, ?_⟩
      refine wpOT_one ?_
      go_wp2_with fail
      refine ⟨HS.out _ HT3.out.drew, ?_⟩
      refine wpOT_take ?_
      repeat (go_big_quiet_step (fail))
      refine wpQuiet_nil ?_
      refine wpOT_done ?_
      go_wp2_with fail
      refine bodyPost_ret (results_cells_tmp (P := Tryz.prog) (fn := Tryz.f21) rfl _ _ (w.heap.size + 1) (w.heap.size + 1 + 1) 27 27 #[.int .i64 e0, .int .i64 e1] #[.int .i64 n0, .int .i64 n1] (0, 0) (0, 0) _ _ rfl HT3.out.1 Tryz.underlying27 rfl (by kernel_rfl) rfl HT3.out.2 Tryz.underlying27 rfl (by kernel_rfl)) rfl ?_
      exact Hfin.out _ Hx3.out.drew
end Go.Proofs.YtcoelhpmkhimpaaGreat
