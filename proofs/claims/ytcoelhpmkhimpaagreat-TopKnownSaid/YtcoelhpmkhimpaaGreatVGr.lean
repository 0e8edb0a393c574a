/- Finds. -/
import Derived.Test.YtcoelhpmkhimpaaGreatVGo
import Derived.Test.YtcoelhpmkhimpaaGreatVMoved
import Derived.Test.YtcoelhpmkhimpaaGreatVGq
import Derived.BigQuiet
namespace Go.Proofs.YtcoelhpmkhimpaaGreat
open Go.RowKit
set_option linter.unusedVariables false
set_option linter.unusedSimpArgs false
def FindsPost (l : List Half) (ts : List Trek) (x y far : Int) (w : World) (e : Ending) (w' : World) : Prop := e = .returned (.tuple #[.int .i64 (findsOf l ts x y far).1, .int .i64 (findsOf l ts x y far).2.1, .int .i64 (findsOf l ts x y far).2.2]) ∧ Ext w w'
theorem wayTo_zero (l : List Half) (ts : List Trek) : wayTo l ts 0 = l := rfl
theorem wayTo_succ {l : List Half} {ts : List Trek} {k : Nat} {t : Trek} (h : ts[k]? = some t) : wayTo l ts (k + 1) = movedOf (wayTo l ts k) t := by
  unfold wayTo
  rw [List.take_add_one, h, Option.toList_some, List.foldl_append]
  rfl
theorem wayTo_len (l : List Half) (ts : List Trek) : ∀ k, (wayTo l ts k).length = l.length := by
  intro k
  unfold wayTo
  generalize ts.take k = us
  induction us generalizing l with
  | nil => rfl
  | cons t us ih => rw [List.foldl_cons, ih, moved_len]
theorem findTo_none {l : List Half} {ts : List Trek} {x y far : Int} {k : Nat} (h : findTo l ts x y far k = none) : ∀ m, findTo l ts x y far (k + m) = none := by
  intro m
  induction m with
  | zero => exact h
  | succ m ih =>
    rw [← Nat.add_assoc, findTo, ih]
theorem findTo_bad {l : List Half} {ts : List Trek} {x y far : Int} {k n : Nat} (h : fitB (wayTo l ts (k + 1)) = false) (hk : k < n) : findTo l ts x y far n = none := by
  have h1 : findTo l ts x y far (k + 1) = none := by
    rw [findTo, h]
    split <;> simp
  have := findTo_none h1 (n - (k + 1))
  rwa [show k + 1 + (n - (k + 1)) = n by omega] at this
theorem findTo_good {l : List Half} {ts : List Trek} {x y far : Int} {k : Nat} {m s : Int} (h : findTo l ts x y far k = some (m, s)) (hf : fitB (wayTo l ts (k + 1)) = true) : findTo l ts x y far (k + 1) = some (noteMay m (knownOf (wayTo l ts (k + 1)) x y far) (k + 1 : Nat), noteSure s (knownOf (wayTo l ts (k + 1)) x y far) (k + 1 : Nat)) := by
  rw [findTo, h]
  simp only [hf, if_true]
/-- halves elsewhere than in two blocks -/
theorem HalvesAt.note {B bF : Nat} {w w' : World} {a : Option Addr} {n : Nat} {l : List Half} (h : HalvesAt w a n l) (h0 : 0 < n) (r : NoteRel B bF w w') (hne : ∀ X, a = some X → X.block ≠ bF) : HalvesAt w' a n l := by
  refine h.same fun X hX => ?_
  obtain ⟨b, off, _, ha, _, hb, _⟩ := h.get 0 h0
  rw [hX] at ha
  cases ha
  obtain ⟨o, ho⟩ : ∃ o, w.heap[b]? = some o := ⟨_, Array.getElem?_eq_getElem hb⟩
  exact (r.2 b o (hne _ hX) ho).trans ho.symm
/-- Finds between two steps -/
structure FSt (w : World) (x y far : Int) (len bn : Nat) (L : List Half) (va : Option Addr) (vc : Nat) (m s : Int) (W : World) : Prop where
  ext : Ext w W
  bx : W.heap[w.heap.size + 1]? = some (.cells #[.int .i64 x] 3 (0, 0))
  by' : W.heap[w.heap.size + 1 + 1]? = some (.cells #[.int .i64 y] 3 (0, 0))
  bf : W.heap[w.heap.size + 1 + 1 + 1]? = some (.cells #[.int .i64 far] 3 (0, 0))
  b1 : W.heap[bn]? = some (.cells #[.slice va len vc] 22 (0, 0))
  b2 : W.heap[bn + 1]? = some (.cells #[.int .i64 0, .int .i64 m, .int .i64 s] 86 (0, 0))
  hal : HalvesAt W va len L
  ok : AreaOk L
  c1 : len ≤ vc
  c2 : vc ≤ maxLen
  ne : ∀ X, va = some X → X.block ≠ bn ∧ X.block ≠ bn + 1
  lt : w.heap.size + 1 + 1 + 1 < bn
theorem FSt.pos {w : World} {x y far : Int} {len bn : Nat} {L : List Half} {va : Option Addr} {vc : Nat} {m s : Int} {W : World} (h : FSt w x y far len bn L va vc m s W) : 0 < len ∧ len ≤ 900 := by
  have h1 := h.ok.len
  rw [h.hal.1] at h1
  omega
theorem FSt.move {w : World} {x y far : Int} {len bn : Nat} {L : List Half} {va : Option Addr} {vc : Nat} {m s : Int} {W W' : World} (h : FSt w x y far len bn L va vc m s W) (hx : Ext W W') {L' : List Half} {va' : Option Addr} {vc' : Nat} (hA : AreaOk L') (hL : HalvesAt W' va' len L') (c1 : len ≤ vc') (c2 : vc' ≤ maxLen) (hf : From W.heap.size va') :
    FSt w x y far len bn L' va' vc' m s (W'.setCell ⟨bn, 0, none⟩ (.slice va' len vc')) := by
  have hlt := h.lt
  have l1 := heap_lt h.b1
  have l2 := heap_lt h.b2
  have l3 := heap_lt h.bf
  have hsz := h.ext.size
  refine ⟨(h.ext.trans hx).setCell (p := ⟨bn, 0, none⟩) (by simp only; omega) _, (Below.heap_setCell _ _ _ _ (by simp only; omega)).trans (hx.heap h.bx), (Below.heap_setCell _ _ _ _ (by simp only; omega)).trans (hx.heap h.by'), (Below.heap_setCell _ _ _ _ (by simp only; omega)).trans (hx.heap h.bf), ?_, (Below.heap_setCell _ _ _ _ (by simp only; omega)).trans (hx.heap h.b2), hL.same fun X hX => ?_, hA, c1, c2, fun X hX => ?_, hlt⟩
  · rw [heap_setCell_box, hx.heap h.b1]
    rfl
  · have := hf X hX
    exact Below.heap_setCell _ _ _ _ (by simp only; omega)
  · have := hf X hX
    omega
theorem FSt.note {w : World} {x y far : Int} {len bn : Nat} {L : List Half} {va : Option Addr} {vc : Nat} {m s : Int} {W W' : World} (h : FSt w x y far len bn L va vc m s W) (r : NoteRel w.heap.size (bn + 1) W W') {m' s' : Int} (hb : W'.heap[bn + 1]? = some (.cells #[.int .i64 0, .int .i64 m', .int .i64 s'] 86 (0, 0))) :
    FSt w x y far len bn L va vc m' s' W' := by
  have hlt := h.lt
  exact ⟨Below.trans h.ext r.1, r.2 _ _ (by omega) h.bx, r.2 _ _ (by omega) h.by', r.2 _ _ (by omega) h.bf, r.2 _ _ (by omega) h.b1, hb, h.hal.note h.pos.1 r fun X hX => (h.ne X hX).2, h.ok, h.c1, h.c2, h.ne, hlt⟩
theorem FSt.call {w : World} {x y far : Int} {len bn : Nat} {L : List Half} {va : Option Addr} {vc : Nat} {m s : Int} {W : World} (h : FSt w x y far len bn L va vc m s W) (hn : NearOk x y far) (k : Nat) (i : Int) (hi : (k : Int) = i) :
    Calls Tryz.prog 36 #[.int .i64 i, .pointer (some ⟨bn, 0, none⟩), .pointer (some ⟨w.heap.size + 1, 0, none⟩), .pointer (some ⟨w.heap.size + 1 + 1, 0, none⟩), .pointer (some ⟨w.heap.size + 1 + 1 + 1, 0, none⟩), .pointer (some ⟨bn + 1, 0, none⟩)] W fun e w' => e = .returned (.tuple #[]) ∧ FSt w x y far len bn L va vc (noteMay m (knownOf L x y far) k) (noteSure s (knownOf L x y far) k) w' := by
  subst hi
  have hlt := h.lt
  exact (note_any w.heap.size k bn _ _ _ (bn + 1) va len vc L x y far m s W h.hal h.pos.1 h.pos.2 h.c1 h.c2 h.ok.each hn h.b1 h.bx h.by' h.bf h.b2 (by omega)).mono fun e w' ⟨he, hr, hb⟩ => ⟨he, h.note hr hb⟩
set_option maxRecDepth 100000 in
set_option maxHeartbeats 8000000 in
theorem finds_any (a : Option Addr) (len cap : Nat) (l : List Half) (ta : Option Addr) (n tc : Nat) (ts : List Trek) (x y far : Int) (w : World) (hl : HalvesAt w a len l) (hc : len ≤ cap) (hm : cap ≤ maxLen) (hs : TreksAt w ta n ts) (hn : n ≤ 1000000) :
    Calls Tryz.prog 13 #[.agg #[.slice a len cap], .slice ta n tc, .int .i64 x, .int .i64 y, .int .i64 far] w (FindsPost l ts x y far w) := by
  have has := fun W (hW : Ext w W) => asked_any a len cap l x y far W (hl.ext hW) hc hm
  have hll := hl.1
  have hsl := hs.1
  have hev := fun W (hW : Ext w W) => every_trek0 35 (enters_of Tryz.func35 (by kernel_rfl) rfl) ta n tc ts trekOk W (hs.ext hW) (by omega) (fun o _ W' _ => gone_any o W')
  have hdef : findsOf l ts x y far = if askedOf l x y far ≠ 0 then (0, 0, askedOf l x y far) else if 60 < ts.length then (0, 0, 4) else if ts.all trekOk = false then (0, 0, 42) else
    match findTo l ts x y far ts.length with
    | none => (0, 0, 9)
    | some a => (a.1, a.2, 0) := rfl
  obtain ⟨R, hR⟩ : ∃ R, findsOf l ts x y far = R := ⟨_, rfl⟩
  obtain ⟨Q, hQ⟩ : ∃ Q, FindsPost l ts x y far w = Q := ⟨_, rfl⟩
  have hfin : ∀ r1 r2 r3, R = (r1, r2, r3) → ∀ w', Ext w w' → Q (.returned (.tuple #[.int .i64 r1, .int .i64 r2, .int .i64 r3])) w' := fun r1 r2 r3 h w' hx => by
    rw [← hQ]
    unfold FindsPost
    rw [hR, h]
    exact ⟨rfl, hx⟩
  rw [hR] at hdef
  rw [hQ]
  clear hR hQ
  rw [hsl] at hdef
  have hK0 : askedOf l x y far = 0 → AreaOk l ∧ NearOk x y far := fun h => ⟨(asked_zero h).1, (asked_zero h).2.1⟩
  obtain ⟨K, hK⟩ : ∃ K, askedOf l x y far = K := ⟨_, rfl⟩
  rw [hK] at has hdef hK0
  obtain ⟨W0, hW0⟩ : ∃ W0, (((w.alloc (.cells #[.slice a len cap] 24)).alloc (.cells #[.int .i64 x] 3)).alloc (.cells #[.int .i64 y] 3)).alloc (.cells #[.int .i64 far] 3) = W0 := ⟨_, rfl⟩
  have hx0 : Ext w W0 := by rw [← hW0]; exact ((((Ext.refl w).alloc _).alloc _).alloc _).alloc _
  have ha0 : W0.heap[w.heap.size]? = some (.cells #[.slice a len cap] 24 (0, 0)) := by rw [← hW0]; exact ((((Ext.refl _).alloc _).alloc _).alloc _).heap (heap_alloc_new w _)
  have hb0 : W0.heap[w.heap.size + 1]? = some (.cells #[.int .i64 x] 3 (0, 0)) := by rw [← hW0]; exact (((Ext.refl _).alloc _).alloc _).heap (alloc_at _ _ _ (by simp))
  have hc0 : W0.heap[w.heap.size + 1 + 1]? = some (.cells #[.int .i64 y] 3 (0, 0)) := by rw [← hW0]; exact ((Ext.refl _).alloc _).heap (alloc_at _ _ _ (by simp))
  have hd0 : W0.heap[w.heap.size + 1 + 1 + 1]? = some (.cells #[.int .i64 far] 3 (0, 0)) := by rw [← hW0]; exact alloc_at _ _ _ (by simp)
  obtain ⟨z0, _⟩ := (Ext.refl W0).box ha0
  obtain ⟨z1, _⟩ := (Ext.refl W0).box hb0
  obtain ⟨z2, _⟩ := (Ext.refl W0).box hc0
  obtain ⟨z3, _⟩ := (Ext.refl W0).box hd0
  have Hx0 := Lib.hid hx0
  have Ha0 := Lib.hid ha0
  have Hb0 := Lib.hid hb0
  have Hc0 := Lib.hid hc0
  have Hd0 := Lib.hid hd0
  have Hll := Lib.hid hll
  have Hsl := Lib.hid hsl
  clear hx0 ha0 hb0 hc0 hd0 hll hsl
  by_cases hk : K ≠ 0
  · have hf := hfin 0 0 K (by rw [hdef, if_pos hk])
    have hkB : (K == 0) = false := by simpa using hk
    have Has := Lib.hid has
    have Hf := Lib.hid hf
    clear has hf
    clear hl hs hev hdef hK0 hfin hK hk hc hm hn
    go_enter Tryz.func13, Tryz.ntmps13
    go_wp2_with (go_at_call 33; refine (Has.out _ Hx0.out).mono ?_; rintro e w1 ⟨rfl, hx1⟩; have hx01 := Hx0.out.trans hx1)
    go_ret3
    exact Hf.out _ hx01
  obtain rfl : K = 0 := by omega
  obtain ⟨hA, hN⟩ := hK0 rfl
  rw [if_neg (by simp)] at hdef
  by_cases h60 : 60 < n
  · have hf := hfin 0 0 4 (by rw [hdef, if_pos h60])
    have h60B : decide ((60 : Int) < (n : Int)) = true := decide_eq_true (by omega)
    have h60B' : decide (60 < n) = true := decide_eq_true h60
    have Has := Lib.hid has
    have Hf := Lib.hid hf
    clear has hf
    clear hl hs hev hdef hK0 hfin hK hc hm hn
    go_enter Tryz.func13, Tryz.ntmps13
    go_wp2_with (go_at_call 33; refine (Has.out _ Hx0.out).mono ?_; rintro e w1 ⟨rfl, hx1⟩; have hx01 := Hx0.out.trans hx1)
    go_ret3
    exact Hf.out _ hx01
  rw [if_neg h60] at hdef
  have h60B : decide ((60 : Int) < (n : Int)) = false := decide_eq_false (by omega)
  have h60B' : decide (60 < n) = false := decide_eq_false h60
  cases hal : ts.all trekOk with
  | false =>
    have hf := hfin 0 0 42 (by rw [hdef, if_pos hal])
    rw [hal] at hev
    have Has := Lib.hid has
    have Hf := Lib.hid hf
    have Hev := Lib.hid hev
    clear has hf hev
    clear hl hs hdef hK0 hfin hK hc hm hn
    go_enter Tryz.func13, Tryz.ntmps13
    go_wp2_with (first | (go_at_call 33; refine (Has.out _ Hx0.out).mono ?_; rintro e w1 ⟨rfl, hx1⟩; have hx01 := Hx0.out.trans hx1) | (go_at_call 34; refine (Hev.out _ hx01).mono ?_; rintro e w2 ⟨rfl, hx2⟩))
    go_ret3
    exact Hf.out _ (hx01.trans hx2)
  | true =>
    rw [if_neg (by rw [hal]; simp)] at hdef
    rw [hal] at hev
    have Has := Lib.hid has
    have Hev := Lib.hid hev
    have Hdef := Lib.hid hdef
    have Hfin := Lib.hid hfin
    have Hal := Lib.hid hal
    clear has hev hdef hfin hal
    have Hl := Lib.hid hl
    have Hs := Lib.hid hs
    clear hK0 hK hn hl hs
    go_enter Tryz.func13, Tryz.ntmps13
    go_upto_region 11 with (first | (go_at_call 33; refine (Has.out _ Hx0.out).mono ?_; rintro e w1 ⟨rfl, hx1⟩; have hx01 := Hx0.out.trans hx1; clear hW0 z0 z1 z2 z3) | (go_at_call 34; refine (Hev.out _ hx01).mono ?_; rintro e w2 ⟨rfl, hx2⟩; have hx12 := hx1.trans hx2; obtain ⟨z0, _⟩ := (Ext.refl w2).box (hx12.heap Ha0.out)))
    have hF : FSt w x y far len w2.heap.size l a cap (-1) (-1) ((w2.alloc (.cells #[.slice a len cap] 22)).alloc (.cells #[.int .i64 0, .int .i64 (-1), .int .i64 (-1)] 86)) := by
      have hx02 := Hx0.out.trans hx12
      have hsz := hx02.size
      have l3 := heap_lt (hx12.heap Hd0.out)
      refine ⟨(hx02.alloc _).alloc _, ((hx12.alloc _).alloc _).heap Hb0.out, ((hx12.alloc _).alloc _).heap Hc0.out, ((hx12.alloc _).alloc _).heap Hd0.out, ((Ext.refl _).alloc _).heap (heap_alloc_new w2 _), alloc_at _ _ _ (by simp), Hl.out.ext ((hx02.alloc _).alloc _), hA, hc, hm, fun X hX => ?_, by omega⟩
      obtain ⟨b, off, _, ha, _, hb, _⟩ := Hl.out.get 0 (by have := hA.len; have := Hll.out; omega)
      rw [hX] at ha
      cases ha
      simp only
      omega
    generalize ((w2.alloc (.cells #[.slice a len cap] 22)).alloc (.cells #[.int .i64 0, .int .i64 (-1), .int .i64 (-1)] 86)) = W3 at *
    generalize w2.heap.size = bn at *
    have hN' := hN
    have HF := Lib.hid hF
    have HN' := Lib.hid hN'
    clear hF hN'
    clear hx1 hx01 hx2 hx12 z0 hN Has Hev Ha0 Hb0 Hc0 Hd0 Hx0
    go_upto_region 13 with (go_at_call 36; refine (HF.out.call HN'.out 0 0 rfl).mono ?_; rintro e w4 ⟨rfl, hF4⟩)
    go_loopw [45] (fun i wr => ∃ (j : Nat) (va : Option Addr) (vc : Nat) (m s : Int), j ≤ n ∧ i = .int .i64 j ∧ FSt w x y far len bn (wayTo l ts j) va vc m s wr ∧ findTo l ts x y far j = some (m, s)) (fun i _ => n - (intOf i).toNat)
    case atStart => exact ⟨0, a, cap, _, _, Nat.zero_le _, rfl, hF4, rfl⟩
    case round =>
      obtain ⟨j, va, vc, m, s, hj, rfl, hF, hfd⟩ := hrel
      clear hF4
      obtain ⟨y1, _⟩ := (Ext.refl wr).box hF.b1
      have hbl := heap_lt hF.b1
      by_cases hlt : j < n
      · have hltB : decide ((j : Int) < (n : Int)) = true := by simp; omega
        obtain ⟨sb, so, t, rfl, hsk, hsb, c0, c1, c2, c3, c4, c5⟩ := (Hs.out.ext hF.ext).get j hlt
        have htk : trekOk t = true := List.all_eq_true.1 Hal.out t (List.mem_of_getElem? hsk)
        have hmv := fun W (hW : Ext wr W) => moved_any va len vc _ t W (hF.hal.ext hW) hF.pos.1 (by have := hF.pos.2; omega) hF.ok.each htk
        have hsucc := wayTo_succ (l := l) hsk
        have hlen' : (wayTo l ts (j + 1)).length = len := by rw [wayTo_len, Hll.out]
        unfold MovedPost at hmv
        rw [← hsucc] at hmv
        obtain ⟨⟨d0, d1⟩, ⟨e0, e1⟩, ⟨n0, n1⟩⟩ := t
        unfold Trek.val at hmv
        simp only at hmv c0 c1 c2 c3 c4 c5
        cases hfi : fitB (wayTo l ts (j + 1)) with
        | false =>
          rw [hfi] at hmv
          have hf := Hfin.out 0 0 9 (by rw [Hdef.out, findTo_bad hfi hlt])
          have hxw := hF.ext
          have Hmv := Lib.hid hmv
          have Hf := Lib.hid hf
          have Hxw := Lib.hid hxw
          clear hmv hf hxw
          clear hF hfd hsk htk hsucc hlen' hfi
          go_wp2_with (go_at_call 38; refine (Hmv.out _ ((Ext.refl _).alloc _)).mono ?_; rintro e w5 ⟨v5, rfl, hx5, ho5⟩)
          go_ret3
          exact Hf.out _ (Hxw.out.trans (((Ext.refl _).alloc _).trans hx5))
        | true =>
          rw [hfi] at hmv
          have hgd := findTo_good hfd hfi
          have hA' : AreaOk (wayTo l ts (j + 1)) := by
            rw [hsucc] at hfi ⊢
            exact hF.ok.moved hfi
          have Hmv := Lib.hid hmv
          have Hgd := Lib.hid hgd
          have HA' := Lib.hid hA'
          have HF := Lib.hid hF
          have Hlen' := Lib.hid hlen'
          clear hmv hgd hA' hF hlen'
          clear hfd hsk htk hsucc hfi
          go_wp2_with (first | (go_at_call 38; refine (Hmv.out _ ((Ext.refl _).alloc _)).mono ?_; rintro e w5 ⟨v5, rfl, hx5, ho5⟩; obtain ⟨ma, mc, hv5, m1, m2, m3, hM⟩ := halves_of_owns ho5; rw [Hlen'.out] at hv5 m2 hM; subst hv5; have hF5 := HF.out.move (((Ext.refl _).alloc _).trans hx5) HA'.out hM m2 m3 (m1.mono (by simp)); have HF5 := Lib.hid hF5; obtain ⟨z5, z5'⟩ := (Ext.refl w5).box ((((Ext.refl _).alloc _).trans hx5).heap HF.out.b1); clear hM ho5 hF5 y1) | (go_at_call 36; refine (HF5.out.call HN'.out (j + 1) _ (by go_num)).mono ?_; rintro e w6 ⟨rfl, hF6⟩; have HF6 := Lib.hid hF6; clear hF6))
          go_roundw
          case rel => exact ⟨j + 1, ma, mc, _, _, by omega, by go_num, HF6.out, Hgd.out⟩
          case measure => simp [intOf]; omega
      · have hltB : decide ((j : Int) < (n : Int)) = false := by simp; omega
        obtain rfl : j = n := by omega
        obtain ⟨y2, _⟩ := (Ext.refl wr).box hF.b2
        have hf := Hfin.out m s 0 (by rw [Hdef.out, hfd])
        have hxw := hF.ext
        have Hf := Lib.hid hf
        have Hxw := Lib.hid hxw
        clear hf hxw
        have c1 := y2 1
        have c2 := y2 2
        clear hF hfd
        go_upto_region 21 with fail
        refine wp_region_ext (by kernel_rfl) (by kernel_rfl) (fun f hf hs => ?_)
        have f1 := fun q => (hf q).cell c1
        have f2 := fun q => (hf q).cell c2
        clear hf hs
        repeat (go_big_quiet_step (fail))
        refine wpQuiet_nil ?_
        intro W8 hW8
        clear f1 f2
        go_wp2_with fail
        go_ret3
        exact Hf.out _ (Hxw.out.trans hW8)
end Go.Proofs.YtcoelhpmkhimpaaGreat

/- March. -/
namespace Go.Proofs.YtcoelhpmkhimpaaGreat
open Go.RowKit
set_option linter.unusedVariables false
set_option linter.unusedSimpArgs false
set_option maxRecDepth 100000 in
set_option maxHeartbeats 4000000 in
theorem march_any (a : Option Addr) (len cap : Nat) (l : List Half) (t : Trek) (w : World) (hl : HalvesAt w a len l) (hc : len ≤ cap) (hm : cap ≤ maxLen) :
    Calls Tryz.prog 24 #[.agg #[.slice a len cap], t.val] w (AreaOwn (marchOf l t) w) := by
  have hch := fun W (hW : Ext w W) => gcheck_any a len cap l W (hl.ext hW) (by unfold maxLen at hm; omega)
  have hgo := fun W => gone_any t W
  have hdef : marchOf l t = if areaOk l = false then ([], 40) else if trekOk t = false then ([], 42) else if fitB (movedOf l t) = false then ([], 9) else if someB l = false then ([], 43) else (movedOf l t, 0) := rfl
  have hll := hl.1
  have hmv := fun W (hW : Ext w W) h0 h1 h2 h3 => moved_any a len cap l t W (hl.ext hW) h0 h1 h2 h3
  obtain ⟨r, hr⟩ : ∃ r, marchOf l t = r := ⟨_, rfl⟩
  obtain ⟨Q, hQ⟩ : ∃ Q, AreaOwn r w = Q := ⟨_, rfl⟩
  have herr : ∀ k, r = ([], k) → ∀ w', Ext w w' → Q (.returned (.tuple #[.agg #[.slice none 0 0], .int .i64 k])) w' := fun k h w' hx => by
    rw [← hQ, h]
    exact areaown_none k w' hx
  have hok : ∀ L, r = (L, 0) → ∀ v w', Ext w w' → Owns w' w.heap.size 79 3 v (halfRows L) → Q (.returned (.tuple #[.agg #[v], .int .i64 0])) w' := fun L h v w' hx ho => by
    rw [← hQ, h]
    exact ⟨v, rfl, hx, ho⟩
  rw [hr] at hdef ⊢
  rw [hQ]
  clear hr hQ
  unfold MovedPost at hmv
  generalize hML : movedOf l t = ML at *
  unfold checkOf at hch
  obtain ⟨⟨d0, d1⟩, ⟨e0, e1⟩, ⟨n0, n1⟩⟩ := t
  unfold Trek.val at *
  simp only at hgo hmv ⊢
  obtain ⟨W0, hW0⟩ : ∃ W0, ((w.alloc (.cells #[.slice a len cap] 24)).alloc (.cells #[.int .i64 d0, .int .i64 d1, .int .i64 e0, .int .i64 e1, .int .i64 n0, .int .i64 n1] 43)).alloc (.cells #[.slice none 0 0] 24) = W0 := ⟨_, rfl⟩
  have hx0 : Ext w W0 := by rw [← hW0]; exact (((Ext.refl w).alloc _).alloc _).alloc _
  have ha0 : W0.heap[w.heap.size]? = some (.cells #[.slice a len cap] 24 (0, 0)) := by rw [← hW0]; exact (((Ext.refl _).alloc _).alloc _).heap (heap_alloc_new w _)
  have hs0 : W0.heap[w.heap.size + 1]? = some (.cells #[.int .i64 d0, .int .i64 d1, .int .i64 e0, .int .i64 e1, .int .i64 n0, .int .i64 n1] 43 (0, 0)) := by rw [← hW0]; exact ((Ext.refl _).alloc _).heap (alloc_at _ _ _ (by simp))
  have hr0 : W0.heap[w.heap.size + 1 + 1]? = some (.cells #[.slice none 0 0] 24 (0, 0)) := by rw [← hW0]; exact alloc_at _ _ _ (by simp)
  obtain ⟨z0, _⟩ := (Ext.refl W0).box ha0
  have hlr0 := heap_lt hr0
  have hz1 := hx0.size
  have Hx0 := Lib.hid hx0
  have Ha0 := Lib.hid ha0
  have Hs0 := Lib.hid hs0
  have Hr0 := Lib.hid hr0
  have Hll := Lib.hid hll
  clear hx0 ha0 hs0 hr0 hll
  cases hao : areaOk l with
  | false =>
    have hfin := herr 40 (by rw [hdef, if_pos hao])
    rw [hao] at hch
    simp only [Bool.false_eq_true, if_false] at hch
    have Hch := Lib.hid hch
    have Hfin := Lib.hid hfin
    clear hch hfin
    clear hl hgo hmv herr hok hdef
    go_enter Tryz.func24, Tryz.ntmps24
    go_wp2_with (go_at_call 45; refine (Hch.out _ Hx0.out).mono ?_; rintro e w1 ⟨rfl, hx1⟩; have hr2 := hx1.heap Hr0.out; obtain ⟨q2, r2⟩ := (Ext.refl _).box hr2; have hw2 := Hx0.out.trans hx1; have hsz := hw2.size; have hlr := heap_lt hr2; clear hW0 z0)
    refine bodyPost_ret (results_cell_tmp (P := Tryz.prog) (fn := Tryz.f24) rfl _ _ (w.heap.size + 1 + 1) 24 #[.slice none 0 0] (0, 0) _ rfl (by simp only [heap_setCell_box, hr2, Option.map_some, setIn_cells, List.setIfInBounds_toArray, List.set_cons_zero, List.set_cons_succ]) Tryz.underlying24 rfl (by kernel_rfl)) rfl ?_
    exact Hfin.out _ (hw2.setCell (p := ⟨w.heap.size + 1 + 1, 0, none⟩) (by simp only; omega) _)
  | true =>
    have hA := areaOk_iff.1 hao
    have hlen4 := hA.len
    rw [Hll.out] at hlen4
    rw [hao] at hch
    simp only [if_true] at hch
    cases hto : trekOk ⟨⟨d0, d1⟩, ⟨e0, e1⟩, ⟨n0, n1⟩⟩ with
    | false =>
      have hfin := herr 42 (by rw [hdef, hao, hto]; rfl)
      rw [hto] at hgo
      have Hch := Lib.hid hch
      have Hfin := Lib.hid hfin
      have Hgo := Lib.hid hgo
      clear hch hfin hgo
      clear hl hmv herr hok hdef
      go_enter Tryz.func24, Tryz.ntmps24
      go_wp2_with (first | (go_at_call 45; refine (Hch.out _ Hx0.out).mono ?_; rintro e w1 ⟨rfl, hx1⟩; obtain ⟨f1, _⟩ := (Ext.refl _).box (hx1.heap Hs0.out); clear hW0 z0) | (go_at_call 35; refine (Hgo.out _).mono ?_; rintro e w2 ⟨rfl, hx2⟩; have hx12 := hx1.trans hx2; have hr2 := hx12.heap Hr0.out; obtain ⟨q2, r2⟩ := (Ext.refl _).box hr2; have hw2 := Hx0.out.trans hx12; have hsz := hw2.size; have hlr := heap_lt hr2; clear f1))
      refine bodyPost_ret (results_cell_tmp (P := Tryz.prog) (fn := Tryz.f24) rfl _ _ (w.heap.size + 1 + 1) 24 #[.slice none 0 0] (0, 0) _ rfl (by simp only [heap_setCell_box, hr2, Option.map_some, setIn_cells, List.setIfInBounds_toArray, List.set_cons_zero, List.set_cons_succ]) Tryz.underlying24 rfl (by kernel_rfl)) rfl ?_
      exact Hfin.out _ (hw2.setCell (p := ⟨w.heap.size + 1 + 1, 0, none⟩) (by simp only; omega) _)
    | true =>
      rw [hto] at hgo
      replace hmv := fun W hW => hmv W hW (by omega) (by omega) hA.each hto
      cases hfi : fitB ML with
      | false =>
        have hfin := herr 9 (by rw [hdef, hao, hto, hfi]; rfl)
        rw [hfi] at hmv
        have Hch := Lib.hid hch
        have Hfin := Lib.hid hfin
        have Hgo := Lib.hid hgo
        have Hmv := Lib.hid hmv
        clear hch hfin hgo hmv
        clear hl herr hok hdef
        go_enter Tryz.func24, Tryz.ntmps24
        go_wp2_with (first | (go_at_call 45; refine (Hch.out _ Hx0.out).mono ?_; rintro e w1 ⟨rfl, hx1⟩; obtain ⟨f1, _⟩ := (Ext.refl _).box (hx1.heap Hs0.out); clear hW0 z0) | (go_at_call 35; refine (Hgo.out _).mono ?_; rintro e w2 ⟨rfl, hx2⟩; have hx12 := hx1.trans hx2; obtain ⟨f1', _⟩ := (Ext.refl _).box (hx12.heap Hs0.out); obtain ⟨f2', _⟩ := (Ext.refl _).box (hx12.heap Ha0.out); clear f1) | (go_at_call 38; refine (Hmv.out _ (Hx0.out.trans hx12)).mono ?_; rintro e w3 ⟨v3, rfl, hx3, ho3⟩; have hx13 := hx12.trans hx3; have hr2 := hx13.heap Hr0.out; obtain ⟨q2, r2⟩ := (Ext.refl _).box hr2; have hw2 := Hx0.out.trans hx13; have hsz := hw2.size; have hlr := heap_lt hr2; clear f1' f2'))
        refine bodyPost_ret (results_cell_tmp (P := Tryz.prog) (fn := Tryz.f24) rfl _ _ (w.heap.size + 1 + 1) 24 #[.slice none 0 0] (0, 0) _ rfl (by simp only [heap_setCell_box, hr2, Option.map_some, setIn_cells, List.setIfInBounds_toArray, List.set_cons_zero, List.set_cons_succ]) Tryz.underlying24 rfl (by kernel_rfl)) rfl ?_
        exact Hfin.out _ (hw2.setCell (p := ⟨w.heap.size + 1 + 1, 0, none⟩) (by simp only; omega) _)
      | true =>
        rw [hfi] at hmv
        have hso := fun W b (hW : Ext w W) (hb : W.heap[b]? = some (.cells #[.slice a len cap] 22 (0, 0))) => some_any (some ⟨b, 0, none⟩) 1 1 [l] W (lists1 hb (hl.ext hW) hc hm) (by omega) (by simp; have := Hll.out; omega) (fun h hh => by
          simp only [List.flatten_cons, List.flatten_nil, List.append_nil] at hh
          exact hA.each h hh)
        simp only [List.flatten_cons, List.flatten_nil, List.append_nil] at hso
        cases hsm : someB l with
        | false =>
          have hfin := herr 43 (by rw [hdef, hao, hto, hfi, hsm]; rfl)
          rw [hsm] at hso
          have Hch := Lib.hid hch
          have Hfin := Lib.hid hfin
          have Hgo := Lib.hid hgo
          have Hmv := Lib.hid hmv
          have Hso := Lib.hid hso
          clear hch hfin hgo hmv hso
          clear hl herr hok hdef
          go_enter Tryz.func24, Tryz.ntmps24
          go_wp2_with (first | (go_at_call 45; refine (Hch.out _ Hx0.out).mono ?_; rintro e w1 ⟨rfl, hx1⟩; obtain ⟨f1, _⟩ := (Ext.refl _).box (hx1.heap Hs0.out); clear hW0 z0) | (go_at_call 35; refine (Hgo.out _).mono ?_; rintro e w2 ⟨rfl, hx2⟩; have hx12 := hx1.trans hx2; obtain ⟨f1', _⟩ := (Ext.refl _).box (hx12.heap Hs0.out); obtain ⟨f2', _⟩ := (Ext.refl _).box (hx12.heap Ha0.out); clear f1) | (go_at_call 38; refine (Hmv.out _ (Hx0.out.trans hx12)).mono ?_; rintro e w3 ⟨v3, rfl, hx3, ho3⟩; have hx13 := hx12.trans hx3; have hx03 := Hx0.out.trans hx12; obtain ⟨f3', _⟩ := (Ext.refl _).box (hx13.heap Ha0.out); have ho3' := ho3; obtain ⟨va, vc, hv3, _⟩ := ho3.slAt; subst hv3; clear f1' f2') | (go_at_call 47; refine (Hso.out _ _ (Hx0.out.trans (hx13.alloc _)) (alloc_at _ _ _ rfl)).mono ?_; rintro e w4 ⟨rfl, hx4⟩; have hx14 := (hx13.alloc _).trans hx4; have hr2 := hx14.heap Hr0.out; obtain ⟨q2, r2⟩ := (Ext.refl _).box hr2; have hw2 := Hx0.out.trans hx14; have hsz := hw2.size; have hlr := heap_lt hr2; have ho4 := ho3.ext (((Ext.refl _).alloc _).trans hx4); clear f3'))
          refine bodyPost_ret (results_cell_tmp (P := Tryz.prog) (fn := Tryz.f24) rfl _ _ (w.heap.size + 1 + 1) 24 #[.slice none 0 0] (0, 0) _ rfl (by simp only [heap_setCell_box, hr2, Option.map_some, setIn_cells, List.setIfInBounds_toArray, List.set_cons_zero, List.set_cons_succ]) Tryz.underlying24 rfl (by kernel_rfl)) rfl ?_
          exact Hfin.out _ (hw2.setCell (p := ⟨w.heap.size + 1 + 1, 0, none⟩) (by simp only; omega) _)
        | true =>
          have hfin := hok ML (by rw [hdef, hao, hto, hfi, hsm]; rfl)
          rw [hsm] at hso
          have Hch := Lib.hid hch
          have Hfin := Lib.hid hfin
          have Hgo := Lib.hid hgo
          have Hmv := Lib.hid hmv
          have Hso := Lib.hid hso
          clear hch hfin hgo hmv hso
          clear hl herr hok hdef
          go_enter Tryz.func24, Tryz.ntmps24
          go_wp2_with (first | (go_at_call 45; refine (Hch.out _ Hx0.out).mono ?_; rintro e w1 ⟨rfl, hx1⟩; obtain ⟨f1, _⟩ := (Ext.refl _).box (hx1.heap Hs0.out); clear hW0 z0) | (go_at_call 35; refine (Hgo.out _).mono ?_; rintro e w2 ⟨rfl, hx2⟩; have hx12 := hx1.trans hx2; obtain ⟨f1', _⟩ := (Ext.refl _).box (hx12.heap Hs0.out); obtain ⟨f2', _⟩ := (Ext.refl _).box (hx12.heap Ha0.out); clear f1) | (go_at_call 38; refine (Hmv.out _ (Hx0.out.trans hx12)).mono ?_; rintro e w3 ⟨v3, rfl, hx3, ho3⟩; have hx13 := hx12.trans hx3; have hx03 := Hx0.out.trans hx12; obtain ⟨f3', _⟩ := (Ext.refl _).box (hx13.heap Ha0.out); have ho3' := ho3; obtain ⟨va, vc, hv3, _⟩ := ho3.slAt; subst hv3; clear f1' f2') | (go_at_call 47; refine (Hso.out _ _ (Hx0.out.trans (hx13.alloc _)) (alloc_at _ _ _ rfl)).mono ?_; rintro e w4 ⟨rfl, hx4⟩; have hx14 := (hx13.alloc _).trans hx4; have hr2 := hx14.heap Hr0.out; obtain ⟨q2, r2⟩ := (Ext.refl _).box hr2; have hw2 := Hx0.out.trans hx14; have hsz := hw2.size; have hlr := heap_lt hr2; have ho4 := ho3.ext (((Ext.refl _).alloc _).trans hx4); clear f3'))
          refine bodyPost_ret (results_cell_tmp (P := Tryz.prog) (fn := Tryz.f24) rfl _ _ (w.heap.size + 1 + 1) 24 #[.slice va (halfRows ML).length vc] (0, 0) _ rfl (by simp only [heap_setCell_box, hr2, Option.map_some, setIn_cells, List.setIfInBounds_toArray, List.set_cons_zero, List.set_cons_succ]) Tryz.underlying24 rfl (by kernel_rfl)) rfl ?_
          have hs12 := hx12.size
          exact Hfin.out _ _ (hw2.setCell (p := ⟨w.heap.size + 1 + 1, 0, none⟩) (by simp only; omega) _) ((owns_set ho4 (by omega)).mono hx03.size)
end Go.Proofs.YtcoelhpmkhimpaaGreat

/- The reference: SameArea, SameInts. -/
namespace Go.Proofs.YtcoelhpmkhimpaaGreat
open Go.RowKit
set_option linter.unusedVariables false
set_option linter.unusedSimpArgs false
theorem list_ne_at {α : Type} {l m : List α} {k : Nat} {x y : α} (h1 : l[k]? = some x) (h2 : m[k]? = some y) (h : x ≠ y) : l ≠ m := by
  rintro rfl
  rw [h1] at h2
  exact h (Option.some.inj h2)
theorem list_eq_of {α : Type} {l m : List α} (hn : l.length = m.length) (h : ∀ j x y, j < l.length → l[j]? = some x → m[j]? = some y → x = y) : l = m := by
  refine List.ext_getElem? fun j => ?_
  rcases Nat.lt_or_ge j l.length with hj | hj
  · have hm : j < m.length := by omega
    rw [List.getElem?_eq_getElem hj, List.getElem?_eq_getElem hm]
    congr 1
    exact h j _ _ hj (List.getElem?_eq_getElem hj) (List.getElem?_eq_getElem hm)
  · rw [List.getElem?_eq_none hj, List.getElem?_eq_none (by omega)]
set_option maxRecDepth 100000 in
set_option maxHeartbeats 4000000 in
theorem sameArea_any (a b : Option Addr) (n m ca cb : Nat) (l k : List Half) (w : World) (hl : HalvesAt w a n l) (hk : HalvesAt w b m k) (hn : n ≤ 100000) : Calls Tryz.prog 26 #[.agg #[.slice a n ca], .agg #[.slice b m cb]] w fun e w' => e = .returned (.bool (decide (l = k))) ∧ Ext w w' := by
  have h1 := hl.1
  have h2 := hk.1
  by_cases hnm : n = m
  case neg =>
    have hB : ((n : Int) != (m : Int)) = true := by rw [bne_iff_ne]; omega
    have hB' : (n != m) = true := by rw [bne_iff_ne]; exact hnm
    have hne : decide (l = k) = false := by rw [decide_eq_false_iff_not]; intro e; rw [e] at h1; omega
    rw [hne]
    go_enter Tryz.func26, Tryz.ntmps26
    go_wp2_with fail
    go_ret
    exact ⟨rfl, ((Ext.refl _).alloc _).alloc _⟩
  case pos =>
    subst hnm
    have hB : ((n : Int) != (n : Int)) = false := by simp
    obtain ⟨R, hR⟩ : ∃ R, decide (l = k) = R := ⟨_, rfl⟩
    rw [hR]
    have hb1 := heap_alloc_new w (.cells #[.slice a n ca] 24)
    obtain ⟨W0, hW0⟩ : ∃ W0, (w.alloc (.cells #[.slice a n ca] 24)).alloc (.cells #[.slice b n cb] 24) = W0 := ⟨_, rfl⟩
    have hx0 : Ext w W0 := by rw [← hW0]; exact ((Ext.refl w).alloc _).alloc _
    have hb1 : W0.heap[w.heap.size]? = some (.cells #[.slice a n ca] 24 (0, 0)) := by rw [← hW0]; exact ((Ext.refl _).alloc _).heap (heap_alloc_new w (.cells #[.slice a n ca] 24))
    have hb2 : W0.heap[w.heap.size + 1]? = some (.cells #[.slice b n cb] 24 (0, 0)) := by rw [← hW0]; exact alloc_at _ _ _ (by simp)
    obtain ⟨z0, _⟩ := (Ext.refl W0).box hb1
    obtain ⟨z1, _⟩ := (Ext.refl W0).box hb2
    have Hl := Lib.hid hl
    have Hk := Lib.hid hk
    have HR := Lib.hid hR
    have H1 := Lib.hid h1
    have H2 := Lib.hid h2
    have Hx0 := Lib.hid hx0
    have Hb1 := Lib.hid hb1
    have Hb2 := Lib.hid hb2
    clear hl hk hR h1 h2 hx0 hb1 hb2
    go_enter Tryz.func26, Tryz.ntmps26
    go_upto_region 4 with fail
    clear hW0 z0 z1
    go_loopw [5] (fun i wr => ∃ j : Nat, j ≤ n ∧ i = .int .i64 j ∧ Ext W0 wr ∧ ∀ q x y, q < j → l[q]? = some x → k[q]? = some y → x = y) (fun i _ => n - (intOf i).toNat)
    case atStart => exact ⟨0, Nat.zero_le _, rfl, Ext.refl _, fun q x y hq => by omega⟩
    case round =>
      obtain ⟨j, hj, rfl, hx, hall⟩ := hrel
      obtain ⟨e0, _⟩ := hx.box Hb1.out
      obtain ⟨e1, _⟩ := hx.box Hb2.out
      by_cases hlt : j < n
      · have hltB : decide ((j : Int) < (n : Int)) = true := by simp; omega
        obtain ⟨ab, ao, x, rfl, hjx, hab, c0, c1, c2⟩ := (Hl.out.ext (Hx0.out.trans hx)).get j hlt
        obtain ⟨bb, bo, y, rfl, hjy, hbb, d0, d1, d2⟩ := (Hk.out.ext (Hx0.out.trans hx)).get j hlt
        by_cases hxy : x = y
        · have hall' : ∀ q x y, q < j + 1 → l[q]? = some x → k[q]? = some y → x = y := fun q x' y' hq h1 h2 => by
            rcases Nat.lt_or_ge q j with h | h
            · exact hall q x' y' h h1 h2
            · obtain rfl : q = j := by omega
              rw [hjx] at h1
              rw [hjy] at h2
              cases h1
              cases h2
              exact hxy
          have hg1 := hx.heap Hb1.out
          have hg2 := hx.heap Hb2.out
          subst hxy
          have Hx := Lib.hid hx
          have Hall' := Lib.hid hall'
          clear hx hall'
          clear hall hjx hjy
          go_upto_region 6 with fail
          refine wp_region_ext (by kernel_rfl) (by kernel_rfl) (fun f hf hs => ?_)
          have f0 := fun q => (hf q).cell c0
          have f1 := fun q => (hf q).cell c1
          have f2 := fun q => (hf q).cell c2
          have f3 := fun q => (hf q).cell d0
          have f4 := fun q => (hf q).cell d1
          have f5 := fun q => (hf q).cell d2
          have f6 := fun q => ((hf q).box hg1).1
          have f7 := fun q => ((hf q).box hg2).1
          clear hf hs
          repeat (go_big_quiet_step (fail))
          refine wpQuiet_nil ?_
          intro W8 hW8
          clear f0 f1 f2 f3 f4 f5 f6 f7
          go_wp2_with fail
          go_roundw
          case rel => exact ⟨j + 1, by omega, by go_num, Hx.out.trans hW8, Hall'.out⟩
          case measure => simp [intOf]; omega
        · have hr : R = false := by rw [← HR.out, decide_eq_false_iff_not]; exact list_ne_at hjx hjy hxy
          have hg1 := hx.heap Hb1.out
          have hg2 := hx.heap Hb2.out
          obtain ⟨xa, xb, xc⟩ := x
          obtain ⟨ya, yb, yc⟩ := y
          simp only [Half.mk.injEq] at hxy
          simp only at c0 c1 c2 d0 d1 d2
          have hd : xa ≠ ya ∨ (xa = ya ∧ xb ≠ yb) ∨ (xa = ya ∧ xb = yb ∧ xc ≠ yc) := by omega
          have Hx := Lib.hid hx
          have Hr := Lib.hid hr
          clear hx hr
          clear hall hjx hjy hxy
          rcases hd with h | ⟨rfl, h⟩ | ⟨rfl, rfl, h⟩
          · have e0 : (xa == ya) = false := by rw [beq_eq_false_iff_ne]; exact h
            have e1 : decide (xa = ya) = false := decide_eq_false h
            go_upto_region 6 with fail
            refine wp_region_ext (by kernel_rfl) (by kernel_rfl) (fun f hf hs => ?_)
            have f0 := fun q => (hf q).cell c0
            have f1 := fun q => (hf q).cell c1
            have f2 := fun q => (hf q).cell c2
            have f3 := fun q => (hf q).cell d0
            have f4 := fun q => (hf q).cell d1
            have f5 := fun q => (hf q).cell d2
            have f6 := fun q => ((hf q).box hg1).1
            have f7 := fun q => ((hf q).box hg2).1
            clear hf hs
            repeat (go_big_quiet_step (fail))
            refine wpQuiet_nil ?_
            intro W8 hW8
            clear f0 f1 f2 f3 f4 f5 f6 f7
            go_wp2_with fail
            go_ret
            exact ⟨ret_bool Hr.out.symm, (Hx0.out.trans Hx.out).trans hW8⟩
          · have e0 : (xb == yb) = false := by rw [beq_eq_false_iff_ne]; exact h
            have e1 : decide (xb = yb) = false := decide_eq_false h
            go_upto_region 6 with fail
            refine wp_region_ext (by kernel_rfl) (by kernel_rfl) (fun f hf hs => ?_)
            have f0 := fun q => (hf q).cell c0
            have f1 := fun q => (hf q).cell c1
            have f2 := fun q => (hf q).cell c2
            have f3 := fun q => (hf q).cell d0
            have f4 := fun q => (hf q).cell d1
            have f5 := fun q => (hf q).cell d2
            have f6 := fun q => ((hf q).box hg1).1
            have f7 := fun q => ((hf q).box hg2).1
            clear hf hs
            repeat (go_big_quiet_step (fail))
            refine wpQuiet_nil ?_
            intro W8 hW8
            clear f0 f1 f2 f3 f4 f5 f6 f7
            go_wp2_with fail
            go_ret
            exact ⟨ret_bool Hr.out.symm, (Hx0.out.trans Hx.out).trans hW8⟩
          · have e0 : (xc == yc) = false := by rw [beq_eq_false_iff_ne]; exact h
            have e1 : decide (xc = yc) = false := decide_eq_false h
            go_upto_region 6 with fail
            refine wp_region_ext (by kernel_rfl) (by kernel_rfl) (fun f hf hs => ?_)
            have f0 := fun q => (hf q).cell c0
            have f1 := fun q => (hf q).cell c1
            have f2 := fun q => (hf q).cell c2
            have f3 := fun q => (hf q).cell d0
            have f4 := fun q => (hf q).cell d1
            have f5 := fun q => (hf q).cell d2
            have f6 := fun q => ((hf q).box hg1).1
            have f7 := fun q => ((hf q).box hg2).1
            clear hf hs
            repeat (go_big_quiet_step (fail))
            refine wpQuiet_nil ?_
            intro W8 hW8
            clear f0 f1 f2 f3 f4 f5 f6 f7
            go_wp2_with fail
            go_ret
            exact ⟨ret_bool Hr.out.symm, (Hx0.out.trans Hx.out).trans hW8⟩
      · have hltB : decide ((j : Int) < (n : Int)) = false := by simp; omega
        obtain rfl : n = j := by omega
        have hr : R = true := by
          rw [← HR.out, decide_eq_true_eq]
          exact list_eq_of (by rw [H1.out, H2.out]) fun j x y hj => hall j x y (by have := H1.out; omega)
        have Hx := Lib.hid hx
        have Hr := Lib.hid hr
        clear hx hr
        clear hall
        go_wp2_with fail
        go_ret
        exact ⟨ret_bool Hr.out.symm, Hx0.out.trans Hx.out⟩
end Go.Proofs.YtcoelhpmkhimpaaGreat
