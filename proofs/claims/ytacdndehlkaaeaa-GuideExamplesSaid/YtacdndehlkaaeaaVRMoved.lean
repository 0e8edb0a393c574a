/- The reference: halves after a trek. -/
import Derived.Test.YtacdndehlkaaeaaVMoved
namespace Go.Proofs.Ytacdndehlkaaeaa
open Go.RowKit
set_option linter.unusedVariables false
set_option linter.unusedSimpArgs false
theorem fit_no {X Y : Span} {l : List Half} {j : Nat} {h : Half} (hj : l[j]? = some h) (he : edgeOk (movedH X Y h).c = false) : fitB (l.map (movedH X Y)) = false := by
  unfold fitB
  rw [List.all_eq_false]
  exact ⟨_, List.mem_map.2 ⟨h, List.mem_of_getElem? hj, rfl⟩, by rw [he]; simp⟩
theorem fit_yes {X Y : Span} {l : List Half} {n : Nat} (hn : l.length = n) (h : ∀ q x, q < n → l[q]? = some x → edgeOk (movedH X Y x).c = true) : fitB (l.map (movedH X Y)) = true := by
  unfold fitB
  rw [List.all_eq_true]
  intro x hx
  obtain ⟨y, hy, rfl⟩ := List.mem_map.1 hx
  obtain ⟨j, hj, rfl⟩ := List.mem_iff_getElem.1 hy
  exact h j _ (by omega) (List.getElem?_eq_getElem hj)
def RMovedPost (l : List Half) (t : Trek) (w : World) (e : Ending) (w' : World) : Prop :=
  (fitB (movedOf l t) = true ∧ ∃ a n c, e = .returned (.tuple #[.slice a n c, .bool true]) ∧ n ≤ c ∧ c ≤ maxLen ∧ Ext w w' ∧ HalvesAt w' a n (movedOf l t) ∧ From w.heap.size a) ∨ (fitB (movedOf l t) = false ∧ e = .returned (.tuple #[.slice none 0 0, .bool false]) ∧ Ext w w')
def mvd (X Y : Span) (l : List Half) (j : Nat) : List Half := (l.take j).map (movedH X Y)
theorem take_map_succ {X Y : Span} {l : List Half} {j : Nat} {h : Half} (hj : l[j]? = some h) : mvd X Y l (j + 1) = mvd X Y l j ++ [movedH X Y h] := by
  unfold mvd
  rw [List.take_add_one, hj, Option.toList_some, List.map_append, List.map_cons, List.map_nil]
set_option maxRecDepth 100000 in
set_option maxHeartbeats 8000000 in
theorem rmoved_any (a : Option Addr) (len cap : Nat) (l : List Half) (t : Trek) (w : World) (hl : HalvesAt w a len l) (hlen : len ≤ 1000) (hh : ∀ h ∈ l, HalfIn h) (ht : trekOk t = true) :
    Calls Try.prog 71 #[.slice a len cap, t.val] w (RMovedPost l t w) := by
  have hll := hl.1
  have htk := ht
  simp only [trekOk, Bool.and_eq_true] at htk
  obtain ⟨⟨td, te⟩, tn⟩ := htk
  have hbx := times_bd td te
  have hby := times_bd td tn
  have hmo : movedOf l t = l.map (movedH (times t.d t.e) (times t.d t.n)) := rfl
  have hsp : ∀ (s : Span) lo hi, spanOk s lo hi = true → lo ≤ s.lo ∧ s.lo ≤ s.hi ∧ s.hi ≤ hi := fun s lo hi h => by
    simp only [spanOk, Bool.and_eq_true, decide_eq_true_eq] at h
    omega
  have s1 := hsp _ _ _ td
  have s2 := hsp _ _ _ te
  have s3 := hsp _ _ _ tn
  have ht1 := fun W => rtimes_any t.d t.e W (by omega) (by omega) (by omega) (by omega)
  have ht2 := fun W => rtimes_any t.d t.n W (by omega) (by omega) (by omega) (by omega)
  clear hsp
  obtain ⟨⟨d0, d1⟩, ⟨e0, e1⟩, ⟨n0, n1⟩⟩ := t
  simp only at ht1 ht2 hbx hby hmo
  generalize times ⟨d0, d1⟩ ⟨e0, e1⟩ = X at *
  generalize times ⟨d0, d1⟩ ⟨n0, n1⟩ = Y at *
  obtain ⟨x0, x1⟩ := X
  obtain ⟨y0, y1⟩ := Y
  have hfno := fun j h => fit_no (X := ⟨x0, x1⟩) (Y := ⟨y0, y1⟩) (l := l) (j := j) (h := h)
  have hfyes := fit_yes (X := ⟨x0, x1⟩) (Y := ⟨y0, y1⟩) hll
  obtain ⟨Q, hQ⟩ : ∃ Q, RMovedPost l ⟨⟨d0, d1⟩, ⟨e0, e1⟩, ⟨n0, n1⟩⟩ w = Q := ⟨_, rfl⟩
  have hbad : fitB (l.map (movedH ⟨x0, x1⟩ ⟨y0, y1⟩)) = false → ∀ w', Ext w w' → Q (.returned (.tuple #[.slice none 0 0, .bool false])) w' := fun h w' hx => by
    rw [← hQ]
    unfold RMovedPost
    rw [hmo]
    exact .inr ⟨h, rfl, hx⟩
  have hgood : fitB (l.map (movedH ⟨x0, x1⟩ ⟨y0, y1⟩)) = true → ∀ v w', Ext w w' → Owns w' w.heap.size 47 3 v (halfRows (l.map (movedH ⟨x0, x1⟩ ⟨y0, y1⟩))) → Q (.returned (.tuple #[v, .bool true])) w' := fun h v w' hx ho => by
    rw [← hQ]
    unfold RMovedPost
    rw [hmo]
    obtain ⟨a, c, rfl, h1, h2, h3, h4⟩ := halves_of_owns ho
    exact .inl ⟨h, a, _, c, rfl, h2, h3, hx, h4, h1⟩
  rw [hQ]
  clear hQ
  unfold Span.val at ht1 ht2
  unfold Trek.val
  simp only at ht1 ht2 hbx hby ⊢
  have hwi := within_any
  obtain ⟨W0, hW0⟩ : ∃ W0, w.alloc (.cells #[.int .i64 d0, .int .i64 d1, .int .i64 e0, .int .i64 e1, .int .i64 n0, .int .i64 n1] 63) = W0 := ⟨_, rfl⟩
  have hx0 : Ext w W0 := by rw [← hW0]; exact (Ext.refl w).alloc _
  have hb0 : W0.heap[w.heap.size]? = some (.cells #[.int .i64 d0, .int .i64 d1, .int .i64 e0, .int .i64 e1, .int .i64 n0, .int .i64 n1] 63 (0, 0)) := by rw [← hW0]; exact heap_alloc_new w _
  have Hx0 := Lib.hid hx0
  have Hb0 := Lib.hid hb0
  have Hl := Lib.hid hl
  have Hll := Lib.hid hll
  have Hh := Lib.hid hh
  have Ht1 := Lib.hid ht1
  have Ht2 := Lib.hid ht2
  have Hfno := Lib.hid hfno
  have Hfyes := Lib.hid hfyes
  have Hbad := Lib.hid hbad
  have Hgood := Lib.hid hgood
  have Hwi := Lib.hid hwi
  clear hx0 hb0 hl hll hh ht1 ht2 hfno hfyes hbad hgood hwi
  clear hmo ht td te tn s1 s2 s3
  go_enter Try.func71, Try.ntmps71
  go_upto_region 1 with fail
  clear hW0
  refine wp_region_plan (.take [0, 1, 2, 3, 5, 6, 7, 8] (.call 4 (.call 9 (.two 10 (.one 11 (.fin (.one 12 (.one 13 .done)))) 11 (.one 10 (.fin (.one 12 (.one 13 .done)))))))) [12, 13] (Ext W0) _ (by kernel_rfl) (by kernel_rfl) rfl (EC.ext W0) ((Ext.refl _).drew) ?_
  simp only [planOf, treeOf, oneOp, twoOp, opsOf, consOp, callOC, oneOC, twoOC, List.getElem?_toArray, List.getElem?_cons_succ, List.getElem?_cons_zero]
  intro ι _ f hf
  have f0 := fun q => ((hf q).box Hb0.out).1
  clear hf
  repeat (go_big_quiet_step (fail))
  refine wpQuiet_nil ?_
  clear f0
  refine wpOC_call (args := #[.agg #[.int .i64 d0, .int .i64 d1], .agg #[.int .i64 e0, .int .i64 e1]]) (v := .agg #[.int .i64 x0, .int .i64 x1]) rfl rfl (enters_of Try.func94 (by kernel_rfl) rfl) (by kernel_rfl) (fun V hV => Ht1.out V) ?_
  simp only [Act.put, List.setIfInBounds_toArray, List.set_cons_succ, List.set_cons_zero]
  refine wpOC_call (args := #[.agg #[.int .i64 d0, .int .i64 d1], .agg #[.int .i64 n0, .int .i64 n1]]) (v := .agg #[.int .i64 y0, .int .i64 y1]) rfl rfl (enters_of Try.func94 (by kernel_rfl) rfl) (by kernel_rfl) (fun V hV => Ht2.out V) ?_
  simp only [Act.put, List.setIfInBounds_toArray, List.set_cons_succ, List.set_cons_zero]
  refine wpOC_two ?_
  apply join_orders (F := fun p10 p11 W' => Ext W0 W' ∧ W0.heap.size ≤ p10 ∧ W0.heap.size ≤ p11 ∧ W'.heap[p10]? = some (.cells #[.int .i64 x0, .int .i64 x1] 28 (0, 0)) ∧ W'.heap[p11]? = some (.cells #[.int .i64 y0, .int .i64 y1] 28 (0, 0)))
  · intro G Wa hxa
    go_wp2_with fail
    have hpa := hxa.size
    have haa := heap_alloc_new Wa (.cells #[.int .i64 0, .int .i64 0] 28)
    have hxa' := hxa.alloc (.cells #[.int .i64 0, .int .i64 0] 28)
    generalize Wa.alloc (.cells #[.int .i64 0, .int .i64 0] 28) = Wa' at *
    generalize Wa.heap.size = pa at *
    refine ⟨fun V => Ext W0 V ∧ V.heap[pa]? = some (.cells #[.int .i64 0, .int .i64 0] 28 (0, 0)), (EC.ext W0).and (EC.heap pa _), fun _ h => h.1, ⟨hxa', haa⟩, ?_⟩
    clear hxa hxa' haa Wa Wa'
    rintro Wb ⟨hxb, hab⟩
    go_wp2_with fail
    have hpb := hxb.size
    have hlb := heap_lt hab
    have hbb := heap_alloc_new Wb (.cells #[.int .i64 0, .int .i64 0] 28)
    have hxb' := hxb.alloc (.cells #[.int .i64 0, .int .i64 0] 28)
    have hab' := ((Ext.refl Wb).alloc (.cells #[.int .i64 0, .int .i64 0] 28)).heap hab
    have hne : pa ≠ Wb.heap.size := by omega
    clear hlb
    generalize Wb.alloc (.cells #[.int .i64 0, .int .i64 0] 28) = Wb' at *
    generalize Wb.heap.size = pb at *
    refine ⟨fun V => (Ext W0 V ∧ V.heap[pa]? = some (.cells #[.int .i64 0, .int .i64 0] 28 (0, 0))) ∧ V.heap[pb]? = some (.cells #[.int .i64 0, .int .i64 0] 28 (0, 0)), ((EC.ext W0).and (EC.heap pa _)).and (EC.heap pb _), fun _ h => h.1, ⟨⟨hxb', hab'⟩, hbb⟩, ?_⟩
    clear hxb hxb' hab hab' hbb Wb Wb'
    rintro Wc ⟨⟨hxc, hac⟩, hbc⟩
    refine wpOT_one ?_
    obtain ⟨k0, k1⟩ := (Ext.refl Wc).box hac
    obtain ⟨j0, j1⟩ := (Ext.refl Wc).box hbc
    have hla := heap_lt hac
    have hlb := heap_lt hbc
    go_wp2_with fail
    refine wpOT_one ?_
    go_wp2_with fail
    refine wpOT_done ?_
    have hc4 := set4_at (a := .int .i64 x0) (b := .int .i64 x1) (c := .int .i64 y0) (d := .int .i64 y1) hac hbc hne
    exact G _ _ _ ⟨set2_ext (set2_ext hxc hpa) hpb, hpa, hpb, hc4⟩
  · intro G Wa hxa
    go_wp2_with fail
    have hpa := hxa.size
    have haa := heap_alloc_new Wa (.cells #[.int .i64 0, .int .i64 0] 28)
    have hxa' := hxa.alloc (.cells #[.int .i64 0, .int .i64 0] 28)
    generalize Wa.alloc (.cells #[.int .i64 0, .int .i64 0] 28) = Wa' at *
    generalize Wa.heap.size = pa at *
    refine ⟨fun V => Ext W0 V ∧ V.heap[pa]? = some (.cells #[.int .i64 0, .int .i64 0] 28 (0, 0)), (EC.ext W0).and (EC.heap pa _), fun _ h => h.1, ⟨hxa', haa⟩, ?_⟩
    clear hxa hxa' haa Wa Wa'
    rintro Wb ⟨hxb, hab⟩
    go_wp2_with fail
    have hpb := hxb.size
    have hlb := heap_lt hab
    have hbb := heap_alloc_new Wb (.cells #[.int .i64 0, .int .i64 0] 28)
    have hxb' := hxb.alloc (.cells #[.int .i64 0, .int .i64 0] 28)
    have hab' := ((Ext.refl Wb).alloc (.cells #[.int .i64 0, .int .i64 0] 28)).heap hab
    have hne : pa ≠ Wb.heap.size := by omega
    clear hlb
    generalize Wb.alloc (.cells #[.int .i64 0, .int .i64 0] 28) = Wb' at *
    generalize Wb.heap.size = pb at *
    refine ⟨fun V => (Ext W0 V ∧ V.heap[pa]? = some (.cells #[.int .i64 0, .int .i64 0] 28 (0, 0))) ∧ V.heap[pb]? = some (.cells #[.int .i64 0, .int .i64 0] 28 (0, 0)), ((EC.ext W0).and (EC.heap pa _)).and (EC.heap pb _), fun _ h => h.1, ⟨⟨hxb', hab'⟩, hbb⟩, ?_⟩
    clear hxb hxb' hab hab' hbb Wb Wb'
    rintro Wc ⟨⟨hxc, hac⟩, hbc⟩
    refine wpOT_one ?_
    obtain ⟨k0, k1⟩ := (Ext.refl Wc).box hac
    obtain ⟨j0, j1⟩ := (Ext.refl Wc).box hbc
    have hla := heap_lt hac
    have hlb := heap_lt hbc
    go_wp2_with fail
    refine wpOT_one ?_
    go_wp2_with fail
    refine wpOT_done ?_
    have hc4 := set4_at (a := .int .i64 x0) (b := .int .i64 x1) (c := .int .i64 y0) (d := .int .i64 y1) hbc hac (Ne.symm hne)
    exact G _ _ _ ⟨set2_ext (set2_ext hxc hpb) hpa, hpb, hpa, hc4⟩
  rintro p6 p7 W2 ⟨hx2, hp6, hp7, hb6, hb7⟩
  have hxw2 := Hx0.out.trans hx2
  have hs2 := hxw2.size
  have Hxw2 := Lib.hid hxw2
  have Hb6 := Lib.hid hb6
  have Hb7 := Lib.hid hb7
  clear hxw2 hb6 hb7
  clear Ht1 Ht2 Hb0 hx2
  go_upto_region 4 with fail
  go_loopw [8, 9] (fun v i wr => ∃ j : Nat, j ≤ len ∧ i = .int .i64 j ∧ Ext W2 wr ∧ Owns wr W2.heap.size 47 3 v (halfRows (mvd ⟨x0, x1⟩ ⟨y0, y1⟩ l j)) ∧ ∀ q x, q < j → l[q]? = some x → edgeOk (movedH ⟨x0, x1⟩ ⟨y0, y1⟩ x).c = true) (fun _ i _ => len - (intOf i).toNat)
  case atStart => exact ⟨0, Nat.zero_le _, rfl, Ext.refl _, Owns.nil _ _ _ _, fun q x hq => by omega⟩
  case round =>
    obtain ⟨j, hj, rfl, hx, ho, hall⟩ := hrel
    by_cases hlt : j < len
    · have hltB : decide ((j : Int) < (len : Int)) = true := by simp; omega
      obtain ⟨ab, ao, h, rfl, hhj, hab, c0, c1, c2⟩ := (Hl.out.ext (Hxw2.out.trans hx)).get j hlt
      obtain ⟨k0, k1, l0, l1, _, n0', n1'⟩ := Hh.out h (List.mem_of_getElem? hhj)
      have m1 := mul_le (A := 1000) (B := 6000000) k0 k1 hbx.1 hbx.2.1
      have m2 := mul_le (A := 1000) (B := 6000000) k0 k1 hbx.2.2.1 hbx.2.2.2
      have m3 := mul_le (A := 1000) (B := 6000000) l0 l1 hby.1 hby.2.1
      have m4 := mul_le (A := 1000) (B := 6000000) l0 l1 hby.2.2.1 hby.2.2.2
      simp only [Int.reduceMul, Int.reduceNeg] at m1 m2 m3 m4
      have hmv : movedH ⟨x0, x1⟩ ⟨y0, y1⟩ h = ⟨h.a, h.b, h.c + (max (h.a * x0) (h.a * x1) + max (h.b * y0) (h.b * y1))⟩ := rfl
      rw [← if_max, ← if_max] at hmv
      obtain ⟨T1, t1⟩ : ∃ P, h.a * x0 = P := ⟨_, rfl⟩
      obtain ⟨T2, t2⟩ : ∃ P, h.a * x1 = P := ⟨_, rfl⟩
      obtain ⟨T3, t3⟩ : ∃ P, h.b * y0 = P := ⟨_, rfl⟩
      obtain ⟨T4, t4⟩ : ∃ P, h.b * y1 = P := ⟨_, rfl⟩
      rw [t1, t2, t3, t4] at hmv
      rw [t1] at m1
      rw [t2] at m2
      rw [t3] at m3
      rw [t4] at m4
      have hM1 : (if T1 < T2 then T2 else T1) ≤ 6000000000 ∧ -6000000000 ≤ (if T1 < T2 then T2 else T1) := by split <;> omega
      have hM2 : (if T3 < T4 then T4 else T3) ≤ 6000000000 ∧ -6000000000 ≤ (if T3 < T4 then T4 else T3) := by split <;> omega
      obtain ⟨M1, hM1e⟩ : ∃ M, (if T1 < T2 then T2 else T1) = M := ⟨_, rfl⟩
      obtain ⟨M2, hM2e⟩ : ∃ M, (if T3 < T4 then T4 else T3) = M := ⟨_, rfl⟩
      rw [hM1e] at hmv hM1
      rw [hM2e] at hmv hM2
      obtain ⟨z6, _⟩ := hx.box Hb6.out
      obtain ⟨z7, _⟩ := hx.box Hb7.out
      have hl6 := heap_lt (hx.heap Hb6.out)
      have hl7 := heap_lt (hx.heap Hb7.out)
      have hsucc := take_map_succ (X := ⟨x0, x1⟩) (Y := ⟨y0, y1⟩) hhj
      have hed : edgeOk (movedH ⟨x0, x1⟩ ⟨y0, y1⟩ h).c = inB (h.c + (M1 + M2)) (-100000000000) 100000000000 := by rw [hmv]; rfl
      rw [hmv] at hsucc
      have hno := Hfno.out j h hhj
      have hnext : edgeOk (movedH ⟨x0, x1⟩ ⟨y0, y1⟩ h).c = true → ∀ q x, q < j + 1 → l[q]? = some x → edgeOk (movedH ⟨x0, x1⟩ ⟨y0, y1⟩ x).c = true := fun e q y hq h1 => by
        rcases Nat.lt_or_ge q j with h' | h'
        · exact hall q y h' h1
        · obtain rfl : q = j := by omega
          rw [hhj] at h1
          cases h1
          exact e
      rw [hed] at hno hnext
      have hxw := Hxw2.out.trans hx
      have Hx := Lib.hid hx
      have Ho := Lib.hid ho
      have Hsucc := Lib.hid hsucc
      have Hno := Lib.hid hno
      have Hnext := Lib.hid hnext
      have Hhj := Lib.hid hhj
      have Hxw := Lib.hid hxw
      clear hx ho hsucc hno hnext hhj hxw
      clear hmv hed hall
      cases hin : inB (h.c + (M1 + M2)) (-100000000000) 100000000000 with
      | false =>
        have hb := Hbad.out (Hno.out hin)
        have Hb := Lib.hid hb
        clear hb
        go_wp2_with (go_at_call 75; refine (Hwi.out _ _ _ _).mono ?_; rintro e w5 ⟨rfl, hw5⟩; subst w5)
        exact Hb.out _ (Hxw.out.alloc _)
      | true =>
        have hn := Hnext.out hin
        have hvn : (halfRows (mvd ⟨x0, x1⟩ ⟨y0, y1⟩ l j)).length = j := by simp [halfRows, mvd]; have := Hll.out; omega
        obtain ⟨va, vc, hv, _⟩ := Ho.out.slAt
        rw [hvn] at hv
        subst hv
        have Hn := Lib.hid hn
        have Hvn := Lib.hid hvn
        clear hn hvn
        go_wp2_with (first | (go_at_call 75; refine (Hwi.out _ _ _ _).mono ?_; rintro e w5 ⟨rfl, hw5⟩; subst w5) | (at_builtin; refine wpList_app elem22 _ rfl (.tmp 62) (.tmp 64) rfl W2.heap.size _ (halfRows (mvd ⟨x0, x1⟩ ⟨y0, y1⟩ l j)) rfl ((Ho.out.alloc _).alloc _) (some ⟨wr.heap.size + 1, 0, none⟩) 1 1 (halfRows [⟨h.a, h.b, h.c + (M1 + M2)⟩]) rfl rfl (slAt_block (rows := halfRows [⟨h.a, h.b, h.c + (M1 + M2)⟩]) (alloc_at _ _ _ (by simp)) (fun r hr => (halfRows_row _ r hr).1)) (halfRows_row _) ?_ ?_ ?_))
        · rw [Hvn.out]
          omega
        · have := Hx.out.size
          simp
          omega
        · intro v4 w4 ho4 hg4 _
          rw [← halfRows_append, ← Hsucc.out] at ho4
          have hx4 := ((Hx.out.alloc (.cells #[.int .i64 h.a, .int .i64 h.b, .int .i64 (h.c + (M1 + M2))] 47)).alloc (.cells #[.int .i64 h.a, .int .i64 h.b, .int .i64 (h.c + (M1 + M2))] 47)).app ((Ho.out.alloc _).alloc _) hg4
          have Ho4 := Lib.hid ho4
          have Hx4 := Lib.hid hx4
          clear ho4 hx4
          clear hg4
          go_wp2_with fail
          go_roundw
          case rel => exact ⟨j + 1, by omega, by go_num, Hx4.out, Ho4.out, Hn.out⟩
          case measure => simp [intOf]; omega
    · have hltB : decide ((j : Int) < (len : Int)) = false := by simp; omega
      obtain rfl : len = j := by omega
      unfold mvd at ho
      rw [List.take_of_length_le (by have := Hll.out; omega)] at ho
      have hgd := Hgood.out (Hfyes.out hall) u8 wr (Hxw2.out.trans hx) (ho.mono Hxw2.out.size)
      have Hgd := Lib.hid hgd
      clear hgd
      clear ho hx hall
      go_wp2_with fail
      exact Hgd.out
end Go.Proofs.Ytacdndehlkaaeaa
