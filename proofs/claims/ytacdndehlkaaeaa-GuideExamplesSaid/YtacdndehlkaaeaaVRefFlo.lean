/- The reference: Check, floor, asked; two results that are aggregates. -/
import Derived.Test.YtacdndehlkaaeaaVRefSee
namespace Go.Proofs.Ytacdndehlkaaeaa
open Go.RowKit
set_option linter.unusedVariables false
set_option linter.unusedSimpArgs false
theorem rcheck_any (a : Option Addr) (len cap : Nat) (l : List Half) (w : World) (hl : HalvesAt w a len l) (hlen : len ≤ 100000) : Calls Try.prog 29 #[.agg #[.slice a len cap]] w fun e w' => e = .returned (.int .i64 (checkOf l)) ∧ Ext w w' := by
  have har := fun W (hW : Ext w W) => area_any a len cap l W (hl.ext hW) hlen
  unfold checkOf
  cases h : areaOk l with
  | true =>
    rw [h] at har
    simp only [if_true]
    have Har := Lib.hid har
    clear har
    clear hl h
    go_enter Try.func29, Try.ntmps29
    go_wp2_with (go_at_call 53; refine (Har.out _ ((Ext.refl _).alloc _)).mono ?_; rintro e w1 ⟨rfl, hx1⟩)
    go_ret
    exact ⟨rfl, ((Ext.refl _).alloc _).trans hx1⟩
  | false =>
    rw [h] at har
    simp only [Bool.false_eq_true, if_false]
    have Har := Lib.hid har
    clear har
    clear hl h
    go_enter Try.func29, Try.ntmps29
    go_wp2_with (go_at_call 53; refine (Har.out _ ((Ext.refl _).alloc _)).mono ?_; rintro e w1 ⟨rfl, hx1⟩)
    go_ret
    exact ⟨rfl, ((Ext.refl _).alloc _).trans hx1⟩
theorem rfloor_any (a b : Int) (w : World) (ha0 : -1000000000000000 ≤ a) (ha1 : a ≤ 1000000000000000) (hb0 : 1 ≤ b) (hb1 : b ≤ 1000000000000000) :
    Calls Try.prog 61 #[.int .i64 a, .int .i64 b] w fun e w' => e = .returned (.int .i64 (flo a b)) ∧ w' = w := by
  obtain ⟨n, hn⟩ : ∃ n, a.tdiv b = n := ⟨_, rfl⟩
  obtain ⟨m, hm⟩ : ∃ m, n * b = m := ⟨_, rfl⟩
  have hb2 : b ≠ 0 := by omega
  have key : (m ≤ a → flo a b = n) ∧ (a < m → flo a b = n - 1) ∧ -1000000000000000 ≤ n ∧ n ≤ 1000000000000000 ∧ -2000000000000000 ≤ m ∧ m ≤ 2000000000000000 := by
    unfold flo
    by_cases h : 0 ≤ a
    · have e : a.tdiv b = a / b := Int.tdiv_eq_ediv_of_nonneg h
      rw [e] at hn
      have h1 := Int.ediv_mul_le a hb2
      have h2 := flo_bd (a := a) (b := b) (M := 1000000000000000) (by omega) ha0 ha1
      unfold flo at h2
      have h3 : 0 ≤ a / b := Int.ediv_nonneg h (by omega)
      rw [hn] at h1 h2 h3
      have h4 := Int.mul_nonneg h3 (show 0 ≤ b by omega)
      rw [hm] at h1 h4
      refine ⟨fun _ => hn, fun h' => by omega, by omega, by omega, by omega, by omega⟩
    · obtain ⟨q, hq⟩ : ∃ q, (-a) / b = q := ⟨_, rfl⟩
      have e : a.tdiv b = -q := by
        have := Int.neg_tdiv (a := -a) (b := b)
        rw [Int.neg_neg] at this
        rw [this, Int.tdiv_eq_ediv_of_nonneg (by omega), hq]
      rw [e] at hn
      have h1 := Int.ediv_mul_le (-a) hb2
      have h2 := Int.lt_ediv_add_one_mul_self (-a) (show 0 < b by omega)
      have h3 := flo_bd (a := -a) (b := b) (M := 1000000000000000) (by omega) (by omega) (by omega)
      unfold flo at h3
      rw [hq] at h1 h2 h3
      have e2 : n * b = -(q * b) := by rw [← hn, Int.neg_mul]
      rw [Int.add_mul] at h2
      have e3 : (n - 1) * b = n * b - b := by rw [Int.sub_mul]; omega
      have e4 : (n + 1) * b = n * b + b := by rw [Int.add_mul]; omega
      have h5 : 0 ≤ q := by rw [← hq]; exact Int.ediv_nonneg (by omega) (by omega)
      refine ⟨fun h' => ediv_uniq (by omega) (by omega) (by omega), fun h' => ediv_uniq (by omega) (by omega) (by rw [show n - 1 + 1 = n by omega]; omega), by omega, by omega, by omega, by omega⟩
  obtain ⟨k1, k2, k3, k4, k5, k6⟩ := key
  by_cases h : a < m
  · have hB : decide (a < m) = true := decide_eq_true h
    rw [k2 h]
    clear k1 k2
    go_enter Try.func61, Try.ntmps61
    go_wp2_with fail
    go_ret
    exact ⟨rfl, rfl⟩
  · have hB : decide (a < m) = false := decide_eq_false h
    rw [k1 (by omega)]
    clear k1 k2
    go_enter Try.func61, Try.ntmps61
    go_wp2_with fail
    go_ret
    exact ⟨rfl, rfl⟩
theorem rasked_any (a : Option Addr) (len cap : Nat) (l : List Half) (x y far : Int) (w : World) (hl : HalvesAt w a len l) (hlen : len ≤ 100000) : Calls Try.prog 64 #[.agg #[.slice a len cap], .int .i64 x, .int .i64 y, .int .i64 far] w fun e w' => e = .returned (.int .i64 (askedOf l x y far)) ∧ Ext w w' := by
  have har := fun W (hW : Ext w W) => area_any a len cap l W (hl.ext hW) hlen
  have hwi := within_any
  have hll := hl.1
  have hask : askedOf l x y far = if areaOk l = false then 40 else if (placeOk x && placeOk y && inB far 0 10000000) = false then 2 else if someB l = false then 43 else 0 := rfl
  unfold placeOk at hask
  obtain ⟨R, hR⟩ : ∃ R, askedOf l x y far = R := ⟨_, rfl⟩
  rw [hR] at hask ⊢
  obtain ⟨W0, hW0⟩ : ∃ W0, w.alloc (.cells #[.slice a len cap] 24) = W0 := ⟨_, rfl⟩
  have hx0 : Ext w W0 := by rw [← hW0]; exact (Ext.refl w).alloc _
  have hb0 : W0.heap[w.heap.size]? = some (.cells #[.slice a len cap] 24 (0, 0)) := by rw [← hW0]; exact heap_alloc_new w _
  obtain ⟨z0, _⟩ := (Ext.refl W0).box hb0
  cases h : areaOk l with
  | false =>
    rw [if_pos h] at hask
    rw [h] at har
    have Har := Lib.hid har
    have Hx0 := Lib.hid hx0
    have Hb0 := Lib.hid hb0
    have Hask := Lib.hid hask
    clear har hx0 hb0 hask
    clear hl h hwi
    go_enter Try.func64, Try.ntmps64
    go_wp2_with (go_at_call 53; refine (Har.out _ Hx0.out).mono ?_; rintro e w1 ⟨rfl, hx1⟩)
    go_ret
    exact ⟨ret_int Hask.out.symm, Hx0.out.trans hx1⟩
  | true =>
    rw [if_neg (by rw [h]; simp)] at hask
    have hA := areaOk_iff.1 h
    have hlen4 := hA.len
    rw [h] at har
    have hrc := fun W (hW : Ext w W) => rcorners_any a len cap l W (hl.ext hW) hA.each (by omega)
    obtain ⟨K, hK⟩ : ∃ K, (cornersOf l).length = K := ⟨_, rfl⟩
    unfold CornersPost at hrc
    rw [hK] at hrc
    have hemp := empty_of_some hK
    have Har := Lib.hid har
    have Hx0 := Lib.hid hx0
    have Hb0 := Lib.hid hb0
    have Hwi := Lib.hid hwi
    have Hrc := Lib.hid hrc
    have HK := Lib.hid hK
    clear har hx0 hb0 hwi hrc hK
    clear hl h hA
    cases h1 : inB x (-10000000) 10000000 with
    | false =>
      rw [h1, if_pos (by simp)] at hask
      have Hask := Lib.hid hask
      clear hask
      clear hemp
      go_enter Try.func64, Try.ntmps64
      go_wp2_with (first | (go_at_call 53; refine (Har.out _ Hx0.out).mono ?_; rintro e w1 ⟨rfl, hx1⟩; obtain ⟨z1, _⟩ := hx1.box Hb0.out; clear hW0 z0) | (go_at_call 75; refine (Hwi.out _ _ _ _).mono ?_; rintro e w2 ⟨rfl, hw2⟩; subst w2) | (go_at_call 55; refine (Hrc.out _ (Hx0.out.trans hx1)).mono ?_; rintro e w3 ⟨ra, rc, rfl, hx3, _⟩))
      go_ret
      exact ⟨ret_int Hask.out.symm, Hx0.out.trans hx1⟩
    | true =>
      cases h2 : inB y (-10000000) 10000000 with
      | false =>
        rw [h1, h2, if_pos (by simp)] at hask
        have Hask := Lib.hid hask
        clear hask
        clear hemp
        go_enter Try.func64, Try.ntmps64
        go_wp2_with (first | (go_at_call 53; refine (Har.out _ Hx0.out).mono ?_; rintro e w1 ⟨rfl, hx1⟩; obtain ⟨z1, _⟩ := hx1.box Hb0.out; clear hW0 z0) | (go_at_call 75; refine (Hwi.out _ _ _ _).mono ?_; rintro e w2 ⟨rfl, hw2⟩; subst w2) | (go_at_call 55; refine (Hrc.out _ (Hx0.out.trans hx1)).mono ?_; rintro e w3 ⟨ra, rc, rfl, hx3, _⟩))
        go_ret
        exact ⟨ret_int Hask.out.symm, Hx0.out.trans hx1⟩
      | true =>
        cases h3 : inB far 0 10000000 with
        | false =>
          rw [h1, h2, h3, if_pos (by simp)] at hask
          have Hask := Lib.hid hask
          clear hask
          clear hemp
          go_enter Try.func64, Try.ntmps64
          go_wp2_with (first | (go_at_call 53; refine (Har.out _ Hx0.out).mono ?_; rintro e w1 ⟨rfl, hx1⟩; obtain ⟨z1, _⟩ := hx1.box Hb0.out; clear hW0 z0) | (go_at_call 75; refine (Hwi.out _ _ _ _).mono ?_; rintro e w2 ⟨rfl, hw2⟩; subst w2) | (go_at_call 55; refine (Hrc.out _ (Hx0.out.trans hx1)).mono ?_; rintro e w3 ⟨ra, rc, rfl, hx3, _⟩))
          go_ret
          exact ⟨ret_int Hask.out.symm, Hx0.out.trans hx1⟩
        | true =>
          rw [h1, h2, h3, if_neg (by simp)] at hask
          cases hs : someB l with
          | false =>
            rw [if_pos hs] at hask
            have hKB := hemp false hs
            rw [Bool.not_false] at hKB
            have Hask := Lib.hid hask
            clear hask
            clear hemp hs
            go_enter Try.func64, Try.ntmps64
            go_wp2_with (first | (go_at_call 53; refine (Har.out _ Hx0.out).mono ?_; rintro e w1 ⟨rfl, hx1⟩; obtain ⟨z1, _⟩ := hx1.box Hb0.out; clear hW0 z0) | (go_at_call 75; refine (Hwi.out _ _ _ _).mono ?_; rintro e w2 ⟨rfl, hw2⟩; subst w2) | (go_at_call 55; refine (Hrc.out _ (Hx0.out.trans hx1)).mono ?_; rintro e w3 ⟨ra, rc, rfl, hx3, _⟩))
            go_ret
            exact ⟨ret_int Hask.out.symm, (Hx0.out.trans hx1).trans hx3⟩
          | true =>
            rw [if_neg (by rw [hs]; simp)] at hask
            have hKB := hemp true hs
            rw [Bool.not_true] at hKB
            have Hask := Lib.hid hask
            clear hask
            clear hemp hs
            go_enter Try.func64, Try.ntmps64
            go_wp2_with (first | (go_at_call 53; refine (Har.out _ Hx0.out).mono ?_; rintro e w1 ⟨rfl, hx1⟩; obtain ⟨z1, _⟩ := hx1.box Hb0.out; clear hW0 z0) | (go_at_call 75; refine (Hwi.out _ _ _ _).mono ?_; rintro e w2 ⟨rfl, hw2⟩; subst w2) | (go_at_call 55; refine (Hrc.out _ (Hx0.out.trans hx1)).mono ?_; rintro e w3 ⟨ra, rc, rfl, hx3, _⟩))
            go_ret
            exact ⟨ret_int Hask.out.symm, (Hx0.out.trans hx1).trans hx3⟩
/-- three results, the first two aggregates in variables of their own -/
theorem results_cells_tmp {P : Program} {fn : Func} {p p' t : Tmp} {ty ty' : TypeId} (h : fn.results = #[.cell p ty, .cell p' ty', .tmp t]) (tmps : Array Value) (w : World) (g g' : Nat) (T T' : TypeId) (cs cs' : Array Value) (fr fr' : Nat × Nat) (d d' : TypeDesc)
    (hp : tmps.getD p undef = .pointer (some ⟨g, 0, none⟩)) (hg : w.heap[g]? = some (.cells cs T fr)) (hu : P.underlying ty = some d) (hd : (match d with | .struct _ | .array _ _ => true | _ => false) = true) (hi : (P.info? ty).map (·.size) = some cs.size)
    (hp' : tmps.getD p' undef = .pointer (some ⟨g', 0, none⟩)) (hg' : w.heap[g']? = some (.cells cs' T' fr')) (hu' : P.underlying ty' = some d') (hd' : (match d' with | .struct _ | .array _ _ => true | _ => false) = true) (hi' : (P.info? ty').map (·.size) = some cs'.size) :
    (results fn tmps).run P w = .ok (.tuple #[.agg cs, .agg cs', tmps.getD t undef]) w := by
  have e : tmps[p]?.getD undef = .pointer (some ⟨g, 0, none⟩) := by simpa using hp
  have e' : tmps[p']?.getD undef = .pointer (some ⟨g', 0, none⟩) := by simpa using hp'
  simp [results, h, e, e', asAddr, run_loadVar_row w g T ty cs fr d hg hu hd hi, run_loadVar_row w g' T' ty' cs' fr' d' hg' hu' hd' hi']
end Go.Proofs.Ytacdndehlkaaeaa
