/- asked and Near of the guide; known and Near of the reference. -/
import Derived.Test.YtacdndehlkaaeaaVStarts
import Derived.Test.YtacdndehlkaaeaaVSee
import Derived.BigQuiet
namespace Go.Proofs.Ytacdndehlkaaeaa
open Go.RowKit
set_option linter.unusedVariables false
set_option linter.unusedSimpArgs false
theorem lists1 {w : World} {b : Nat} {a : Option Addr} {n c : Nat} {l : List Half} (hb : w.heap[b]? = some (.cells #[.slice a n c] 22 (0, 0))) (h1 : HalvesAt w a n l) (hc1 : n ≤ c) (hm1 : c ≤ maxLen) : ListsAt w (some ⟨b, 0, none⟩) 1 [l] := by
  refine ⟨rfl, fun _ => ⟨b, 0, rfl, fun k r hk => ?_⟩⟩
  have hk0 : k = 0 := by
    have := (List.getElem?_eq_some_iff.1 hk).1
    simp at this
    omega
  subst hk0
  simp at hk
  subst hk
  refine ⟨a, n, c, fun j v hv => ?_, hc1, hm1, h1⟩
  cases j with
  | zero =>
    cases hv
    have := cell_of_row w b 0 _ 22 (0, 0) hb
    simpa using this
  | succ j => simp at hv
set_option maxRecDepth 100000 in
theorem asked_any (a : Option Addr) (len cap : Nat) (l : List Half) (x y far : Int) (w : World) (hl : HalvesAt w a len l) (hc : len ≤ cap) (hm : cap ≤ maxLen) : Calls Try.prog 62 #[.agg #[.slice a len cap], .int .i64 x, .int .i64 y, .int .i64 far] w fun e w' => e = .returned (.int .i64 (askedOf l x y far)) ∧ Ext w w' := by
  have hch := fun W (hW : Ext w W) => check_any a len cap l W (hl.ext hW) (by unfold maxLen at hm; omega)
  have hf2 := fun W k hb => from2 (-10000000) 10000000 x y W k hb
  have hf1 := fun W k hb => from1 0 10000000 far W k hb
  have hll := hl.1
  have hask : askedOf l x y far = if areaOk l = false then 40 else if (placeOk x && placeOk y && inB far 0 10000000) = false then 2 else if someB l = false then 43 else 0 := rfl
  unfold placeOk at hask
  obtain ⟨R, hR⟩ : ∃ R, askedOf l x y far = R := ⟨_, rfl⟩
  rw [hR] at hask ⊢
  unfold checkOf at hch
  obtain ⟨W0, hW0⟩ : ∃ W0, w.alloc (.cells #[.slice a len cap] 24) = W0 := ⟨_, rfl⟩
  have hx0 : Ext w W0 := by rw [← hW0]; exact (Ext.refl w).alloc _
  have hb0 : W0.heap[w.heap.size]? = some (.cells #[.slice a len cap] 24 (0, 0)) := by rw [← hW0]; exact heap_alloc_new w _
  obtain ⟨z0, _⟩ := (Ext.refl W0).box hb0
  have hnew := fun (W : World) (o : Obj) (b : Nat) (hb : b = W.heap.size) => show (W.alloc o).heap[b]? = some o from by rw [hb]; exact heap_alloc_new W o
  cases h : areaOk l with
  | false =>
    rw [if_pos h] at hask
    rw [h] at hch
    simp only [Bool.false_eq_true, if_false] at hch
    have Hch := Lib.hid hch
    have Hx0 := Lib.hid hx0
    have Hb0 := Lib.hid hb0
    have Hask := Lib.hid hask
    clear hch hx0 hb0 hask
    clear hl h hf1 hf2
    go_enter Try.func62, Try.ntmps62
    go_wp2_with (go_at_call 28; refine (Hch.out _ Hx0.out).mono ?_; rintro e w1 ⟨rfl, hx1⟩)
    go_ret
    exact ⟨ret_int Hask.out.symm, Hx0.out.trans hx1⟩
  | true =>
    rw [if_neg (by rw [h]; simp)] at hask
    have hA := areaOk_iff.1 h
    have hlen4 := hA.len
    rw [h] at hch
    simp only [if_true] at hch
    have hso := fun W b (hW : Ext w W) (hb : W.heap[b]? = some (.cells #[.slice a len cap] 22 (0, 0))) => some_any (some ⟨b, 0, none⟩) 1 1 [l] W (lists1 hb (hl.ext hW) hc hm) (by omega) (by simp; omega) (fun h hh => by
      simp only [List.flatten_cons, List.flatten_nil, List.append_nil] at hh
      exact hA.each h hh)
    simp only [List.flatten_cons, List.flatten_nil, List.append_nil] at hso
    have Hch := Lib.hid hch
    have Hx0 := Lib.hid hx0
    have Hb0 := Lib.hid hb0
    clear hch hx0 hb0
    clear hl h hA
    cases h1 : (inB x (-10000000) 10000000 && inB y (-10000000) 10000000) with
    | false =>
      rw [h1, Bool.false_and, if_pos rfl] at hask
      rw [h1] at hf2
      have Hask := Lib.hid hask
      have Hf2 := Lib.hid hf2
      have Hnew := Lib.hid hnew
      clear hask hf2 hnew
      clear hf1 hso h1
      go_enter Try.func62, Try.ntmps62
      go_wp2_with (first | (go_at_call 28; refine (Hch.out _ Hx0.out).mono ?_; rintro e w1 ⟨rfl, hx1⟩; clear z0 hW0) | (go_at_call 66; refine (Hf2.out _ _ (Hnew.out _ _ _ rfl)).mono ?_; rintro e w2 ⟨rfl, hx2⟩))
      go_ret
      exact ⟨ret_int Hask.out.symm, (Hx0.out.trans hx1).trans (((Ext.refl _).alloc _).trans hx2)⟩
    | true =>
      rw [h1] at hf2
      cases h3 : inB far 0 10000000 with
      | false =>
        rw [h1, h3, if_pos (by rfl)] at hask
        rw [h3] at hf1
        have Hask := Lib.hid hask
        have Hf1 := Lib.hid hf1
        have Hf2 := Lib.hid hf2
        have Hnew := Lib.hid hnew
        clear hask hf1 hf2 hnew
        clear hso h1
        go_enter Try.func62, Try.ntmps62
        go_wp2_with (first | (go_at_call 28; refine (Hch.out _ Hx0.out).mono ?_; rintro e w1 ⟨rfl, hx1⟩; clear z0 hW0) | (go_at_call 66; refine (Hf2.out _ _ (Hnew.out _ _ _ rfl)).mono ?_; rintro e w2 ⟨rfl, hx2⟩; have hx12 := hx1.trans (((Ext.refl w1).alloc _).trans hx2); clear Hf2) | (go_at_call 66; refine (Hf1.out _ _ (Hnew.out _ _ _ rfl)).mono ?_; rintro e w3 ⟨rfl, hx3⟩))
        go_ret
        exact ⟨ret_int Hask.out.symm, Hx0.out.trans (hx12.trans (((Ext.refl _).alloc _).trans hx3))⟩
      | true =>
        rw [h1, h3, if_neg (by simp)] at hask
        rw [h3] at hf1
        have hR2 : ∀ b, someB l = b → R = if b then 0 else 43 := fun b hb => by
          rw [hask, hb]
          cases b <;> rfl
        generalize someB l = b at *
        have hR3 := hR2 b rfl
        cases b with
        | false =>
          simp only [Bool.false_eq_true, if_false] at hR3
          have HR3 := Lib.hid hR3
          have Hf1 := Lib.hid hf1
          have Hf2 := Lib.hid hf2
          have Hnew := Lib.hid hnew
          have Hso := Lib.hid hso
          clear hR3 hf1 hf2 hnew hso
          clear h1 hask hR2
          go_enter Try.func62, Try.ntmps62
          go_wp2_with (first | (go_at_call 28; refine (Hch.out _ Hx0.out).mono ?_; rintro e w1 ⟨rfl, hx1⟩; clear z0 hW0) | (go_at_call 66; refine (Hf2.out _ _ (Hnew.out _ _ _ rfl)).mono ?_; rintro e w2 ⟨rfl, hx2⟩; have hx12 := hx1.trans (((Ext.refl w1).alloc _).trans hx2); clear Hf2) | (go_at_call 66; refine (Hf1.out _ _ (Hnew.out _ _ _ rfl)).mono ?_; rintro e w3 ⟨rfl, hx3⟩; have hx13 := hx12.trans (((Ext.refl w2).alloc _).trans hx3); obtain ⟨z3, _⟩ := (Ext.refl w3).box (hx13.heap Hb0.out)) | (go_at_call 52; refine (Hso.out _ _ (Hx0.out.trans (hx13.alloc _)) (Hnew.out _ _ _ rfl)).mono ?_; rintro e w4 ⟨rfl, hx4⟩))
          go_ret
          exact ⟨ret_int HR3.out.symm, Hx0.out.trans (hx13.trans (((Ext.refl _).alloc _).trans hx4))⟩
        | true =>
          simp only [if_true] at hR3
          have HR3 := Lib.hid hR3
          have Hf1 := Lib.hid hf1
          have Hf2 := Lib.hid hf2
          have Hnew := Lib.hid hnew
          have Hso := Lib.hid hso
          clear hR3 hf1 hf2 hnew hso
          clear h1 hask hR2
          go_enter Try.func62, Try.ntmps62
          go_wp2_with (first | (go_at_call 28; refine (Hch.out _ Hx0.out).mono ?_; rintro e w1 ⟨rfl, hx1⟩; clear z0 hW0) | (go_at_call 66; refine (Hf2.out _ _ (Hnew.out _ _ _ rfl)).mono ?_; rintro e w2 ⟨rfl, hx2⟩; have hx12 := hx1.trans (((Ext.refl w1).alloc _).trans hx2); clear Hf2) | (go_at_call 66; refine (Hf1.out _ _ (Hnew.out _ _ _ rfl)).mono ?_; rintro e w3 ⟨rfl, hx3⟩; have hx13 := hx12.trans (((Ext.refl w2).alloc _).trans hx3); obtain ⟨z3, _⟩ := (Ext.refl w3).box (hx13.heap Hb0.out)) | (go_at_call 52; refine (Hso.out _ _ (Hx0.out.trans (hx13.alloc _)) (Hnew.out _ _ _ rfl)).mono ?_; rintro e w4 ⟨rfl, hx4⟩))
          go_ret
          exact ⟨ret_int HR3.out.symm, Hx0.out.trans (hx13.trans (((Ext.refl _).alloc _).trans hx4))⟩
def NearPost (l : List Half) (x y far : Int) (w : World) (e : Ending) (w' : World) : Prop := e = .returned (.tuple #[.int .u8 (nearOf l x y far).1, .int .i64 (nearOf l x y far).2]) ∧ Ext w w'
theorem near_err {l : List Half} {x y far k : Int} (h : askedOf l x y far = k) (hk : k ≠ 0) (w w' : World) (hx : Ext w w') : NearPost l x y far w (.returned (.tuple #[.int .u8 0, .int .i64 k])) w' := by
  unfold NearPost nearOf
  rw [h, if_pos hk]
  exact ⟨rfl, hx⟩
theorem near_is {l : List Half} {x y far k : Int} (h : askedOf l x y far = 0) (hk : knownOf l x y far = k) (w w' : World) (hx : Ext w w') : NearPost l x y far w (.returned (.tuple #[.int .u8 k, .int .i64 0])) w' := by
  unfold NearPost nearOf
  rw [h, if_neg (by simp), hk]
  exact ⟨rfl, hx⟩
theorem asked_zero {l : List Half} {x y far : Int} (h : askedOf l x y far = 0) : AreaOk l ∧ NearOk x y far ∧ someB l = true := by
  unfold askedOf at h
  split at h
  · cases h
  · split at h
    · cases h
    · split at h
      · cases h
      · rename_i h1 h2 h3
        exact ⟨areaOk_iff.1 (by simpa using h1), nearOk_of (by rw [Bool.not_eq_false] at h2; exact h2), by simpa using h3⟩
set_option maxRecDepth 100000 in
theorem nearF_any (a : Option Addr) (len cap : Nat) (l : List Half) (x y far : Int) (w : World) (hl : HalvesAt w a len l) (hc : len ≤ cap) (hm : cap ≤ maxLen) : Calls Try.prog 26 #[.agg #[.slice a len cap], .int .i64 x, .int .i64 y, .int .i64 far] w (NearPost l x y far w) := by
  have has := fun W (hW : Ext w W) => asked_any a len cap l x y far W (hl.ext hW) hc hm
  obtain ⟨K, hK⟩ : ∃ K, askedOf l x y far = K := ⟨_, rfl⟩
  have herr := fun hk => near_err hK hk w
  obtain ⟨Q, hQ⟩ : ∃ Q, NearPost l x y far w = Q := ⟨_, rfl⟩
  rw [hQ]
  simp only [hQ] at herr
  have hll := hl.1
  obtain ⟨W0, hW0⟩ : ∃ W0, w.alloc (.cells #[.slice a len cap] 24) = W0 := ⟨_, rfl⟩
  have hx0 : Ext w W0 := by rw [← hW0]; exact (Ext.refl w).alloc _
  have hb0 : W0.heap[w.heap.size]? = some (.cells #[.slice a len cap] 24 (0, 0)) := by rw [← hW0]; exact heap_alloc_new w _
  obtain ⟨z0, _⟩ := (Ext.refl W0).box hb0
  by_cases hk : K = 0
  · subst hk
    obtain ⟨hA, hn, _⟩ := asked_zero hK
    have hlen := hA.len
    have hne := fun W (hW : Ext w W) => near_any a len cap l x y far W (hl.ext hW) (by omega) (by omega) hc hm hA.each hn
    have his := fun k (h : knownOf l x y far = k) => near_is hK h w
    simp only [hQ] at his
    clear hQ
    rw [hK] at has
    generalize knownOf l x y far = k at *
    have Has := Lib.hid has
    have Hx0 := Lib.hid hx0
    have Hb0 := Lib.hid hb0
    have Hne := Lib.hid hne
    have His := Lib.hid his
    clear has hx0 hb0 hne his
    clear hl herr hA
    go_enter Try.func26, Try.ntmps26
    go_wp2_with (first | (go_at_call 62; refine (Has.out _ Hx0.out).mono ?_; rintro e w1 ⟨rfl, hx1⟩; obtain ⟨z1, _⟩ := hx1.box Hb0.out; clear z0 hW0) | (go_at_call 63; refine (Hne.out _ (Hx0.out.trans hx1)).mono ?_; rintro e w2 ⟨rfl, hx2⟩))
    exact His.out _ rfl _ (Hx0.out.trans (hx1.trans hx2))
  · have hkB : (K != 0) = true := by rw [bne_iff_ne]; exact hk
    rw [hK] at has
    have herr2 := herr hk
    clear hQ
    have Has := Lib.hid has
    have Hx0 := Lib.hid hx0
    have Hb0 := Lib.hid hb0
    have Herr2 := Lib.hid herr2
    clear has hx0 hb0 herr2
    clear hl herr
    go_enter Try.func26, Try.ntmps26
    go_wp2_with (go_at_call 62; refine (Has.out _ Hx0.out).mono ?_; rintro e w1 ⟨rfl, hx1⟩)
    exact Herr2.out _ (Hx0.out.trans hx1)
end Go.Proofs.Ytacdndehlkaaeaa
