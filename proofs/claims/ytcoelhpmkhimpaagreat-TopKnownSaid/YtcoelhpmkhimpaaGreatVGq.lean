/- Start, asked and Near, of the guide and of the reference. -/
import Derived.Test.YtcoelhpmkhimpaaGreatVGp
import Derived.BigQuiet
namespace Go.Proofs.YtcoelhpmkhimpaaGreat
open Go.RowKit
set_option linter.unusedVariables false
set_option linter.unusedSimpArgs false
/-- an area, in memory of its own, and an error -/
def AreaOwn (r : List Half × Int) (w : World) (e : Ending) (w' : World) : Prop := ∃ v, e = .returned (.tuple #[.agg #[v], .int .i64 r.2]) ∧ Ext w w' ∧ Owns w' w.heap.size 79 3 v (halfRows r.1)
theorem areaown_none {w : World} (k : Int) (w' : World) (hx : Ext w w') : AreaOwn ([], k) w (.returned (.tuple #[.agg #[.slice none 0 0], .int .i64 k])) w' := ⟨_, rfl, hx, Owns.nil _ _ _ _⟩
theorem owns_block {w : World} {B b : Nat} {l : List Half} {n : Nat} (hn : l.length = n) (hb : w.heap[b]? = some (.cells (halfRows l).flatten.toArray 79 (0, 0))) (hB : B ≤ b) (hl : n ≤ maxLen) : Owns w B 79 3 (.slice (some ⟨b, 0, none⟩) n n) (halfRows l) := by
  obtain rfl : n = (halfRows l).length := by rw [halfRows_len, hn]
  have e : (halfRows l).flatten.length = (halfRows l).length * 3 := flatten_length (fun r hr => (halfRows_row l r hr).1)
  refine ⟨⟨e, .inr ⟨b, _, _, rfl, hB, hb, Nat.le_refl _, hl, by simp only [List.size_toArray]; exact e, ?_⟩⟩, fun r hr => (halfRows_row l r hr).1⟩
  rw [List.take_of_length_le (by simp only; omega)]
/-- the result of a call, put into the variable of the first result -/
theorem areaown_set {r : List Half × Int} {w W : World} {b g : Nat} {l : List Half} {n : Nat} (hr : r = (l, 0)) (hn : l.length = n) (hb : W.heap[b]? = some (.cells (halfRows l).flatten.toArray 79 (0, 0))) (hB : w.heap.size ≤ b) (hl : n ≤ maxLen) (hx : Ext w W) (hg : w.heap.size ≤ g) (hgb : g < b) (u : Value) :
    AreaOwn r w (.returned (.tuple #[.agg #[.slice (some ⟨b, 0, none⟩) n n], .int .i64 0])) (W.setCell ⟨g, 0, none⟩ u) := by
  subst hr
  exact ⟨_, rfl, hx.setCell (p := ⟨g, 0, none⟩) hg _, (owns_set (owns_block hn hb (Nat.le_refl b) hl) hgb).mono hB⟩
end Go.Proofs.YtcoelhpmkhimpaaGreat

/- asked and Near of the guide; known and Near of the reference. -/
namespace Go.Proofs.YtcoelhpmkhimpaaGreat
open Go.RowKit
set_option linter.unusedVariables false
set_option linter.unusedSimpArgs false
theorem lists1 {w : World} {b : Nat} {a : Option Addr} {n c : Nat} {l : List Half} (hb : w.heap[b]? = some (.cells #[.slice a n c] 22 (0, 0))) (h1 : HalvesAt w a n l) (hc1 : n ≤ c) (hm1 : c ≤ maxLen) : ListsAt w (some ⟨b, 0, none⟩) 1 [l] := by
  refine ⟨rfl, fun _ => ⟨b, 0, rfl, fun k r hk => ?_⟩⟩
  have hk0 : k = 0 := by
    have := (List.getElem?_eq_some_iff.1 hk).1
    simp at this
    omega
  subst hk0
  simp at hk
  subst hk
  refine ⟨a, n, c, fun j v hv => ?_, hc1, hm1, h1⟩
  cases j with
  | zero =>
    cases hv
    have := cell_of_row w b 0 _ 22 (0, 0) hb
    simpa using this
  | succ j => simp at hv
set_option maxRecDepth 100000 in
theorem asked_any (a : Option Addr) (len cap : Nat) (l : List Half) (x y far : Int) (w : World) (hl : HalvesAt w a len l) (hc : len ≤ cap) (hm : cap ≤ maxLen) : Calls Tryz.prog 33 #[.agg #[.slice a len cap], .int .i64 x, .int .i64 y, .int .i64 far] w fun e w' => e = .returned (.int .i64 (askedOf l x y far)) ∧ Ext w w' := by
  have hch := fun W (hW : Ext w W) => gcheck_any a len cap l W (hl.ext hW) (by unfold maxLen at hm; omega)
  have hf2 := fun W k hb => from2 (-10000000) 10000000 x y W k hb
  have hf1 := fun W k hb => from1 0 10000000 far W k hb
  have hll := hl.1
  have hask : askedOf l x y far = if areaOk l = false then 40 else if (placeOk x && placeOk y && inB far 0 10000000) = false then 2 else if someB l = false then 43 else 0 := rfl
  unfold placeOk at hask
  obtain ⟨R, hR⟩ : ∃ R, askedOf l x y far = R := ⟨_, rfl⟩
  rw [hR] at hask ⊢
  unfold checkOf at hch
  obtain ⟨W0, hW0⟩ : ∃ W0, w.alloc (.cells #[.slice a len cap] 24) = W0 := ⟨_, rfl⟩
  have hx0 : Ext w W0 := by rw [← hW0]; exact (Ext.refl w).alloc _
  have hb0 : W0.heap[w.heap.size]? = some (.cells #[.slice a len cap] 24 (0, 0)) := by rw [← hW0]; exact heap_alloc_new w _
  obtain ⟨z0, _⟩ := (Ext.refl W0).box hb0
  have hnew := fun (W : World) (o : Obj) (b : Nat) (hb : b = W.heap.size) => show (W.alloc o).heap[b]? = some o from by rw [hb]; exact heap_alloc_new W o
  cases h : areaOk l with
  | false =>
    rw [if_pos h] at hask
    rw [h] at hch
    simp only [Bool.false_eq_true, if_false] at hch
    have Hch := Lib.hid hch
    have Hx0 := Lib.hid hx0
    have Hb0 := Lib.hid hb0
    have Hask := Lib.hid hask
    clear hch hx0 hb0 hask
    clear hl h hf1 hf2
    go_enter Tryz.func33, Tryz.ntmps33
    go_wp2_with (go_at_call 45; refine (Hch.out _ Hx0.out).mono ?_; rintro e w1 ⟨rfl, hx1⟩)
    go_ret
    exact ⟨ret_int Hask.out.symm, Hx0.out.trans hx1⟩
  | true =>
    rw [if_neg (by rw [h]; simp)] at hask
    have hA := areaOk_iff.1 h
    have hlen4 := hA.len
    rw [h] at hch
    simp only [if_true] at hch
    have hso := fun W b (hW : Ext w W) (hb : W.heap[b]? = some (.cells #[.slice a len cap] 22 (0, 0))) => some_any (some ⟨b, 0, none⟩) 1 1 [l] W (lists1 hb (hl.ext hW) hc hm) (by omega) (by simp; omega) (fun h hh => by
      simp only [List.flatten_cons, List.flatten_nil, List.append_nil] at hh
      exact hA.each h hh)
    simp only [List.flatten_cons, List.flatten_nil, List.append_nil] at hso
    have Hch := Lib.hid hch
    have Hx0 := Lib.hid hx0
    have Hb0 := Lib.hid hb0
    clear hch hx0 hb0
    clear hl h hA
    cases h1 : (inB x (-10000000) 10000000 && inB y (-10000000) 10000000) with
    | false =>
      rw [h1, Bool.false_and, if_pos rfl] at hask
      rw [h1] at hf2
      have Hask := Lib.hid hask
      have Hf2 := Lib.hid hf2
      have Hnew := Lib.hid hnew
      clear hask hf2 hnew
      clear hf1 hso h1
      go_enter Tryz.func33, Tryz.ntmps33
      go_wp2_with (first | (go_at_call 45; refine (Hch.out _ Hx0.out).mono ?_; rintro e w1 ⟨rfl, hx1⟩; clear z0 hW0) | (go_at_call 54; refine (Hf2.out _ _ (Hnew.out _ _ _ rfl)).mono ?_; rintro e w2 ⟨rfl, hx2⟩))
      go_ret
      exact ⟨ret_int Hask.out.symm, (Hx0.out.trans hx1).trans (((Ext.refl _).alloc _).trans hx2)⟩
    | true =>
      rw [h1] at hf2
      cases h3 : inB far 0 10000000 with
      | false =>
        rw [h1, h3, if_pos (by rfl)] at hask
        rw [h3] at hf1
        have Hask := Lib.hid hask
        have Hf1 := Lib.hid hf1
        have Hf2 := Lib.hid hf2
        have Hnew := Lib.hid hnew
        clear hask hf1 hf2 hnew
        clear hso h1
        go_enter Tryz.func33, Tryz.ntmps33
        go_wp2_with (first | (go_at_call 45; refine (Hch.out _ Hx0.out).mono ?_; rintro e w1 ⟨rfl, hx1⟩; clear z0 hW0) | (go_at_call 54; refine (Hf2.out _ _ (Hnew.out _ _ _ rfl)).mono ?_; rintro e w2 ⟨rfl, hx2⟩; have hx12 := hx1.trans (((Ext.refl w1).alloc _).trans hx2); clear Hf2) | (go_at_call 54; refine (Hf1.out _ _ (Hnew.out _ _ _ rfl)).mono ?_; rintro e w3 ⟨rfl, hx3⟩))
        go_ret
        exact ⟨ret_int Hask.out.symm, Hx0.out.trans (hx12.trans (((Ext.refl _).alloc _).trans hx3))⟩
      | true =>
        rw [h1, h3, if_neg (by simp)] at hask
        rw [h3] at hf1
        have hR2 : ∀ b, someB l = b → R = if b then 0 else 43 := fun b hb => by
          rw [hask, hb]
          cases b <;> rfl
        generalize someB l = b at *
        have hR3 := hR2 b rfl
        cases b with
        | false =>
          simp only [Bool.false_eq_true, if_false] at hR3
          have HR3 := Lib.hid hR3
          have Hf1 := Lib.hid hf1
          have Hf2 := Lib.hid hf2
          have Hnew := Lib.hid hnew
          have Hso := Lib.hid hso
          clear hR3 hf1 hf2 hnew hso
          clear h1 hask hR2
          go_enter Tryz.func33, Tryz.ntmps33
          go_wp2_with (first | (go_at_call 45; refine (Hch.out _ Hx0.out).mono ?_; rintro e w1 ⟨rfl, hx1⟩; clear z0 hW0) | (go_at_call 54; refine (Hf2.out _ _ (Hnew.out _ _ _ rfl)).mono ?_; rintro e w2 ⟨rfl, hx2⟩; have hx12 := hx1.trans (((Ext.refl w1).alloc _).trans hx2); clear Hf2) | (go_at_call 54; refine (Hf1.out _ _ (Hnew.out _ _ _ rfl)).mono ?_; rintro e w3 ⟨rfl, hx3⟩; have hx13 := hx12.trans (((Ext.refl w2).alloc _).trans hx3); obtain ⟨z3, _⟩ := (Ext.refl w3).box (hx13.heap Hb0.out)) | (go_at_call 47; refine (Hso.out _ _ (Hx0.out.trans (hx13.alloc _)) (Hnew.out _ _ _ rfl)).mono ?_; rintro e w4 ⟨rfl, hx4⟩))
          go_ret
          exact ⟨ret_int HR3.out.symm, Hx0.out.trans (hx13.trans (((Ext.refl _).alloc _).trans hx4))⟩
        | true =>
          simp only [if_true] at hR3
          have HR3 := Lib.hid hR3
          have Hf1 := Lib.hid hf1
          have Hf2 := Lib.hid hf2
          have Hnew := Lib.hid hnew
          have Hso := Lib.hid hso
          clear hR3 hf1 hf2 hnew hso
          clear h1 hask hR2
          go_enter Tryz.func33, Tryz.ntmps33
          go_wp2_with (first | (go_at_call 45; refine (Hch.out _ Hx0.out).mono ?_; rintro e w1 ⟨rfl, hx1⟩; clear z0 hW0) | (go_at_call 54; refine (Hf2.out _ _ (Hnew.out _ _ _ rfl)).mono ?_; rintro e w2 ⟨rfl, hx2⟩; have hx12 := hx1.trans (((Ext.refl w1).alloc _).trans hx2); clear Hf2) | (go_at_call 54; refine (Hf1.out _ _ (Hnew.out _ _ _ rfl)).mono ?_; rintro e w3 ⟨rfl, hx3⟩; have hx13 := hx12.trans (((Ext.refl w2).alloc _).trans hx3); obtain ⟨z3, _⟩ := (Ext.refl w3).box (hx13.heap Hb0.out)) | (go_at_call 47; refine (Hso.out _ _ (Hx0.out.trans (hx13.alloc _)) (Hnew.out _ _ _ rfl)).mono ?_; rintro e w4 ⟨rfl, hx4⟩))
          go_ret
          exact ⟨ret_int HR3.out.symm, Hx0.out.trans (hx13.trans (((Ext.refl _).alloc _).trans hx4))⟩
def NearPost (l : List Half) (x y far : Int) (w : World) (e : Ending) (w' : World) : Prop := e = .returned (.tuple #[.int .u8 (nearOf l x y far).1, .int .i64 (nearOf l x y far).2]) ∧ Ext w w'
theorem near_err {l : List Half} {x y far k : Int} (h : askedOf l x y far = k) (hk : k ≠ 0) (w w' : World) (hx : Ext w w') : NearPost l x y far w (.returned (.tuple #[.int .u8 0, .int .i64 k])) w' := by
  unfold NearPost nearOf
  rw [h, if_pos hk]
  exact ⟨rfl, hx⟩
theorem near_is {l : List Half} {x y far k : Int} (h : askedOf l x y far = 0) (hk : knownOf l x y far = k) (w w' : World) (hx : Ext w w') : NearPost l x y far w (.returned (.tuple #[.int .u8 k, .int .i64 0])) w' := by
  unfold NearPost nearOf
  rw [h, if_neg (by simp), hk]
  exact ⟨rfl, hx⟩
theorem asked_zero {l : List Half} {x y far : Int} (h : askedOf l x y far = 0) : AreaOk l ∧ NearOk x y far ∧ someB l = true := by
  unfold askedOf at h
  split at h
  · cases h
  · split at h
    · cases h
    · split at h
      · cases h
      · rename_i h1 h2 h3
        exact ⟨areaOk_iff.1 (by simpa using h1), nearOk_of (by rw [Bool.not_eq_false] at h2; exact h2), by simpa using h3⟩
end Go.Proofs.YtcoelhpmkhimpaaGreat
