/- Clash. -/
import Derived.Test.YtacdndehlkaaeaaVClashP
import Derived.Test.YtacdndehlkaaeaaVSome
namespace Go.Proofs.Ytacdndehlkaaeaa
open Go.RowKit
set_option linter.unusedVariables false
set_option linter.unusedSimpArgs false
def ClashPost (l : List Half) (looks : List Sight) (w : World) (e : Ending) (w' : World) : Prop := ∃ a c, e = .returned (.tuple #[.slice a (clashOf l looks).1.length c, .int .i64 (clashOf l looks).2]) ∧ (clashOf l looks).1.length ≤ c ∧ c ≤ maxLen ∧ Ext w w' ∧ IntsAt .i64 w' a (clashOf l looks).1.length (clashOf l looks).1
theorem clash_none {l : List Half} {looks : List Sight} {w : World} {k : Int} (h : clashOf l looks = ([], k)) (w' : World) (hx : Ext w w') : ClashPost l looks w (.returned (.tuple #[.slice none 0 0, .int .i64 k])) w' := by
  unfold ClashPost
  rw [h]
  exact ⟨none, 0, rfl, Nat.le_refl _, Nat.zero_le _, hx, rfl, fun h => absurd h (by simp)⟩
theorem clash_all {l : List Half} {looks : List Sight} {w : World} {m : List Int} (h : clashOf l looks = (m, 0)) (w' : World) (a : Option Addr) (n c : Nat) (hn : m.length = n) (h1 : n ≤ c) (h2 : c ≤ maxLen) (hx : Ext w w') (hm : IntsAt .i64 w' a n m) : ClashPost l looks w (.returned (.tuple #[.slice a n c, .int .i64 0])) w' := by
  unfold ClashPost
  rw [h]
  subst hn
  exact ⟨a, c, rfl, h1, h2, hx, hm⟩
/-- the lists so far -/
def R1 (w : World) (l : List Half) (looks : List Sight) (k : Nat) (v : Value) (wr : World) : Prop :=
  ∃ vs : List Value, vs.length = k + 1 ∧ Ext w wr ∧ Owns wr w.heap.size 22 1 v (vs.map fun u => [u]) ∧ (∀ j, j < k + 1 → Row wr v.ownBlock wr.heap.size (vs.getD j undef) ((listsBut l looks fun _ => false).getD j [])) ∧ ∀ i, i < k → sightOk (looks.getD i zl) = true
theorem r1_start {w : World} {l : List Half} {looks : List Sight} {a : Option Addr} {len cap : Nat} (hl : HalvesAt w a len l) (h0 : 0 < len) (hc : len ≤ cap) (hm : cap ≤ maxLen) : R1 w l looks 0 (.slice (some ⟨w.heap.size, 0, none⟩) 1 1) (w.alloc (.cells #[.slice a len cap] 22)) := by
  have hx : Ext w (w.alloc (.cells #[.slice a len cap] 22)) := (Ext.refl _).alloc _
  refine ⟨[.slice a len cap], rfl, hx, ⟨⟨rfl, .inr ⟨w.heap.size, 1, #[.slice a len cap], rfl, Nat.le_refl _, heap_alloc_new _ _, Nat.le_refl _, by decide, rfl, rfl⟩⟩, fun r hr => ?_⟩, fun j hj => ?_, fun i hi => absurd hi (Nat.not_lt_zero _)⟩
  · simp only [List.map_cons, List.map_nil, List.mem_singleton] at hr
    rw [hr]
    rfl
  · obtain rfl : j = 0 := by omega
    obtain ⟨lb, lo, _, rfl, _, hlb, _⟩ := hl.get 0 h0
    refine ⟨_, _, _, rfl, hc, hm, hl.ext hx, fun y hy => ?_⟩
    cases hy
    exact ⟨fun e => by simp only [Value.ownBlock, Option.some.injEq] at e; omega, by simp; omega⟩
/-- one more list -/
theorem r1_more {w wr W W' : World} {l : List Half} {looks : List Sight} {k : Nat} {v v' : Value} {ma : Option Addr} {m mc : Nat} {vs : List Value} (hk : k < looks.length) (hn : vs.length = k + 1) (hx : Ext w wr) (how : Owns wr w.heap.size 22 1 v (vs.map fun u => [u])) (hr : ∀ j, j < k + 1 → Row wr v.ownBlock wr.heap.size (vs.getD j undef) ((listsBut l looks fun _ => false).getD j []))
    (hs : ∀ i, i < k → sightOk (looks.getD i zl) = true) (hsk : sightOk (looks.getD k zl) = true) (hxW : Ext wr W) (hM : HalvesAt W ma m (halvesOf (looks.getD k zl))) (hmc : m ≤ mc) (hmm : mc ≤ maxLen) (hf : From wr.heap.size ma)
    (ho' : Owns W' w.heap.size 22 1 v' ((vs.map fun u => [u]) ++ [[.slice ma m mc]])) (hg : W.grownBy W' v.ownBlock) (hob : v'.ownBlock = v.ownBlock ∨ v'.ownBlock = some W.heap.size) : R1 w l looks (k + 1) v' W' := by
  refine ⟨vs ++ [.slice ma m mc], by rw [List.length_append, hn]; rfl, (hx.trans hxW).app (how.ext hxW) hg, by rw [List.map_append]; exact ho', fun j hj => ?_, fun i hi => ?_⟩
  · rcases Nat.lt_or_ge j (k + 1) with h | h
    · rw [show (vs ++ [Value.slice ma m mc]).getD j undef = vs.getD j undef by simp [List.getD, List.getElem?_append_left (show j < vs.length by omega)]]
      exact ((hr j h).ext hxW hxW.size).grown (Nat.le_refl _) hg hob hg.size
    · obtain rfl : j = k + 1 := by omega
      rw [show (vs ++ [Value.slice ma m mc]).getD (k + 1) undef = .slice ma m mc by simp [List.getD, List.getElem?_append_right, hn]]
      rw [listsBut_succ l looks _ hk]
      simp only [Bool.false_eq_true, if_false]
      refine Row.grown (own := v.ownBlock) (S := W.heap.size) ⟨ma, m, mc, rfl, hmc, hmm, hM, fun y hy => ⟨fun e => ?_, ?_⟩⟩ (Nat.le_refl _) hg hob hg.size
      · have h1 := hf y hy
        have h2 := (how.lt _ e).2
        omega
      · subst hy
        have hl2 := (halves_len (looks.getD k zl)).1
        obtain ⟨_, _, _, e, _, hlt, _⟩ := hM.get 0 (by rw [← hM.1]; omega)
        cases e
        exact hlt
  · rcases Nat.lt_or_ge i k with h | h
    · exact hs i h
    · obtain rfl : i = k := by omega
      exact hsk
theorem ListRows.up {W : World} {b cap S S' : Nat} {ls : List (List Half)} (h : ListRows W b cap S ls) (hs : S ≤ S') : ListRows W b cap S' ls :=
  let ⟨cur, hb, hc, hr⟩ := h; ⟨cur, hb, hc, fun j hj => let ⟨u, h1, h2⟩ := hr j hj; ⟨u, h1, h2.ext (Ext.refl _) hs⟩⟩
/-- the second loop: some looks are out, the others are kept -/
def R2 (w1 w4 : World) (l : List Half) (looks : List Sight) (bb bc k : Nat) (v : Value) (wq : World) : Prop :=
  Ext w1 wq ∧ w4.heap.size ≤ wq.heap.size ∧ ListRows wq bb bc w4.heap.size (listsBut l looks (outTo l looks k)) ∧ Owns wq w4.heap.size 3 1 v (intRows .i64 (setTo l looks k))
theorem grown_set (W : World) (b i : Nat) (u : Value) : W.grownBy (W.setCell ⟨b, i, none⟩ u) (some b) := ⟨rfl, rfl, rfl, by simp, fun k hk hne => Below.heap_setCell _ _ _ _ fun e => hne (by rw [e])⟩
theorem owns_set {W : World} {base e sz b i : Nat} {v u : Value} {rows : List (List Value)} (h : Owns W base e sz v rows) (hb : b < base) : Owns (W.setCell ⟨b, i, none⟩ u) base e sz v rows := by
  refine h.kept (grown_set W b i u) ?_
  cases ho : v.ownBlock with
  | none => exact .inl rfl
  | some g => exact .inr fun e => by have := (h.lt g ho).1; simp only [Option.some.injEq] at e; omega
theorem r2_out {w1 w4 wq : World} {l : List Half} {looks : List Sight} {bb bc k : Nat} {v : Value} (h : R2 w1 w4 l looks bb bc k v wq) (hk : k < looks.length) (h1 : w1.heap.size ≤ bb) (h4 : bb < w4.heap.size) :
    Ext w1 (wq.setCell ⟨bb, k + 1, none⟩ (.slice none 0 0)) ∧ ListRows (wq.setCell ⟨bb, k + 1, none⟩ (.slice none 0 0)) bb bc w4.heap.size (listsBut l looks fun j => j == k || outTo l looks k j) ∧ Owns (wq.setCell ⟨bb, k + 1, none⟩ (.slice none 0 0)) w4.heap.size 3 1 v (intRows .i64 (setTo l looks k)) ∧
    ∃ ka kn kc, wq.cell? ⟨bb, k + 1, none⟩ = some (.slice ka kn kc) ∧ wq.frozen? ⟨bb, k + 1, none⟩ = false ∧ Row wq (some bb) w4.heap.size (.slice ka kn kc) (halvesOf (looks.getD k zl)) := by
  obtain ⟨hx, hsz, hR, ho⟩ := h
  have hl := listsBut_len l looks (outTo l looks k)
  refine ⟨hx.setCell (by exact h1) _, ?_, owns_set ho h4, ?_⟩
  · refine hR.put (by omega) (Row.nil _ _ _) (by rw [hl, listsBut_len]) ?_ fun i hi hil => ?_
    · rw [listsBut_succ _ _ _ hk]
      simp
    · cases i with
      | zero => rfl
      | succ i =>
        rw [listsBut_succ _ _ _ (by omega), listsBut_succ _ _ _ (by omega)]
        have : (i == k) = false := by simp; omega
        rw [this, Bool.false_or]
  · obtain ⟨cur, hb, hc, hr⟩ := hR
    obtain ⟨u, hu, hrow⟩ := hr (k + 1) (by omega)
    rw [listsBut_succ _ _ _ hk, outTo_late l looks k k (Nat.le_refl _)] at hrow
    simp only [Bool.false_eq_true, if_false] at hrow
    obtain ⟨ka, kn, kc, rfl, h2⟩ := id hrow
    exact ⟨ka, kn, kc, by rw [cell_of_row wq bb _ _ 22 (0, 0) hb]; exact hu, frozen_of_row wq bb _ _ 22 hb, hrow⟩
theorem r2_gone {w1 w4 W w5 : World} {l : List Half} {looks : List Sight} {bb bc k : Nat} {v : Value} (hk : k < looks.length) (hx : Ext w1 W) (hsz : w4.heap.size ≤ W.heap.size) (hR : ListRows W bb bc w4.heap.size (listsBut l looks fun j => j == k || outTo l looks k j)) (ho : Owns W w4.heap.size 3 1 v (intRows .i64 (setTo l looks k))) (hs : someB (allBut l looks fun j => j == k || outTo l looks k j) = false) (hx5 : Ext W w5) : R2 w1 w4 l looks bb bc (k + 1) v w5 := by
  have hk1 : outTo l looks (k + 1) k = true := by rw [outTo_succ_eq, hs]; rfl
  have e : (fun j => j == k || outTo l looks k j) = outTo l looks (k + 1) := by
    funext j
    by_cases h : j = k
    · rw [h, hk1]; simp
    · rw [outTo_succ_ne l looks h]
      have : (j == k) = false := by simpa using h
      rw [this, Bool.false_or]
  refine ⟨hx.trans hx5, Nat.le_trans hsz hx5.size, ?_, ?_⟩
  · rw [← e]
    exact hR.ext hx5
  · rw [setTo_succ, hk1]
    simp only [if_true, List.append_nil]
    exact ho.ext hx5
theorem r2_back {w1 w4 W w5 : World} {l : List Half} {looks : List Sight} {bb bc k : Nat} {v : Value} {wq : World} {u : Value} (hk : k < looks.length) (h1 : w1.heap.size ≤ bb) (h4 : bb < w4.heap.size) (hx : Ext w1 W) (hsz : w4.heap.size ≤ W.heap.size) (hR : ListRows W bb bc w4.heap.size (listsBut l looks fun j => j == k || outTo l looks k j)) (ho : Owns W w4.heap.size 3 1 v (intRows .i64 (setTo l looks k))) (hs : someB (allBut l looks fun j => j == k || outTo l looks k j) = true) (hx5 : Ext W w5)
    (hu : Row w5 (some bb) w4.heap.size u (halvesOf (looks.getD k zl))) :
    Ext w1 (w5.setCell ⟨bb, k + 1, none⟩ u) ∧ w4.heap.size ≤ (w5.setCell ⟨bb, k + 1, none⟩ u).heap.size ∧ ListRows (w5.setCell ⟨bb, k + 1, none⟩ u) bb bc w4.heap.size (listsBut l looks (outTo l looks (k + 1))) ∧ Owns (w5.setCell ⟨bb, k + 1, none⟩ u) w4.heap.size 3 1 v (intRows .i64 (setTo l looks k)) ∧ intRows .i64 (setTo l looks (k + 1)) = intRows .i64 (setTo l looks k) ++ [[.int .i64 k]] := by
  have hk1 : outTo l looks (k + 1) k = false := by rw [outTo_succ_eq, hs]; rfl
  refine ⟨(hx.trans hx5).setCell (by exact h1) _, by simp; exact Nat.le_trans hsz hx5.size, ?_, owns_set (ho.ext hx5) h4, ?_⟩
  · refine (hR.ext hx5).put (by rw [listsBut_len]; omega) hu (by rw [listsBut_len, listsBut_len]) ?_ fun i hi hil => ?_
    · rw [listsBut_succ _ _ _ hk, hk1]
      rfl
    · rw [listsBut_len] at hil
      cases i with
      | zero => rfl
      | succ i =>
        rw [listsBut_succ _ _ _ (by omega), listsBut_succ _ _ _ (by omega), outTo_succ_ne l looks (by omega)]
        have : (i == k) = false := by simp; omega
        rw [this, Bool.false_or]
  · rw [setTo_succ, hk1, intRows_append]
    rfl
theorem r2_kept {w1 w4 W W' : World} {l : List Half} {looks : List Sight} {bb bc k : Nat} {v v' : Value} (h4 : bb < w4.heap.size) (h14 : w1.heap.size ≤ w4.heap.size) (hx : Ext w1 W) (hsz : w4.heap.size ≤ W.heap.size) (hR : ListRows W bb bc w4.heap.size (listsBut l looks (outTo l looks (k + 1)))) (ho : Owns W w4.heap.size 3 1 v (intRows .i64 (setTo l looks k))) (hg : W.grownBy W' v.ownBlock) (ho' : Owns W' w4.heap.size 3 1 v' (intRows .i64 (setTo l looks (k + 1)))) : R2 w1 w4 l looks bb bc (k + 1) v' W' := by
  have hlt := fun g hg' => (ho.lt g hg').1
  refine ⟨?_, Nat.le_trans hsz hg.size, hR.beside h4 hsz hg hlt, ho'⟩
  exact ⟨hg.os.trans hx.os, hg.tape.trans hx.tape, hg.output.trans hx.output, Nat.le_trans hx.size hg.size, fun i hi => (hg.block i (by have := hx.size; omega) (fun e => by have := hlt _ e.symm; omega)).trans (hx.block i hi)⟩
set_option maxRecDepth 100000 in
set_option maxHeartbeats 4000000 in
theorem clash_any (a : Option Addr) (len cap : Nat) (l : List Half) (b : Option Addr) (n c : Nat) (looks : List Sight) (w : World) (hl : HalvesAt w a len l) (hc : len ≤ cap) (hm : cap ≤ maxLen) (hs : SightsAt w b n looks) (hk : ∀ i, i < n → 0 ≤ (looks.getD i zl).kind ∧ (looks.getD i zl).kind ≤ 255) :
    Calls Try.prog 18 #[.agg #[.slice a len cap], .slice b n c] w (ClashPost l looks w) := by
  have hch := fun W (hW : Ext w W) => check_any a len cap l W (hl.ext hW) (by unfold maxLen at hm; omega)
  have hnone := fun (k : Int) (h : clashOf l looks = ([], k)) => clash_none (w := w) h
  have hsall := fun m (h : clashOf l looks = (m, 0)) => clash_all (w := w) h
  have hdef : clashOf l looks = if areaOk l = false then ([], 40) else if 10 < looks.length then ([], 4) else if looks.all sightOk = false then ([], 41) else
    if someB (allBut l looks fun _ => false) then ([], 6) else (setTo l looks looks.length, 0) := rfl
  obtain ⟨Q, hQ⟩ : ∃ Q, ClashPost l looks w = Q := ⟨_, rfl⟩
  rw [hQ]
  simp only [hQ] at hnone hsall
  generalize clashOf l looks = sl at *
  unfold checkOf at hch
  have hll := hl.1
  have hsl := hs.1
  have hb1 := heap_alloc_new w (.cells #[.slice a len cap] 24)
  cases hao : areaOk l with
  | false =>
    have hfin := hnone 40 (by rw [hdef, if_pos hao])
    rw [hao] at hch
    simp only [Bool.false_eq_true, if_false] at hch
    have Hch := Lib.hid hch
    have Hfin := Lib.hid hfin
    clear hch hfin
    clear hl hnone hsall hdef hs hk
    go_enter Try.func18, Try.ntmps18
    go_wp2_with (go_at_call 28; refine (Hch.out _ ((Ext.refl _).alloc _)).mono ?_; rintro e w1 ⟨rfl, hx1⟩)
    exact Hfin.out _ (((Ext.refl _).alloc _).trans hx1)
  | true =>
    have hA := areaOk_iff.1 hao
    have hlen4 := hA.len
    rw [hll] at hlen4
    rw [hao] at hch
    simp only [if_true] at hch
    by_cases hten : 10 < n
    · have hfin := hnone 4 (by rw [hdef, hao, if_neg (by simp), if_pos (by omega)])
      have htB : decide ((10 : Int) < (n : Int)) = true := decide_eq_true (by omega)
      have htB' : decide (10 < n) = true := decide_eq_true hten
      have Hch := Lib.hid hch
      have Hfin := Lib.hid hfin
      clear hch hfin
      clear hl hnone hsall hdef hs hk hA
      go_enter Try.func18, Try.ntmps18
      go_wp2_with (go_at_call 28; refine (Hch.out _ ((Ext.refl _).alloc _)).mono ?_; rintro e w1 ⟨rfl, hx1⟩)
      exact Hfin.out _ (((Ext.refl _).alloc _).trans hx1)
    · have htB : decide ((10 : Int) < (n : Int)) = false := decide_eq_false (by omega)
      have htB' : decide (10 < n) = false := decide_eq_false hten
      have hf41 : (∃ i, i < n ∧ sightOk (looks.getD i zl) = false) → ∀ w', Ext w w' → Q (.returned (.tuple #[.slice none 0 0, .int .i64 41])) w' := fun ⟨i, hi, h⟩ => hnone 41 (by
        rw [hdef, hao, if_neg (by simp), if_neg (by omega), if_pos]
        rw [Bool.eq_false_iff]
        intro hall
        rw [List.all_eq_true] at hall
        have := hall (looks.getD i zl) (by simp only [List.getD, List.getElem?_eq_getElem (show i < looks.length by omega), Option.getD_some]; exact List.getElem_mem _)
        rw [this] at h
        cases h)
      have hdef2 : (∀ i, i < n → sightOk (looks.getD i zl) = true) → sl = if someB (allBut l looks fun _ => false) then ([], 6) else (setTo l looks n, 0) := fun h => by
        rw [hdef, hao, if_neg (by simp), if_neg (by omega), if_neg, hsl]
        rw [Bool.not_eq_false, List.all_eq_true]
        intro x hx
        obtain ⟨i, hi, rfl⟩ := List.mem_iff_getElem.1 hx
        have := h i (by omega)
        simpa [List.getD, hi] using this
      have hal := fun i (hi : i < n) W => halves_any (looks.getD i zl) W (hk i hi).1 (hk i hi).2
      have Hch := Lib.hid hch
      have Hl := Lib.hid hl
      have Hs := Lib.hid hs
      have Hb1 := Lib.hid hb1
      have Hf41 := Lib.hid hf41
      have Hdef2 := Lib.hid hdef2
      have Hsall := Lib.hid hsall
      have Hnone := Lib.hid hnone
      have Hal := Lib.hid hal
      have HA := Lib.hid hA
      have Hll := Lib.hid hll
      have Hsl := Lib.hid hsl
      clear hch hl hs hb1 hf41 hdef2 hsall hnone hal hA hll hsl
      clear hdef hk
      go_enter Try.func18, Try.ntmps18
      go_upto_region 8 with (go_at_call 28; refine (Hch.out _ ((Ext.refl _).alloc _)).mono ?_; rintro e w1 ⟨rfl, hx1⟩; have hx01 := ((Ext.refl w).alloc _).trans hx1; have ha1 := hx1.heap Hb1.out; obtain ⟨f0, _⟩ := (Ext.refl w1).box ha1)
      have hr1 := r1_start (looks := looks) (Hl.out.ext hx01) (by omega) hc hm
      obtain ⟨W0, hW0⟩ : ∃ W0, w1.alloc (.cells #[.slice a len cap] 22) = W0 := ⟨_, rfl⟩
      rw [hW0] at hr1 ⊢
      clear hW0 f0
      have Hx01 := Lib.hid hx01
      have Hr1 := Lib.hid hr1
      clear hx01 hr1
      go_loopw [7, 28] (fun v i wr => ∃ k : Nat, k ≤ n ∧ i = .int .i64 k ∧ R1 w1 l looks k v wr) (fun _ i _ => n - (intOf i).toNat)
      case atStart => exact ⟨0, Nat.zero_le _, rfl, Hr1.out⟩
      case round =>
        clear Hr1
        obtain ⟨k, hk, rfl, hR⟩ := hrel
        obtain ⟨vs, hvs, hx, how, hrows, hoks⟩ := hR
        obtain ⟨va, vc, hv, _, hvc, hvm, _⟩ := how.slAt
        rw [List.length_map, hvs] at hv hvc
        subst hv
        by_cases hlt : k < n
        · have hltB : decide ((k : Int) < (n : Int)) = true := by simp; omega
          obtain ⟨sb, so, x, rfl, hsk, hslt, c0, c1, c2, c3, c4, c5, c6, c7, c8, c9⟩ := (Hs.out.ext (Hx01.out.trans hx)).get k hlt
          have hgx : looks.getD k zl = x := by simp [List.getD, hsk]
          have hal := Hal.out k hlt
          rw [hgx] at hal
          unfold HalvesPost at hal
          cases hso : sightOk x with
          | false =>
            have hf := Hf41.out ⟨k, hlt, by rw [hgx]; exact hso⟩
            have hal2 : ∀ W, Calls Try.prog 51 #[x.val] W fun e w' => e = .returned (.tuple #[.slice none 0 0, .bool false]) ∧ Ext W w' := fun W => (hal W).mono fun e w' h => h.elim (fun h => absurd h.1 (by rw [hso]; simp)) (fun h => h.2)
            unfold Sight.val at hal2
            have Hf := Lib.hid hf
            have Hal2 := Lib.hid hal2
            have Hx := Lib.hid hx
            clear hf hal2 hx
            clear hal how hrows hoks hsk hso hgx
            go_wp2_with (go_at_call 51; refine (Hal2.out _).mono ?_; rintro e w2 ⟨rfl, hx2⟩)
            exact Hf.out _ ((Hx01.out.trans Hx.out).trans (((Ext.refl _).alloc _).trans hx2))
          | true =>
            have hal2 : ∀ W, Calls Try.prog 51 #[x.val] W fun e w' => ∃ a c, e = .returned (.tuple #[.slice a (halvesOf x).length c, .bool true]) ∧ (halvesOf x).length ≤ c ∧ c ≤ maxLen ∧ Ext W w' ∧ HalvesAt w' a (halvesOf x).length (halvesOf x) ∧ From W.heap.size a := fun W => (hal W).mono fun e w' h => h.elim (fun h => h.2) (fun h => absurd h.1 (by rw [hso]; simp))
            have hmore := fun (W W' : World) (v' : Value) (ma : Option Addr) (m mc : Nat) => r1_more (w := w1) (wr := wr) (W := W) (W' := W') (l := l) (looks := looks) (k := k) (v' := v') (ma := ma) (m := m) (mc := mc) (vs := vs) (by have := Hsl.out; omega) hvs hx how hrows hoks (by rw [hgx]; exact hso)
            rw [hgx] at hmore
            have hxs := hx.size
            unfold Sight.val at hal2
            try simp only at hal2
            generalize halvesOf x = M at *
            obtain ⟨m, hml⟩ : ∃ m, M.length = m := ⟨_, rfl⟩
            rw [hml] at hal2
            have hvl : (vs.map fun u => [u]).length = k + 1 := by rw [List.length_map, hvs]
            have Hal2 := Lib.hid hal2
            have Hx := Lib.hid hx
            have Hmore := Lib.hid hmore
            have How := Lib.hid how
            have Hvl := Lib.hid hvl
            clear hal2 hx hmore how hvl
            clear hal hrows hoks hsk hso hgx
            go_wp2_with (first | (go_at_call 51; refine (Hal2.out _).mono ?_; rintro e w2 ⟨ma, mc, rfl, m1, m2, hx2, hM, hfm⟩; have hxr2 := (((Ext.refl wr).alloc (.cells #[.int .u8 x.kind, .int .i64 x.x, .int .i64 x.y, .int .i64 x.fx, .int .i64 x.fy, .int .i64 x.tx, .int .i64 x.ty, .int .i64 x.nl, .int .i64 x.nh, .int .i64 x.far] 30)).trans hx2).alloc (.cells #[.slice ma m mc] 22)) | (at_builtin; refine wpList_app elem104 _ rfl (.tmp 39) (.tmp 41) rfl w1.heap.size _ (vs.map fun u => [u]) rfl (How.out.ext hxr2) (some ⟨w2.heap.size, 0, none⟩) 1 1 [[.slice ma m mc]] rfl rfl (slAt_one (cells_one (by rw [cell_of_row _ _ _ _ 22 (0, 0) (alloc_at _ _ _ rfl)]; rfl))) (fun r hr => by rw [List.mem_singleton] at hr; rw [hr]; exact ⟨rfl, fun u hu => by rw [List.mem_singleton] at hu; rw [hu]; rfl⟩) ?_ ?_ ?_))
            · rw [Hvl.out]
              omega
            · exact Nat.le_trans hxs hxr2.size
            · intro v3 w3 ho3 hg3 hob
              have hr3 := Hmore.out (w2.alloc (.cells #[.slice ma m mc] 22)) w3 v3 ma m mc hxr2 (hM.ext ((Ext.refl _).alloc _)) m1 m2 (hfm.mono (by simp)) ho3 hg3 (by simpa using hob)
              have Hr3 := Lib.hid hr3
              clear hr3
              clear ho3 hg3 hob
              go_wp2_with fail
              go_roundw
              case rel => exact ⟨k + 1, by omega, by go_num, Hr3.out⟩
              case measure => simp [intOf]; omega
        · have hltB : decide ((k : Int) < (n : Int)) = false := by simp; omega
          obtain rfl : n = k := by omega
          have hsln := Hsl.out
          have hLn : ∀ out, (listsBut l looks out).length = n + 1 := fun out => by rw [listsBut_len, hsln]
          obtain ⟨bb, bc, hv', hB, hbl, hcap1, hcap2, hRows⟩ := rows_of_owns (ls := listsBut l looks fun _ => false) how (by rw [hvs, hLn]) (by rw [hLn]; omega) (fun j hj => hrows j (by rw [hLn] at hj; exact hj))
          simp only [Value.slice.injEq] at hv'
          obtain ⟨rfl, hmid, rfl⟩ := hv'
          clear hmid
          rw [hLn] at hcap1
          have hin := fun out => allBut_in (looks := looks) (fun h hh => HA.out.each h hh) (fun i hi => hoks i (by omega)) out
          have hln := fun out => allBut_len (l := l) (looks := looks) (by have := Hll.out; omega) (by omega) out
          have hsm := fun out S W (hW : ListRows W bb vc S (listsBut l looks out)) => some_any (some ⟨bb, 0, none⟩) (n + 1) vc _ W (by have := hW.lists; rw [hLn] at this; exact this) (by omega) (hln out) (hin out)
          simp only [listsBut_flat] at hsm
          have hd2 := Hdef2.out hoks
          have hx1w := Hx01.out.trans hx
          have hc52 := hsm _ _ _ hRows
          cases hsB : someB (allBut l looks fun _ => false) with
          | true =>
            have hf := Hnone.out 6 (by rw [hd2, hsB]; rfl)
            rw [hsB] at hc52
            have Hf := Lib.hid hf
            have Hc52 := Lib.hid hc52
            have Hx1w := Lib.hid hx1w
            clear hf hc52 hx1w
            clear how hrows hoks hsB hd2 hRows hsm hin hln hLn hsln
            go_wp2_with (go_at_call 52; refine Hc52.out.mono ?_; rintro e w4 ⟨rfl, hx4⟩)
            exact Hf.out _ (Hx1w.out.trans hx4)
          | false =>
            have hf := Hsall.out (setTo l looks n) (by rw [hd2, hsB]; rfl)
            rw [hsB] at hc52
            have Hf := Lib.hid hf
            have Hc52 := Lib.hid hc52
            have Hx1w := Lib.hid hx1w
            have Hsm := Lib.hid hsm
            have Hx := Lib.hid hx
            have HRows := Lib.hid hRows
            clear hf hc52 hx1w hsm hx hRows
            clear how hrows hoks hsB hd2 hin hln hLn
            go_upto_region 19 with (go_at_call 52; refine Hc52.out.mono ?_; rintro e w4 ⟨rfl, hx4⟩)
            have hR4 : ListRows w4 bb vc w4.heap.size (listsBut l looks (outTo l looks 0)) := (HRows.out.ext hx4).up hx4.size
            have hx14 := Hx.out.trans hx4
            have hbb4 : bb < w4.heap.size := Nat.lt_of_lt_of_le hbl hx4.size
            have HR4 := Lib.hid hR4
            have Hx14 := Lib.hid hx14
            clear hR4 hx14
            go_loopw [12, 48] (fun v i wq => ∃ k : Nat, k ≤ n ∧ i = .int .i64 k ∧ R2 w1 w4 l looks bb vc k v wq) (fun _ i _ => n - (intOf i).toNat)
            case atStart => exact ⟨0, Nat.zero_le _, rfl, Hx14.out, Nat.le_refl _, HR4.out, Owns.nil _ _ _ _⟩
            case round =>
              clear HR4
              obtain ⟨k, hk, rfl, hR2⟩ := hrel
              by_cases hlt : k < n
              · have hltB : decide ((k : Int) < (n : Int)) = true := by simp; omega
                obtain ⟨hxo, hRo, hoo, ka, kn, kc, c0, fz0, hrow⟩ := r2_out hR2 (by omega) hB hbb4
                have hsz := hR2.2.1
                have hc2 := Hsm.out _ _ _ hRo
                have hblt := Nat.lt_of_lt_of_le hbb4 hsz
                have hszW : w4.heap.size ≤ (wr.setCell ⟨bb, k + 1, none⟩ (.slice none 0 0)).heap.size := by simp; exact hsz
                have hkl : k < looks.length := by omega
                obtain ⟨va, vc', hv, hvl⟩ := hoo.slAt
                obtain ⟨vn, hvn⟩ : ∃ vn, (intRows .i64 (setTo l looks k)).length = vn := ⟨_, rfl⟩
                rw [hvn] at hv
                clear hvl
                subst hv
                cases hsk : someB (allBut l looks fun j => j == k || outTo l looks k j) with
                | false =>
                  rw [hsk] at hc2
                  have hgone := fun w5 (hx5 : Ext (wr.setCell ⟨bb, k + 1, none⟩ (.slice none 0 0)) w5) => r2_gone (bc := vc) hkl hxo hszW hRo hoo hsk hx5
                  have Hc2 := Lib.hid hc2
                  have Hgone := Lib.hid hgone
                  clear hc2 hgone
                  clear hR2 hxo hRo hoo hrow hsk hvn
                  go_wp2_with (go_at_call 52; refine Hc2.out.mono ?_; rintro e w5 ⟨rfl, hx5⟩; have hR5 := Hgone.out _ hx5; clear Hc2 Hgone)
                  have HR5 := Lib.hid hR5
                  clear hR5
                  go_roundw
                  case rel => exact ⟨k + 1, by omega, by go_num, HR5.out⟩
                  case measure => simp [intOf]; omega
                | true =>
                  rw [hsk] at hc2
                  have hback := fun w5 (hx5 : Ext (wr.setCell ⟨bb, k + 1, none⟩ (.slice none 0 0)) w5) => r2_back (bc := vc) (wq := wr) hkl hB hbb4 hxo hszW hRo hoo hsk hx5 ((hrow.set (i := k + 1) (u := .slice none 0 0)).ext hx5 (Nat.le_refl _))
                  have hbox : ∃ cur u, (wr.setCell ⟨bb, k + 1, none⟩ (.slice none 0 0)).heap[bb]? = some (.cells cur 22 (0, 0)) ∧ cur[k + 1]? = some u := by
                    obtain ⟨cur, hcb, _, hr⟩ := hRo
                    obtain ⟨u, hu, _⟩ := hr (k + 1) (by rw [listsBut_len]; omega)
                    exact ⟨cur, u, hcb, hu⟩
                  obtain ⟨cur, u, hcb, hu⟩ := hbox
                  have hsl := setTo_len l looks k
                  have hirl : (intRows .i64 (setTo l looks k)).length ≤ k := by simpa [intRows] using hsl
                  have Hc2 := Lib.hid hc2
                  have Hback := Lib.hid hback
                  have Hcb := Lib.hid hcb
                  have Hu := Lib.hid hu
                  have Hirl := Lib.hid hirl
                  clear hc2 hback hcb hu hirl
                  clear hR2 hxo hRo hoo hrow hsk hvn hsl
                  go_wp2_with (first | (go_at_call 52; refine Hc2.out.mono ?_; rintro e w5 ⟨rfl, hx5⟩; have hbk := Hback.out _ hx5; have hcb5 := hx5.heap Hcb.out; have hbl5 := heap_lt hcb5; have c5 : w5.cell? ⟨bb, k + 1, none⟩ = some u := (cell_of_row w5 bb _ _ 22 (0, 0) hcb5).trans Hu.out; have fz5 := (((Ext.refl w5).box hcb5).2 (k + 1)); have Hbk := Lib.hid hbk; clear hbk hcb5 hx5 Hc2 Hback) | (at_builtin; refine wpList_app elem39 _ rfl (.tmp 67) (.tmp 69) rfl w4.heap.size _ (intRows .i64 (setTo l looks k)) rfl (Hbk.out.2.2.2.1.alloc _) (some ⟨w5.heap.size, 0, none⟩) 1 1 [[.int .i64 k]] rfl rfl (slAt_one (cells_one (by rw [cell_of_row _ _ _ _ 3 (0, 0) (alloc_at _ _ _ (by simp))]; rfl))) (fun r hr => by rw [List.mem_singleton] at hr; rw [hr]; exact ⟨rfl, fun u hu => by rw [List.mem_singleton] at hu; rw [hu]; rfl⟩) ?_ ?_ ?_))
                  · have := Hirl.out
                    omega
                  · exact Nat.le_trans Hbk.out.2.1 (by simp)
                  · intro v6 w6 ho6 hg6 _
                    rw [← Hbk.out.2.2.2.2] at ho6
                    have hxa : Ext (w5.setCell ⟨bb, k + 1, none⟩ (.slice ka kn kc)) ((w5.setCell ⟨bb, k + 1, none⟩ (.slice ka kn kc)).alloc (.cells #[.int .i64 k] 3)) := (Ext.refl _).alloc _
                    have hR6 := r2_kept hbb4 Hx14.out.size (Hbk.out.1.trans hxa) (Nat.le_trans Hbk.out.2.1 hxa.size) (Hbk.out.2.2.1.ext hxa) (Hbk.out.2.2.2.1.ext hxa) hg6 ho6
                    have HR6 := Lib.hid hR6
                    clear hR6
                    clear ho6 hg6 hxa
                    go_wp2_with fail
                    go_roundw
                    case rel => exact ⟨k + 1, by omega, by go_num, HR6.out⟩
                    case measure => simp [intOf]; omega
              · have hltB : decide ((k : Int) < (n : Int)) = false := by simp; omega
                obtain rfl : n = k := by omega
                obtain ⟨hxq, _, _, hoq⟩ := hR2
                obtain ⟨qa, qc, hv, _, h1, h2, h3⟩ := ints_of_owns hoq
                obtain ⟨N, hN⟩ : ∃ N, (setTo l looks n).length = N := ⟨_, rfl⟩
                rw [hN] at hv h1 h3
                subst hv
                have Hxq := Lib.hid hxq
                have H1 := Lib.hid h1
                have H2 := Lib.hid h2
                have H3 := Lib.hid h3
                have HN := Lib.hid hN
                clear hxq h1 h2 h3 hN
                clear hoq
                go_wp2_with fail
                exact Hf.out _ _ _ _ HN.out H1.out H2.out (Hx01.out.trans Hxq.out) H3.out
end Go.Proofs.Ytacdndehlkaaeaa
