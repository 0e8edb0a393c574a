/- The reference: Clash. -/
import Derived.Test.YtacdndehlkaaeaaVRefFits
import Derived.Test.YtacdndehlkaaeaaVClash
namespace Go.Proofs.Ytacdndehlkaaeaa
open Go.RowKit
set_option linter.unusedVariables false
set_option linter.unusedSimpArgs false
/-- a block of truth values -/
def BoolBox (W : World) (b n : Nat) (f : Nat → Bool) : Prop := ∃ cur : Array Value, W.heap[b]? = some (.cells cur 4 (0, 0)) ∧ cur.size = n ∧ ∀ j, j < n → cur[j]? = some (.bool (f j))
theorem BoolBox.ext {W W' : World} {b n : Nat} {f : Nat → Bool} (h : BoolBox W b n f) (hx : Ext W W') : BoolBox W' b n f := let ⟨cur, h1, h2, h3⟩ := h; ⟨cur, hx.heap h1, h2, h3⟩
theorem BoolBox.keep {W W' : World} {b n : Nat} {f : Nat → Bool} (h : BoolBox W b n f) (hx : W'.heap[b]? = W.heap[b]?) : BoolBox W' b n f := let ⟨cur, h1, h2, h3⟩ := h; ⟨cur, hx.trans h1, h2, h3⟩
theorem BoolBox.at {W : World} {b n : Nat} {f : Nat → Bool} (h : BoolBox W b n f) : BoolsAt W (some ⟨b, 0, none⟩) n f := by
  obtain ⟨cur, h1, h2, h3⟩ := h
  refine fun _ => ⟨b, 0, rfl, fun k hk j v hv => ?_⟩
  cases j with
  | zero =>
    cases hv
    rw [Nat.zero_add, Nat.mul_one, Nat.add_zero, cell_of_row W b k _ 4 (0, 0) h1]
    exact h3 k hk
  | succ j => simp at hv
theorem BoolBox.get {W : World} {b n : Nat} {f : Nat → Bool} (h : BoolBox W b n f) (k : Nat) (hk : k < n) : W.cell? ⟨b, k, none⟩ = some (.bool (f k)) ∧ W.frozen? ⟨b, k, none⟩ = false := by
  obtain ⟨cur, h1, h2, h3⟩ := h
  exact ⟨(cell_of_row W b k _ 4 (0, 0) h1).trans (h3 k hk), ((Ext.refl W).box h1).2 k⟩
theorem BoolBox.set {W : World} {b n k : Nat} {f g : Nat → Bool} {v : Bool} (h : BoolBox W b n f) (h1 : k < n → g k = v) (h2 : ∀ j, j < n → j ≠ k → g j = f j) : BoolBox (W.setCell ⟨b, k, none⟩ (.bool v)) b n g := by
  obtain ⟨cur, hb, hc, hr⟩ := h
  refine ⟨cur.setIfInBounds k (.bool v), ?_, by simp [hc], fun i hi => ?_⟩
  · rw [heap_setCell_box, hb, Option.map_some, setIn_cells]
  · by_cases e : i = k
    · subst e
      simp [hc, hi, h1 hi]
    · rw [Array.getElem?_setIfInBounds_ne (fun h => e h.symm), hr i hi, h2 i hi e]
theorem BoolBox.congr {W : World} {b n : Nat} {f g : Nat → Bool} (h : BoolBox W b n f) (hg : ∀ j, j < n → g j = f j) : BoolBox W b n g := let ⟨cur, h1, h2, h3⟩ := h; ⟨cur, h1, h2, fun j hj => by rw [h3 j hj, hg j hj]⟩
theorem info4 : (Try.prog.info? 4).map (fun i => (i.zero, i.size, i.bytes)) = some (some (.bool false), 1, 1) := by kernel_rfl
theorem made_bools (m : Nat) : madeCells (Value.bool false).cells m = Array.replicate m (.bool false) := by
  apply Array.ext
  · simp [size_madeCells]
  · intro i h1 h2
    have h2' : i < m := by simpa using h2
    simp [madeCells, Value.cells, Nat.mod_one]
theorem mk105 (m : Nat) (hm : m ≤ 1000000) (w : World) : (Instr.makeSlice 105 (.int .i64 m) (.int .i64 m)).run Try.prog w = .ok (.slice (some ⟨w.heap.size, 0, none⟩) m m) (w.alloc (.cells (Array.replicate m (.bool false)) 4)) := by
  obtain ⟨i, h1, h2, h3, h4⟩ := info_parts info4
  have := run_makeSlice (P := Try.prog) w 105 4 i (.bool false) Try.underlying105 h1 h2 .i64 .i64 m m (by omega) (Int.le_refl _) (by rw [h3]; simp; omega) (by rw [h4]; omega) (by omega)
  rw [h3, Int.toNat_natCast, Nat.mul_one, made_bools] at this
  exact this
/-- some looks are out, the others are kept -/
def R3 (w w4 : World) (l : List Half) (looks : List Sight) (ob n k : Nat) (v : Value) (wq : World) : Prop :=
  Ext w wq ∧ w4.heap.size ≤ wq.heap.size ∧ BoolBox wq ob n (outTo l looks k) ∧ Owns wq w4.heap.size 3 1 v (intRows .i64 (setTo l looks k))
theorem r3_out {w w4 wq : World} {l : List Half} {looks : List Sight} {ob n k : Nat} {v : Value} (h : R3 w w4 l looks ob n k v wq) (h1 : w.heap.size ≤ ob) (h4 : ob < w4.heap.size) :
    Ext w (wq.setCell ⟨ob, k, none⟩ (.bool true)) ∧ BoolBox (wq.setCell ⟨ob, k, none⟩ (.bool true)) ob n (fun j => j == k || outTo l looks k j) ∧ Owns (wq.setCell ⟨ob, k, none⟩ (.bool true)) w4.heap.size 3 1 v (intRows .i64 (setTo l looks k)) := by
  obtain ⟨hx, hsz, hB, ho⟩ := h
  exact ⟨hx.setCell (by exact h1) _, hB.set (fun _ => by simp) (fun j _ hj => by simp [hj]), owns_set ho h4⟩
theorem r3_gone {w w4 W w5 : World} {l : List Half} {looks : List Sight} {ob n k : Nat} {v : Value} (hx : Ext w W) (hsz : w4.heap.size ≤ W.heap.size) (hB : BoolBox W ob n (fun j => j == k || outTo l looks k j)) (ho : Owns W w4.heap.size 3 1 v (intRows .i64 (setTo l looks k))) (hs : someB (allBut l looks fun j => j == k || outTo l looks k j) = false) (hx5 : Ext W w5) : R3 w w4 l looks ob n (k + 1) v w5 := by
  have hk : outTo l looks (k + 1) k = true := by rw [outTo_succ_eq, hs]; rfl
  refine ⟨hx.trans hx5, Nat.le_trans hsz hx5.size, (hB.ext hx5).congr fun j _ => ?_, ?_⟩
  · by_cases e : j = k
    · subst e; rw [hk]; simp
    · rw [outTo_succ_ne l looks e]; simp [e]
  · rw [setTo_succ, hk]
    simp only [if_true, List.append_nil]
    exact ho.ext hx5
theorem r3_back {w w4 W w5 : World} {l : List Half} {looks : List Sight} {ob n k : Nat} {v : Value} (h1 : w.heap.size ≤ ob) (h4 : ob < w4.heap.size) (hx : Ext w W) (hsz : w4.heap.size ≤ W.heap.size) (hB : BoolBox W ob n (fun j => j == k || outTo l looks k j)) (ho : Owns W w4.heap.size 3 1 v (intRows .i64 (setTo l looks k))) (hs : someB (allBut l looks fun j => j == k || outTo l looks k j) = true) (hx5 : Ext W w5) :
    Ext w (w5.setCell ⟨ob, k, none⟩ (.bool false)) ∧ w4.heap.size ≤ (w5.setCell ⟨ob, k, none⟩ (.bool false)).heap.size ∧ BoolBox (w5.setCell ⟨ob, k, none⟩ (.bool false)) ob n (outTo l looks (k + 1)) ∧ Owns (w5.setCell ⟨ob, k, none⟩ (.bool false)) w4.heap.size 3 1 v (intRows .i64 (setTo l looks k)) ∧ intRows .i64 (setTo l looks (k + 1)) = intRows .i64 (setTo l looks k) ++ [[.int .i64 (k : Int)]] := by
  have hk : outTo l looks (k + 1) k = false := by rw [outTo_succ_eq, hs]; rfl
  refine ⟨(hx.trans hx5).setCell (by exact h1) _, by simp; exact Nat.le_trans hsz hx5.size, (hB.ext hx5).set (fun _ => hk) (fun j _ e => ?_), owns_set (ho.ext hx5) h4, ?_⟩
  · rw [outTo_succ_ne l looks e]; simp [e]
  · rw [setTo_succ, hk, intRows_append]
    rfl
theorem r3_kept {w w4 W W' : World} {l : List Half} {looks : List Sight} {ob n k : Nat} {v v' : Value} (h4 : ob < w4.heap.size) (h14 : w.heap.size ≤ w4.heap.size) (hx : Ext w W) (hsz : w4.heap.size ≤ W.heap.size) (hB : BoolBox W ob n (outTo l looks (k + 1))) (ho : Owns W w4.heap.size 3 1 v (intRows .i64 (setTo l looks k))) (hg : W.grownBy W' v.ownBlock) (ho' : Owns W' w4.heap.size 3 1 v' (intRows .i64 (setTo l looks (k + 1)))) : R3 w w4 l looks ob n (k + 1) v' W' := by
  have hlt := fun g (e : v.ownBlock = some g) => (ho.lt g e).1
  refine ⟨?_, Nat.le_trans hsz hg.size, hB.keep (hg.block ob (by omega) fun e => by have := hlt _ e.symm; omega), ho'⟩
  exact Below.grown hx hg hx.size (fun g e => Nat.le_trans h14 (hlt g e))
set_option maxRecDepth 100000 in
set_option maxHeartbeats 8000000 in
theorem rclash_any (a : Option Addr) (len cap : Nat) (l : List Half) (b : Option Addr) (n c : Nat) (looks : List Sight) (w : World) (hl : HalvesAt w a len l) (hlen : len ≤ 100000) (hs : SightsAt w b n looks) (hn : n ≤ 100000) :
    Calls Try.prog 19 #[.agg #[.slice a len cap], .slice b n c] w (ClashPost l looks w) := by
  have hch := fun W (hW : Ext w W) => area_any a len cap l W (hl.ext hW) hlen
  have hnone := fun (k : Int) (h : clashOf l looks = ([], k)) => clash_none (w := w) h
  have hsall := fun m (h : clashOf l looks = (m, 0)) => clash_all (w := w) h
  have hdef : clashOf l looks = if areaOk l = false then ([], 40) else if 10 < looks.length then ([], 4) else if looks.all sightOk = false then ([], 41) else
    if someB (allBut l looks fun _ => false) then ([], 6) else (setTo l looks looks.length, 0) := rfl
  obtain ⟨Q, hQ⟩ : ∃ Q, ClashPost l looks w = Q := ⟨_, rfl⟩
  rw [hQ]
  simp only [hQ] at hnone hsall
  generalize clashOf l looks = sl at *
  have hll := hl.1
  have hsl := hs.1
  clear hQ
  obtain ⟨W0, hW0⟩ : ∃ W0, w.alloc (.cells #[.slice a len cap] 24) = W0 := ⟨_, rfl⟩
  have hx0 : Ext w W0 := by rw [← hW0]; exact (Ext.refl w).alloc _
  have hb0 : W0.heap[w.heap.size]? = some (.cells #[.slice a len cap] 24 (0, 0)) := by rw [← hW0]; exact heap_alloc_new w _
  obtain ⟨z0, _⟩ := (Ext.refl W0).box hb0
  have Hx0 := Lib.hid hx0
  have Hb0 := Lib.hid hb0
  clear hx0 hb0
  cases hao : areaOk l with
  | false =>
    have hfin := hnone 40 (by rw [hdef, if_pos hao])
    rw [hao] at hch
    have Hch := Lib.hid hch
    have Hfin := Lib.hid hfin
    clear hch hfin
    clear hl hnone hsall hdef hs
    go_enter Try.func19, Try.ntmps19
    go_wp2_with (go_at_call 53; refine (Hch.out _ Hx0.out).mono ?_; rintro e w1 ⟨rfl, hx1⟩)
    exact Hfin.out _ (Hx0.out.trans hx1)
  | true =>
    have hA := areaOk_iff.1 hao
    have hlen4 := hA.len
    rw [hll] at hlen4
    rw [hao] at hch
    by_cases hten : 10 < n
    · have hfin := hnone 4 (by rw [hdef, hao, if_neg (by simp), if_pos (by omega)])
      have htB : decide ((10 : Int) < (n : Int)) = true := decide_eq_true (by omega)
      have htB' : decide (10 < n) = true := decide_eq_true hten
      have Hch := Lib.hid hch
      have Hfin := Lib.hid hfin
      clear hch hfin
      clear hl hnone hsall hdef hs hA
      go_enter Try.func19, Try.ntmps19
      go_wp2_with (go_at_call 53; refine (Hch.out _ Hx0.out).mono ?_; rintro e w1 ⟨rfl, hx1⟩)
      exact Hfin.out _ (Hx0.out.trans hx1)
    · have htB : decide ((10 : Int) < (n : Int)) = false := decide_eq_false (by omega)
      have htB' : decide (10 < n) = false := decide_eq_false hten
      have hf41 : (∃ i, i < n ∧ sightOk (looks.getD i zl) = false) → ∀ w', Ext w w' → Q (.returned (.tuple #[.slice none 0 0, .int .i64 41])) w' := fun ⟨i, hi, h⟩ => hnone 41 (by
        rw [hdef, hao, if_neg (by simp), if_neg (by omega), if_pos]
        rw [Bool.eq_false_iff]
        intro hall
        rw [List.all_eq_true] at hall
        have := hall (looks.getD i zl) (by simp only [List.getD, List.getElem?_eq_getElem (show i < looks.length by omega), Option.getD_some]; exact List.getElem_mem _)
        rw [this] at h
        cases h)
      have hdef2 : (∀ i, i < n → sightOk (looks.getD i zl) = true) → sl = if someB (allBut l looks fun _ => false) then ([], 6) else (setTo l looks n, 0) := fun h => by
        rw [hdef, hao, if_neg (by simp), if_neg (by omega), if_neg, hsl]
        rw [Bool.not_eq_false, List.all_eq_true]
        intro x hx
        obtain ⟨i, hi, rfl⟩ := List.mem_iff_getElem.1 hx
        have := h i (by omega)
        simpa [List.getD, hi] using this
      have hlo := looks_any
      have hmk := fun W => mk105 n (by omega) W
      have hfi := fun (oa : Option Addr) (out : Nat → Bool) W (hW : Ext w W) (hB : BoolsAt W oa n out) (hok : ∀ i, i < n → sightOk (looks.getD i zl) = true) => fits_any a len cap l b n c looks oa n n out W (hl.ext hW) (by omega) (hs.ext hW) (by omega) hB rfl hA.each (fun i hi => hok i (by omega))
      have Hch := Lib.hid hch
      have Hs := Lib.hid hs
      have Hl := Lib.hid hl
      have Hf41 := Lib.hid hf41
      have Hdef2 := Lib.hid hdef2
      have Hsall := Lib.hid hsall
      have Hnone := Lib.hid hnone
      have Hlo := Lib.hid hlo
      have HA := Lib.hid hA
      have Hll := Lib.hid hll
      have Hsl := Lib.hid hsl
      have Hfi := Lib.hid hfi
      clear hch hs hl hf41 hdef2 hsall hnone hlo hA hll hsl hfi
      clear hdef
      go_enter Try.func19, Try.ntmps19
      go_upto_region 6 with (go_at_call 53; refine (Hch.out _ Hx0.out).mono ?_; rintro e w1 ⟨rfl, hx1⟩; have hx01 := Hx0.out.trans hx1; have ha1 := hx1.heap Hb0.out)
      have Hx01 := Lib.hid hx01
      have Ha1 := Lib.hid ha1
      clear hx01 ha1
      clear z0 hx1
      go_loopw [6] (fun i wr => ∃ k : Nat, k ≤ n ∧ i = .int .i64 k ∧ Ext w1 wr ∧ ∀ i, i < k → sightOk (looks.getD i zl) = true) (fun i _ => n - (intOf i).toNat)
      case atStart => exact ⟨0, Nat.zero_le _, rfl, Ext.refl _, fun i hi => absurd hi (Nat.not_lt_zero _)⟩
      case round =>
        obtain ⟨k, hk, rfl, hx, hoks⟩ := hrel
        by_cases hlt : k < n
        · have hltB : decide ((k : Int) < (n : Int)) = true := by simp; omega
          obtain ⟨sb, so, x, rfl, hsk, hslt, c0, c1, c2, c3, c4, c5, c6, c7, c8, c9⟩ := (Hs.out.ext (Hx01.out.trans hx)).get k hlt
          have hgx : looks.getD k zl = x := by simp [List.getD, hsk]
          have hlo := fun W => Hlo.out x W
          unfold Sight.val at hlo
          cases hso : sightOk x with
          | false =>
            have hf := Hf41.out ⟨k, hlt, by rw [hgx]; exact hso⟩
            rw [hso] at hlo
            have Hf := Lib.hid hf
            have Hx := Lib.hid hx
            clear hf hx
            have Hlo2 := Lib.hid hlo
            clear hlo hoks hsk hso hgx
            go_wp2_with (go_at_call 42; refine (Hlo2.out _).mono ?_; rintro e w2 ⟨rfl, hx2⟩)
            exact Hf.out _ ((Hx01.out.trans Hx.out).trans hx2)
          | true =>
            have hoks' : ∀ i, i < k + 1 → sightOk (looks.getD i zl) = true := fun i hi => by
              rcases Nat.lt_or_ge i k with h | h
              · exact hoks i h
              · obtain rfl : i = k := by omega
                rw [hgx]
                exact hso
            rw [hso] at hlo
            have Hx := Lib.hid hx
            have Hoks' := Lib.hid hoks'
            clear hx hoks'
            have Hlo2 := Lib.hid hlo
            clear hlo hoks hsk hso hgx
            go_wp2_with (go_at_call 42; refine (Hlo2.out _).mono ?_; rintro e w2 ⟨rfl, hx2⟩)
            go_roundw
            case rel => exact ⟨k + 1, by omega, by go_num, Hx.out.trans hx2, Hoks'.out⟩
            case measure => simp [intOf]; omega
        · have hltB : decide ((k : Int) < (n : Int)) = false := by simp; omega
          obtain rfl : n = k := by omega
          have hd2 := Hdef2.out hoks
          have hw := Hx01.out.trans hx
          have hA2 := hx.heap Ha1.out
          have hbx : ∀ b, b = wr.heap.size → BoolBox (wr.alloc (.cells (Array.replicate n (.bool false)) 4)) b n (fun _ => false) := fun b hb => ⟨_, alloc_at _ _ _ hb, by simp, fun j hj => by simp [hj]⟩
          have hfi := fun oa out W hW hB => Hfi.out oa out W hW hB hoks
          have hc1 := hfi (some ⟨wr.heap.size, 0, none⟩) (fun _ => false) _ (hw.alloc (.cells (Array.replicate n (.bool false)) 4)) (hbx _ rfl).at
          obtain ⟨W3, hW3⟩ : ∃ W3, wr.alloc (.cells (Array.replicate n (.bool false)) 4) = W3 := ⟨_, rfl⟩
          have hx3 : Ext wr W3 := by rw [← hW3]; exact (Ext.refl _).alloc _
          have hb3 := hbx _ rfl
          have hl3 : wr.heap.size < W3.heap.size := by rw [← hW3]; simp
          rw [hW3] at hc1 hb3
          have hA3 := hx3.heap hA2
          obtain ⟨z3, _⟩ := (Ext.refl W3).box hA3
          have how := hw.size
          have hw3 := hw.trans hx3
          clear hbx hfi
          cases hsB : someB (allBut l looks fun _ => false) with
          | true =>
            have hf := Hnone.out 6 (by rw [hd2, hsB]; rfl)
            rw [hsB] at hc1
            have Hf := Lib.hid hf
            have Hc1 := Lib.hid hc1
            have Hw3 := Lib.hid hw3
            clear hf hc1 hw3
            clear hoks hsB hd2 hb3 hx hw hA2 hA3 hx3
            go_wp2_with (go_at_call 56; refine Hc1.out.mono ?_; rintro e w4 ⟨rfl, hx4⟩)
            exact Hf.out _ (Hw3.out.trans hx4)
          | false =>
            have hf := Hsall.out (setTo l looks n) (by rw [hd2, hsB]; rfl)
            rw [hsB] at hc1
            have Hf := Lib.hid hf
            have Hc1 := Lib.hid hc1
            have Hw3 := Lib.hid hw3
            have Hb3 := Lib.hid hb3
            have Hoks := Lib.hid hoks
            have Hx := Lib.hid hx
            have Hx3 := Lib.hid hx3
            clear hf hc1 hw3 hb3 hoks hx hx3
            clear hsB hd2 hw hA2
            go_upto_region 15 with (go_at_call 56; refine Hc1.out.mono ?_; rintro e w4 ⟨rfl, hx4⟩)
            clear hW3 z3 hmk
            have hB4 : BoolBox w4 wr.heap.size n (outTo l looks 0) := Hb3.out.ext hx4
            have hw4 := (Hx.out.trans Hx3.out).trans hx4
            have hbb4 : wr.heap.size < w4.heap.size := Nat.lt_of_lt_of_le hl3 hx4.size
            have how1 := Hx.out.size
            have hx14 := hw4.size
            generalize wr.heap.size = ob at *
            have HB4 := Lib.hid hB4
            have Hw4 := Lib.hid hw4
            clear hB4 hw4
            clear hx4
            go_loopw [8, 9] (fun v i wq => ∃ k : Nat, k ≤ n ∧ i = .int .i64 k ∧ R3 w1 w4 l looks ob n k v wq) (fun _ i _ => n - (intOf i).toNat)
            case atStart => exact ⟨0, Nat.zero_le _, rfl, Hw4.out, Nat.le_refl _, HB4.out, Owns.nil _ _ _ _⟩
            case round =>
              clear HB4
              obtain ⟨k, hk, rfl, hR3⟩ := hrel
              by_cases hlt : k < n
              · have hltB : decide ((k : Int) < (n : Int)) = true := by simp; omega
                obtain ⟨hxo, hBo, hoo⟩ := r3_out hR3 how1 hbb4
                obtain ⟨cb, fb⟩ := hR3.2.2.1.get k hlt
                have hAq := hR3.1.heap Ha1.out
                have hAo := hxo.heap Ha1.out
                obtain ⟨za, _⟩ := (Ext.refl _).box hAo
                have hsz := hR3.2.1
                have hszW : w4.heap.size ≤ (wr.setCell ⟨ob, k, none⟩ (.bool true)).heap.size := by simp; exact hsz
                have hc2 := Hfi.out (some ⟨ob, 0, none⟩) (fun j => j == k || outTo l looks k j) _ (Hx01.out.trans hxo) hBo.at Hoks.out
                have hblt := Nat.lt_of_lt_of_le hbb4 hsz
                obtain ⟨va, vc', hv, hvl⟩ := hoo.slAt
                obtain ⟨vn, hvn⟩ : ∃ vn, (intRows .i64 (setTo l looks k)).length = vn := ⟨_, rfl⟩
                rw [hvn] at hv
                clear hvl
                subst hv
                cases hsk : someB (allBut l looks fun j => j == k || outTo l looks k j) with
                | false =>
                  rw [hsk] at hc2
                  have hgone := fun w5 (hx5 : Ext (wr.setCell ⟨ob, k, none⟩ (.bool true)) w5) => r3_gone hxo hszW hBo hoo hsk hx5
                  have Hc2 := Lib.hid hc2
                  have Hgone := Lib.hid hgone
                  clear hc2 hgone
                  clear hR3 hxo hBo hoo hsk hvn hAo hAq
                  go_wp2_with (go_at_call 56; refine Hc2.out.mono ?_; rintro e w5 ⟨rfl, hx5⟩; have hR5 := Hgone.out _ hx5; clear Hc2 Hgone)
                  have HR5 := Lib.hid hR5
                  clear hR5
                  go_roundw
                  case rel => exact ⟨k + 1, by omega, by go_num, HR5.out⟩
                  case measure => simp [intOf]; omega
                | true =>
                  rw [hsk] at hc2
                  have hback := fun w5 (hx5 : Ext (wr.setCell ⟨ob, k, none⟩ (.bool true)) w5) => r3_back how1 hbb4 hxo hszW hBo hoo hsk hx5
                  have hgB := fun w5 (hx5 : Ext (wr.setCell ⟨ob, k, none⟩ (.bool true)) w5) => (hBo.ext hx5).get k hlt
                  have hsl := setTo_len l looks k
                  have hirl : (intRows .i64 (setTo l looks k)).length ≤ k := by simpa [intRows] using hsl
                  have Hc2 := Lib.hid hc2
                  have Hback := Lib.hid hback
                  have HgB := Lib.hid hgB
                  have Hirl := Lib.hid hirl
                  clear hc2 hback hgB hirl
                  clear hR3 hxo hBo hoo hsk hvn hsl hAo hAq
                  go_wp2_with (first | (go_at_call 56; refine Hc2.out.mono ?_; rintro e w5 ⟨rfl, hx5⟩; have hbk := Hback.out _ hx5; obtain ⟨c5, fz5⟩ := HgB.out _ hx5; have hbl5 := block_lt_of_cell c5; have Hbk := Lib.hid hbk; clear hbk hx5 Hc2 Hback HgB) | (at_builtin; refine wpList_app elem39 _ rfl (.tmp 53) (.tmp 55) rfl w4.heap.size _ (intRows .i64 (setTo l looks k)) rfl (Hbk.out.2.2.2.1.alloc _) (some ⟨w5.heap.size, 0, none⟩) 1 1 [[.int .i64 k]] rfl rfl (slAt_one (cells_one (by rw [cell_of_row _ _ _ _ 3 (0, 0) (alloc_at _ _ _ (by simp))]; rfl))) (fun r hr => by rw [List.mem_singleton] at hr; rw [hr]; exact ⟨rfl, fun u hu => by rw [List.mem_singleton] at hu; rw [hu]; rfl⟩) ?_ ?_ ?_))
                  · have := Hirl.out
                    omega
                  · exact Nat.le_trans Hbk.out.2.1 (by simp)
                  · intro v6 w6 ho6 hg6 _
                    rw [← Hbk.out.2.2.2.2] at ho6
                    have hxa : Ext (w5.setCell ⟨ob, k, none⟩ (.bool false)) ((w5.setCell ⟨ob, k, none⟩ (.bool false)).alloc (.cells #[.int .i64 k] 3)) := (Ext.refl _).alloc _
                    have hR6 := r3_kept hbb4 hx14 (Hbk.out.1.trans hxa) (Nat.le_trans Hbk.out.2.1 hxa.size) (Hbk.out.2.2.1.ext hxa) (Hbk.out.2.2.2.1.ext hxa) hg6 ho6
                    have HR6 := Lib.hid hR6
                    clear hR6
                    clear ho6 hg6 hxa
                    go_wp2_with fail
                    go_roundw
                    case rel => exact ⟨k + 1, by omega, by go_num, HR6.out⟩
                    case measure => simp [intOf]; omega
              · have hltB : decide ((k : Int) < (n : Int)) = false := by simp; omega
                obtain rfl : n = k := by omega
                obtain ⟨hxq, _, _, hoq⟩ := hR3
                obtain ⟨qa, qc, hv, _, h1, h2, h3⟩ := ints_of_owns hoq
                obtain ⟨N, hN⟩ : ∃ N, (setTo l looks n).length = N := ⟨_, rfl⟩
                rw [hN] at hv h1 h3
                subst hv
                have Hxq := Lib.hid hxq
                have H1 := Lib.hid h1
                have H2 := Lib.hid h2
                have H3 := Lib.hid h3
                have HN := Lib.hid hN
                clear hxq h1 h2 h3 hN
                clear hoq
                go_wp2_with fail
                exact Hf.out _ _ _ _ HN.out H1.out H2.out (Hx01.out.trans Hxq.out) H3.out
end Go.Proofs.Ytacdndehlkaaeaa
