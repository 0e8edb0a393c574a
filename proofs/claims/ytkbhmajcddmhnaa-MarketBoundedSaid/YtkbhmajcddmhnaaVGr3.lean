/- Contract: market.open. -/
import Derived.Test.YtkbhmajcddmhnaaVGr2
import Derived.Test.YtkbhmajcddmhnaaVGr1
namespace Go.Proofs.Ytkbhmajcddmhnaa
open Go.RowKit
set_option linter.unusedVariables false

/-- the indices below k of the offers of a place, in ascending order -/
def idxsTo (l : List Offer) (p : Int) : Nat → List Int
  | 0 => []
  | k + 1 => idxsTo l p k ++ (match l[k]? with | some o => if o.place = p then [(k : Int)] else [] | none => [])

theorem idxsTo_len (l : List Offer) (p : Int) (k : Nat) : (idxsTo l p k).length ≤ k := by
  induction k with
  | zero => simp [idxsTo]
  | succ k ih =>
    simp only [idxsTo, List.length_append]
    split
    · split <;> simp <;> omega
    · simp; omega

def Stalls (B : Nat) (w : World) (mb : Nat) (l : List Offer) (k : Nat) : Prop :=
  ∃ F, MapIs w mb (.slice none 0 0) F ∧ (∀ p, w.ownsRow B 3 1 (F p) (idxsTo l p k).length ((idxsTo l p k).map (Value.int .i64))) ∧
    ∀ p q, p ≠ q → (F p).ownBlock = none ∨ (F p).ownBlock ≠ (F q).ownBlock

/-- what the reads of 'm.stalls[x.Place] = append(m.stalls[x.Place], i)' see -/
def OpenS (h0 hr : Nat) (pl : Int) (F : Int → Value) (W : World) : Prop :=
  W.cell? ⟨h0 + 1, 1, none⟩ = some (.map (some h0)) ∧ W.cell? ⟨hr, 0, none⟩ = some (.int .i64 pl) ∧ MapIs W h0 (.slice none 0 0) F

theorem Try.info3 : (Try.prog.info? 3).map (fun i => (i.zero, i.size, i.bytes)) = some (some (.int .i64 0), 1, 8) := by kernel_rfl

theorem stalls_step {l : List Offer} {k : Nat} {x : Offer} {B mb : Nat} {wr W1 w2 w3 : World} {F : Int → Value} {v' : Value} (hx : l[k]? = some x)
    (hown : ∀ p, wr.ownsRow B 3 1 (F p) (idxsTo l p k).length ((idxsTo l p k).map (Value.int .i64))) (hdis : ∀ p q, p ≠ q → (F p).ownBlock = none ∨ (F p).ownBlock ≠ (F q).ownBlock)
    (hw1 : Ext wr W1) (hgrow2 : W1.grownBy w2 (F x.place).ownBlock) (hown2 : w2.ownsRow B 3 1 v' ((idxsTo l x.place k).length + 1) ((idxsTo l x.place k).map (Value.int .i64) ++ [.int .i64 k]))
    (hat : v'.ownBlock = (F x.place).ownBlock ∨ v'.ownBlock = some W1.heap.size) (hmap3 : MapIs w3 mb (.slice none 0 0) (fun q => if q = x.place then v' else F q)) (hgrow3 : w2.grownBy w3 (some mb)) (hB : mb < B) : Stalls B w3 mb l (k + 1) := by
  have nb : ∀ {W : World} {v : Value} {n : Nat} {xs : List Value}, W.ownsRow B 3 1 v n xs → v.ownBlock = none ∨ v.ownBlock ≠ some mb := by
    intro W v n xs h
    cases hv : v.ownBlock with
    | none => exact .inl rfl
    | some g =>
      refine .inr fun e => ?_
      have := (h.lt g hv).1
      cases e
      omega
  have nz : ∀ p q, p ≠ q → (if p = x.place then v' else F p).ownBlock = none ∨ (if p = x.place then v' else F p).ownBlock ≠ (if q = x.place then v' else F q).ownBlock := by
    intro p q hpq
    by_cases hp : p = x.place
    · have hq : q ≠ x.place := fun e => hpq (hp.trans e.symm)
      rw [if_pos hp, if_neg hq]
      rcases hat with h | h
      · rw [h]; rw [← hp]; exact hdis p q hpq
      · rw [h]
        refine .inr fun e => ?_
        have h1 := ((hown q).lt _ e.symm).2
        have h2 := hw1.size
        omega
    · rw [if_neg hp]
      by_cases hq : q = x.place
      · rw [if_pos hq]
        rcases hat with h | h
        · rw [h]; rw [← hq]; exact hdis p q hpq
        · cases hv : (F p).ownBlock with
          | none => exact .inl rfl
          | some g =>
            refine .inr fun e => ?_
            rw [h] at e
            have h1 := ((hown p).lt _ hv).2
            have h2 := hw1.size
            cases e
            omega
      · rw [if_neg hq]; exact hdis p q hpq
  refine ⟨_, hmap3, fun q => ?_, nz⟩
  by_cases hq : q = x.place
  · subst hq
    have e : idxsTo l x.place (k + 1) = idxsTo l x.place k ++ [(k : Int)] := by simp [idxsTo, hx]
    rw [if_pos rfl, e]
    have := hown2.kept hgrow3 (nb hown2)
    simpa using this
  · have e : idxsTo l q (k + 1) = idxsTo l q k := by simp [idxsTo, hx, Ne.symm hq]
    rw [if_neg hq, e]
    have h1 := (hown q).kept hw1.grownBy (by cases (F q).ownBlock <;> simp)
    have h2 := h1.kept hgrow2 (hdis q x.place hq)
    exact h2.kept hgrow3 (nb h2)

/-- offers at work, in blocks from B on: the market's block holds the offers, and a map that gives the indices of the offers of each place -/
def MarketAt (B : Nat) (w : World) (mp : Nat) (a : Option Addr) (n cap : Nat) (l : List Offer) : Prop :=
  B ≤ mp ∧ w.cell? ⟨mp, 0, none⟩ = some (.slice a n cap) ∧ ∃ mb F, B ≤ mb ∧ w.cell? ⟨mp, 1, none⟩ = some (.map (some mb)) ∧ MapIs w mb (.slice none 0 0) F ∧
    ∀ p, ∃ a' c', F p = .slice a' (idxsTo l p l.length).length c' ∧ From B a' ∧ IntsAt .i64 w a' (idxsTo l p l.length).length (idxsTo l p l.length)
theorem MarketAt.ext {B : Nat} {w w' : World} {mp : Nat} {a : Option Addr} {n cap : Nat} {l : List Offer} (h : MarketAt B w mp a n cap l) (e : Ext w w') : MarketAt B w' mp a n cap l :=
  ⟨h.1, e.cell h.2.1, let ⟨mb, F, h0, h1, h2, h3⟩ := h.2.2; ⟨mb, F, h0, e.cell h1, h2.ext e, fun p => let ⟨a', c', h4, h5, h6⟩ := h3 p; ⟨a', c', h4, h5, h6.ext e⟩⟩⟩
theorem MarketAt.mono {B C : Nat} {w : World} {mp : Nat} {a : Option Addr} {n cap : Nat} {l : List Offer} (h : MarketAt B w mp a n cap l) (hc : C ≤ B) : MarketAt C w mp a n cap l :=
  ⟨Nat.le_trans hc h.1, h.2.1, let ⟨mb, F, h0, h1, h2, h3⟩ := h.2.2; ⟨mb, F, Nat.le_trans hc h0, h1, h2, fun p => let ⟨a', c', h4, h5, h6⟩ := h3 p; ⟨a', c', h4, h5.mono hc, h6⟩⟩⟩
theorem MarketAt.same {B : Nat} {w w' : World} {mp : Nat} {a : Option Addr} {n cap : Nat} {l : List Offer} (h : MarketAt B w mp a n cap l) (e : ∀ b, B ≤ b → w'.heap[b]? = w.heap[b]?) : MarketAt B w' mp a n cap l :=
  ⟨h.1, (World.cell?_of_block (w := w) (a := ⟨mp, 0, none⟩) (e _ h.1)).trans h.2.1, let ⟨mb, F, h0, h1, h2, h3⟩ := h.2.2;
    ⟨mb, F, h0, (World.cell?_of_block (w := w) (a := ⟨mp, 1, none⟩) (e _ h.1)).trans h1, h2.same (e _ h0), fun p => let ⟨a', c', h4, h5, h6⟩ := h3 p; ⟨a', c', h4, h5, h6.same fun x hx => e _ (h5 x hx)⟩⟩⟩

theorem ints_of_row {w : World} {B : Nat} {v : Value} {n : Nat} {l : List Int} (h : w.ownsRow B 3 1 v n (l.map (Value.int .i64))) (hl : l.length = n) : ∃ a' c', v = .slice a' n c' ∧ From B a' ∧ IntsAt .i64 w a' n l := by
  have h' := h
  obtain ⟨_, h2⟩ := h
  rcases h2 with ⟨rfl, rfl⟩ | ⟨g, cap, cur, rfl, hg, _⟩
  · exact ⟨none, 0, rfl, From.none _, hl, fun h => absurd h (by omega)⟩
  · refine ⟨_, _, rfl, fun x hx => by cases hx; exact hg, hl, fun hn => ⟨g, 0, rfl, fun k hk j v hj => ?_⟩⟩
    cases j with
    | succ j => simp at hj
    | zero =>
      simp at hj
      subst hj
      have := h'.cells (g := g) rfl k (.int .i64 (l.getD k 0)) (by simp [List.getElem?_eq_getElem (show k < l.length by omega)])
      have e : (⟨g, 0, none⟩ : Addr).add k = ⟨g, k, none⟩ := by unfold Addr.add; split <;> simp_all
      rw [e] at this
      simpa using this

def OpenPost (a : Option Addr) (n cap : Nat) (l : List Offer) (w : World) (e : Ending) (w' : World) : Prop :=
  ∃ mp, e = .returned (.tuple #[.pointer (some ⟨mp, 0, none⟩), .int .i64 0]) ∧ Ext w w' ∧ MarketAt w.heap.size w' mp a n cap l

set_option maxRecDepth 100000 in
set_option maxHeartbeats 1000000 in
/-- offers that are valid -/
theorem open_ok (a : Option Addr) (n cap : Nat) (l : List Offer) (w : World) (hl : OffersAt w a n l) (hv : l.all Offer.valid = true) (hn : n ≤ 10) :
    Calls Try.prog 61 #[.slice a n cap] w (OpenPost a n cap l w) := by
  have hev := every_offer 84 (enters_of Try.func84 (by kernel_rfl) rfl) a n cap l Offer.valid w hl (by omega) (fun o _ W _ => valid_any o W)
  rw [hv] at hev
  have Hev := Lib.hid hev
  have Hl := Lib.hid hl
  clear hl hv hev
  have hn' : ¬ (10 : Int) < (n : Int) := by omega
  have hmm := @run_makeMap Try.prog
  obtain ⟨i0, hi, hz0, hz1, hz2⟩ := info_parts Try.info3
  have HI := Lib.hid hi
  have HZ0 := Lib.hid hz0
  have HZ1 := Lib.hid hz1
  have HZ2 := Lib.hid hz2
  clear hi hz0 hz1 hz2
  go_enter Try.func61, Try.ntmps61
  go_wp2_with (go_at_call 83; refine Hev.out.mono ?_; rintro e w0 ⟨rfl, hb⟩)
  have Hb := Lib.hid hb
  clear hb hmm
  go_loopw [21] (fun i wr => ∃ k : Nat, k ≤ n ∧ i = .int .i64 k ∧ Ext w0 wr ∧ w0.heap.size + 2 ≤ wr.heap.size ∧ wr.cell? ⟨w0.heap.size + 1, 0, none⟩ = some (.slice a n cap) ∧ wr.cell? ⟨w0.heap.size + 1, 1, none⟩ = some (.map (some w0.heap.size)) ∧
      Stalls (w0.heap.size + 2) wr w0.heap.size l k) (fun i _ => n - (intOf i).toNat)
  case atStart => exact ⟨0, Nat.zero_le _, rfl, ((Ext.refl _).alloc _).alloc _, by simp, by simp [go_sem], by simp [go_sem], fun _ => .slice none 0 0, (MapIs.made _ _).ext ((Ext.refl _).alloc _), fun p => World.ownsRow_nil _ _ _ _, fun p q _ => .inl rfl⟩
  case round =>
    obtain ⟨k, hk, rfl, hx, hsz, hm0, hm1, hst⟩ := hrel
    by_cases hlt : k < n
    · obtain ⟨b, off, x, rfl, hxk, hb, c0, c1, c2, c3, c4, c5, c6, c7⟩ := ((Hl.out.ext Hb.out).ext hx).get k hlt
      have Hxk := Lib.hid hxk
      have Hst := Lib.hid hst
      have Hx := Lib.hid hx
      clear hxk hst hx
      go_wp2_with fail
      obtain ⟨F, hF, hown, hdis⟩ := Hst.out
      have HF := Lib.hid hF
      have Hown := Lib.hid hown
      have Hdis := Lib.hid hdis
      clear hF hown hdis Hst
      refine wp_region_mix [0, 1, 2, 3, 4, 5, 6, 7, 8, 9, 10, 11, 12, 13] [(14, false), (15, false), (16, true)]
        (OpenS w0.heap.size wr.heap.size x.place F) _ _ (by kernel_rfl) (by kernel_rfl) (by kernel_rfl) rfl rfl ?_ ?_
      · refine ⟨?_, ?_, ?_⟩
        · exact ((Ext.refl _).alloc _).drew.cell hm1
        · simp [go_sem]
        · exact HF.out.ext ((Ext.refl _).alloc _).drew
      · intro ι _ f hf
        have f1 := fun p => (hf p).1
        have f2 := fun p => (hf p).2.1
        have f3 : ∀ p, (Instr.lookup 130 (.map (some w0.heap.size)) (.int .i64 x.place) false).run Try.prog (f p) = .ok (F x.place) (f p) := fun p => run_lookup_int (hf p).2.2 Try.underlying130 Try.underlying3 (by kernel_rfl) x.place
        clear hf
        simp only [opsOf, opsOfT, consOp, consOpT, List.getElem?_toArray, List.getElem?_cons_succ, List.getElem?_cons_zero]
        repeat (go_big_quiet_step (fail))
        refine wpQuiet_nil ?_
        clear f1 f2 f3
        refine wpListS_step ?_
        go_wp2_with fail
        have hw1 : Ext wr ((wr.alloc (Obj.cells #[Value.int IntKind.i64 x.place, Value.int IntKind.i64 x.give, Value.int IntKind.i64 x.get, Value.int IntKind.i64 x.units, Value.int IntKind.i64 x.lo, Value.int IntKind.i64 x.hi, Value.int IntKind.i64 x.from_, Value.int IntKind.i64 x.to] 81)).alloc (Obj.cells #[Value.int IntKind.i64 ↑k] 3)).drew := (((Ext.refl _).alloc _).alloc _).drew
        refine ⟨⟨hw1.cell hm1, by simp [go_sem], HF.out.ext hw1⟩, ?_⟩
        have hown1 : World.ownsRow ((wr.alloc (Obj.cells #[Value.int IntKind.i64 x.place, Value.int IntKind.i64 x.give, Value.int IntKind.i64 x.get, Value.int IntKind.i64 x.units, Value.int IntKind.i64 x.lo, Value.int IntKind.i64 x.hi, Value.int IntKind.i64 x.from_, Value.int IntKind.i64 x.to] 81)).alloc (Obj.cells #[Value.int IntKind.i64 ↑k] 3)).drew (w0.heap.size + 2) 3 1 (F x.place) _ _ := ((Hown.out x.place).alloc _).alloc _
        have hc1 : ((wr.alloc (Obj.cells #[Value.int IntKind.i64 x.place, Value.int IntKind.i64 x.give, Value.int IntKind.i64 x.get, Value.int IntKind.i64 x.units, Value.int IntKind.i64 x.lo, Value.int IntKind.i64 x.hi, Value.int IntKind.i64 x.from_, Value.int IntKind.i64 x.to] 81)).alloc (Obj.cells #[Value.int IntKind.i64 ↑k] 3)).drew.cell? ⟨wr.heap.size + 1, 0, none⟩ = some (.int .i64 k) := by simp [go_sem]
        have hs1 : ((wr.alloc (Obj.cells #[Value.int IntKind.i64 x.place, Value.int IntKind.i64 x.give, Value.int IntKind.i64 x.get, Value.int IntKind.i64 x.units, Value.int IntKind.i64 x.lo, Value.int IntKind.i64 x.hi, Value.int IntKind.i64 x.from_, Value.int IntKind.i64 x.to] 81)).alloc (Obj.cells #[Value.int IntKind.i64 ↑k] 3)).drew.heap.size = wr.heap.size + 2 := by simp [go_sem]
        have hp1 : ((wr.alloc (Obj.cells #[Value.int IntKind.i64 x.place, Value.int IntKind.i64 x.give, Value.int IntKind.i64 x.get, Value.int IntKind.i64 x.units, Value.int IntKind.i64 x.lo, Value.int IntKind.i64 x.hi, Value.int IntKind.i64 x.from_, Value.int IntKind.i64 x.to] 81)).alloc (Obj.cells #[Value.int IntKind.i64 ↑k] 3)).drew.cell? ⟨wr.heap.size, 0, none⟩ = some (.int .i64 x.place) := by simp [go_sem]
        generalize ((wr.alloc (Obj.cells #[Value.int IntKind.i64 x.place, Value.int IntKind.i64 x.give, Value.int IntKind.i64 x.get, Value.int IntKind.i64 x.units, Value.int IntKind.i64 x.lo, Value.int IntKind.i64 x.hi, Value.int IntKind.i64 x.from_, Value.int IntKind.i64 x.to] 81)).alloc (Obj.cells #[Value.int IntKind.i64 ↑k] 3)).drew = W1 at *
        have hlen := idxsTo_len l x.place k
        have Hs1 := Lib.hid hs1
        clear hs1
        refine wpListS_step ?_
        refine wpList_append_own_at W1 rfl (.tmp 38) (.tmp 40) 24 rfl (w0.heap.size + 2) 3 i0 (.int .i64 0) 1 8 Try.underlying24 HI.out HZ0.out HZ1.out HZ2.out rfl (by decide) (F x.place) _ _ rfl hown1 ⟨wr.heap.size + 1, 0, none⟩ 1 1 [.int .i64 k] rfl rfl ?_ ?_ ?_ ?_ ?_ ?_
        · intro j u hj
          cases j with
          | zero => simp at hj; subst hj; simpa [Addr.add] using hc1
          | succ j => simp at hj
        · intro u hu
          simp at hu
          subst hu
          rfl
        · unfold maxLen; omega
        · omega
        · rw [Hs1.out]; omega
        · intro v' w2 hown2 hgrow2 _ hat2
          have hblk : ∀ g, (F x.place).ownBlock = some g → w0.heap.size + 2 ≤ g ∧ g < wr.heap.size := (Hown.out x.place).lt
          have hne : ∀ j, j < w0.heap.size + 2 → some j ≠ (F x.place).ownBlock := fun j hj e => by have := (hblk j e.symm).1; omega
          have hne2 : some wr.heap.size ≠ (F x.place).ownBlock := fun e => by have := (hblk _ e.symm).2; omega
          have hF2 : MapIs w2 w0.heap.size (.slice none 0 0) F := (HF.out.ext hw1).same (hgrow2.block _ (by have := hw1.size; omega) (hne _ (by omega)))
          refine wpList_nil ⟨rfl, ⟨hgrow2.cell (hw1.cell hm1) (hne _ (by simp)), hgrow2.cell hp1 hne2, hF2⟩, ?_⟩
          obtain ⟨w3, hrun3, hmap3, hgrow3⟩ := run_mapUpdate_int hF2 Try.underlying130 Try.underlying3 x.place v'
          have HX := Lib.hid (And.intro (And.intro hw1 hgrow2) (And.intro hown2 (And.intro hat2 (And.intro hmap3 hgrow3))))
          have hst3 := stalls_step Hxk.out Hown.out Hdis.out hw1 hgrow2 hown2 hat2 hmap3 hgrow3 (by omega)
          have hx3 : Ext w0 w3 := by
            have h1 : Ext w0 W1 := Hx.out.trans hw1
            have h2 : Ext w0 w2 := Below.grown h1 hgrow2 h1.size (fun j hj => by have := (hblk j hj).1; omega)
            exact Below.grown h2 hgrow3 h2.size (fun j hj => by cases hj; exact Nat.le_refl _)
          have hm03 : w3.cell? ⟨w0.heap.size + 1, 0, none⟩ = some (.slice (some ⟨b, off, none⟩) n cap) := hgrow3.cell (hgrow2.cell (hw1.cell hm0) (hne _ (by simp))) (by simp)
          have hm13 : w3.cell? ⟨w0.heap.size + 1, 1, none⟩ = some (.map (some w0.heap.size)) := hgrow3.cell (hgrow2.cell (hw1.cell hm1) (hne _ (by simp))) (by simp)
          have hsz3 : w0.heap.size + 2 ≤ w3.heap.size := by have := hw1.size; have := hgrow2.size; have := hgrow3.size; omega
          have HY := Lib.hid (And.intro hst3 (And.intro hx3 (And.intro hm03 (And.intro hm13 hsz3))))
          clear hst3 hx3 hm03 hm13 hsz3 hmap3 hgrow3 hF2 hat2 hown2 hgrow2 hw1 hp1 hc1 hown1 hne hne2 hblk hm0 hm1
          refine wpListS_last ?_
          go_wp2_with fail
          refine wpListS_nil ?_
          clear hrun3
          go_wp2_with fail
          go_roundw
          case rel => exact ⟨k + 1, by omega, by go_num, HY.out.2.1, HY.out.2.2.2.2, HY.out.2.2.1, HY.out.2.2.2.1, HY.out.1⟩
          case measure => simp [intOf]; omega
    · go_wp2_with fail
      go_ret2
      have e : k = n := by omega
      subst e
      have hln := Hl.out.1
      obtain ⟨F, h1, h2, _⟩ := hst
      have hB := Hb.out.size
      exact ⟨w0.heap.size + 1, rfl, Hb.out.trans hx, by omega, hm0, w0.heap.size, F, hB, hm1, h1, fun p => by
        rw [hln]
        obtain ⟨a2, c2, e1, e2, e3⟩ := ints_of_row (h2 p) rfl
        exact ⟨a2, c2, e1, e2.mono (by omega), e3⟩⟩

/-- offers that are not valid -/
theorem open_bad (a : Option Addr) (n cap : Nat) (l : List Offer) (w : World) (hl : OffersAt w a n l) (hn : n ≤ 1000000000) (hv : (decide (l.length ≤ 10) && l.all Offer.valid) = false) :
    Calls Try.prog 61 #[.slice a n cap] w fun e w' => e = .returned (.tuple #[.pointer none, .int .i64 60]) ∧ Ext w w' := by
  have hll := hl.1
  have hev := every_offer 84 (enters_of Try.func84 (by kernel_rfl) rfl) a n cap l Offer.valid w hl (by omega) (fun o _ W _ => valid_any o W)
  by_cases h10 : n ≤ 10
  · have hf : l.all Offer.valid = false := by simpa [hll, h10] using hv
    rw [hf] at hev
    have Hev := Lib.hid hev
    clear hev hf hv hl hll
    have hn' : ¬ (10 : Int) < (n : Int) := by omega
    go_enter Try.func61, Try.ntmps61
    go_wp2_with (go_at_call 83; refine Hev.out.mono ?_; rintro e w0 ⟨rfl, hb⟩)
    go_ret2
    exact ⟨rfl, by assumption⟩
  · clear hev hv hl hll
    have hn' : (10 : Int) < (n : Int) := by omega
    go_enter Try.func61, Try.ntmps61
    go_wp2_with fail
    go_ret2
    exact ⟨rfl, Ext.refl _⟩
end Go.Proofs.Ytkbhmajcddmhnaa

/- Contracts: market.at, trip.here. -/
namespace Go.Proofs.Ytkbhmajcddmhnaa
open Go.RowKit
set_option linter.unusedVariables false

theorem in_ext (n lo hi : Int) (w : World) :
    Calls Try.prog 51 #[.int .i64 n, .int .i64 lo, .int .i64 hi] w fun e w' => e = .returned (.bool (inB n lo hi)) ∧ Ext w w' :=
  (in_any n lo hi w).mono fun e w' ⟨he, hw⟩ => ⟨he, hw ▸ Ext.refl _⟩
theorem within_ext (n lo hi : Int) (w : World) :
    Calls Try.prog 50 #[.int .i64 n, .int .i64 lo, .int .i64 hi] w fun e w' => e = .returned (.bool (inB n lo hi)) ∧ Ext w w' :=
  (within_any n lo hi w).mono fun e w' ⟨he, hw⟩ => ⟨he, hw ▸ Ext.refl _⟩

theorem mem_idxsTo {l : List Offer} {p : Int} {k : Nat} {i : Int} (h : i ∈ idxsTo l p k) : ∃ j : Nat, i = (j : Int) ∧ j < k ∧ ∃ o, l[j]? = some o ∧ o.place = p := by
  induction k with
  | zero => simp [idxsTo] at h
  | succ k ih =>
    simp only [idxsTo, List.mem_append] at h
    rcases h with h | h
    · obtain ⟨j, e, hj, ho⟩ := ih h
      exact ⟨j, e, by omega, ho⟩
    · split at h
      · rename_i o ho
        split at h
        · simp at h
          exact ⟨k, h, by omega, o, ho, by assumption⟩
        · simp at h
      · simp at h

/-- is the offer with this index open on a day? -/
def openAt (l : List Offer) (d : Int) (i : Int) : Bool := match l[i.toNat]? with | some o => inB d o.from_ o.to | none => false
/-- the indices of the offers that are open at a place on a day, in ascending order -/
def hereOf (l : List Offer) (p d : Int) : List Int := (idxsTo l p l.length).filter (openAt l d)

theorem elem24 : Elem Try.prog 24 3 1 := by
  obtain ⟨i, h1, h2, h3, h4⟩ := info_parts Try.info3
  exact ⟨Try.underlying24, ⟨i, _, _, h1, h2, h3, h4, rfl, by decide⟩, by decide⟩

/-- a slice of numbers in new memory -/
def IntsPost (l : List Int) (w : World) (e : Ending) (w' : World) : Prop :=
  ∃ a n c, e = .returned (.slice a n c) ∧ Ext w w' ∧ From w.heap.size a ∧ n ≤ c ∧ c ≤ maxLen ∧ IntsAt .i64 w' a n l

set_option maxRecDepth 100000 in
set_option maxHeartbeats 1000000 in
theorem at_any (mp : Nat) (a : Option Addr) (n cap : Nat) (l : List Offer) (p d : Int) (w : World) (hl : OffersAt w a n l) (hn : n ≤ 10) (B : Nat) (hm : MarketAt B w mp a n cap l) :
    Calls Try.prog 62 #[.pointer (some ⟨mp, 0, none⟩), .int .i64 p, .int .i64 d] w (IntsPost (hereOf l p d) w) := by
  obtain ⟨_, m0, mb, F, _, m1, hF, hall⟩ := hm
  obtain ⟨a', c', hFp, _, hi⟩ := hall p
  have hlk : (Instr.lookup 130 (.map (some mb)) (.int .i64 p) false).run Try.prog w = .ok (F p) w := run_lookup_int hF Try.underlying130 Try.underlying3 (by kernel_rfl) p
  rw [hFp] at hlk
  have hlen := idxsTo_len l p l.length
  have hln := hl.1
  have hmp : mp < w.heap.size := block_lt_of_cell m0
  have Hl := Lib.hid hl
  have Hi := Lib.hid hi
  have Hln := Lib.hid hln
  clear hl hi hFp hall hF hln
  have hlen2 : (idxsTo l p l.length).length ≤ 10 := by have := Hln.out; omega
  generalize hL : idxsTo l p l.length = L at *
  have HL := Lib.hid hL
  clear hL hlen
  go_enter Try.func62, Try.ntmps62
  go_wp2_with fail
  clear hlk
  go_loopw [7, 17] (fun v i wr => ∃ k : Nat, k ≤ L.length ∧ i = .int .i64 k ∧ Ext w wr ∧ Owns wr w.heap.size 3 1 v (intRows .i64 ((L.take k).filter (openAt l d)))) (fun _ i _ => L.length - (intOf i).toNat)
  case atStart => exact ⟨0, Nat.zero_le _, rfl, Ext.refl _, Owns.nil _ _ _ _⟩
  case round =>
    obtain ⟨k, hk, rfl, hx, hown⟩ := hrel
    have Hown := Lib.hid hown
    clear hown
    by_cases hlt : k < L.length
    · obtain ⟨b2, off2, x, rfl, hxk, hb2, e0⟩ := (Hi.out.ext hx).get k hlt
      obtain ⟨j, rfl, hj, o, hjo, hpl⟩ := mem_idxsTo (l := l) (p := p) (k := l.length) (i := x) (by rw [HL.out]; exact List.mem_of_getElem? hxk)
      have hjn : j < n := by have := Hln.out; omega
      obtain ⟨b, off, y, rfl, hyk, hb, c0, c1, c2, c3, c4, c5, c6, c7⟩ := (Hl.out.ext hx).get j hjn
      have k0 := hx.cell m0
      have hmr : mp < wr.heap.size := block_lt_of_cell k0
      have hop : openAt l d (j : Int) = inB d y.from_ y.to := by simp [openAt, hyk]
      have htk : (L.take (k + 1)).filter (openAt l d) = (L.take k).filter (openAt l d) ++ if inB d y.from_ y.to then [(j : Int)] else [] := by
        rw [List.take_add_one, hxk, List.filter_append]
        simp only [Option.toList, List.filter_cons, List.filter_nil, hop]
      have hlenf : ((L.take k).filter (openAt l d)).length ≤ 10 := by
        have h1 := List.length_filter_le (openAt l d) (L.take k)
        have h2 : (L.take k).length ≤ k := List.length_take_le _ _
        omega
      have hc := fun W => in_ext d y.from_ y.to W
      have Hx := Lib.hid hx
      have Hjk := Lib.hid (And.intro hxk (And.intro hjo (And.intro hyk hpl)))
      clear hxk hjo hyk hpl hop hx hj m0 m1
      have hj0 : (0 : Int) ≤ (j : Int) := by omega
      have hj1 : (j : Int) < (n : Int) := by omega
      cases hin : inB d y.from_ y.to
      all_goals
        rw [hin] at htk
        have Htk := Lib.hid htk
        rw [hin] at hc
        have Hc := Lib.hid hc
        clear htk hc hin
        go_wp2_with fail
        refine wp_region_ext (by kernel_rfl) (by kernel_rfl) (fun f hf hs => ?_)
        have g0 := fun q => (hf q).cell k0
        have g5 := fun q => (hf q).cell c6
        have g6 := fun q => (hf q).cell c7
        have Hf := Lib.hid hf
        have Hs := Lib.hid hs
        clear hf hs
        repeat (go_big_quiet_step ((go_at_call 51; exact Calls.ext_of (Hf.out _) Hs.out (Hc.out _))))
        refine wpQuiet_nil ?_
        intro W1 hW1
        clear g0 g5 g6
        obtain ⟨hc1, hf1, hz1⟩ := hW1.facts
        have HW1 := Lib.hid hW1
        clear hW1
      · go_wp2_with fail
        go_roundw
        case rel => exact ⟨k + 1, by omega, by go_num, Hx.out.trans HW1.out, by rw [Htk.out]; simpa using Hown.out.ext HW1.out⟩
        case measure => simp [intOf]; omega
      · have hown1 := (Hown.out.ext HW1.out).alloc (Obj.cells #[Value.int IntKind.i64 ↑j] 3)
        have Ho := Lib.hid hown1
        clear hown1
        go_wp2_with (at_builtin; refine wpList_app elem24 _ rfl (.tmp 39) (.tmp 41) rfl w.heap.size _ _ rfl Ho.out (some ⟨W1.heap.size, 0, none⟩) 1 1 (intRows .i64 [(j : Int)]) rfl rfl (slAt_one (cells_one (by simp [go_sem]))) (intRows_row _ _) ?_ ?_ ?_)
        · simp only [intRows, List.length_map]; omega
        · have := Hx.out.size; have := HW1.out.size; simp; omega
        · intro v' w2 ho2 hg2 _
          have hx2 : Ext w w2 := ((Hx.out.trans HW1.out).alloc _).app Ho.out hg2
          clear hc1 hf1 hz1 k0 c0 c1 c2 c3 c4 c5 c6 c7 e0
          go_wp2_with fail
          go_roundw
          case rel => exact ⟨k + 1, by omega, by go_num, hx2, by rw [Htk.out, if_pos trivial, intRows_append]; exact ho2⟩
          case measure => simp [intOf]; omega
    · go_wp2_with fail
      go_ret
      have e : k = L.length := by omega
      subst e
      have ho := Hown.out
      rw [List.take_length] at ho
      obtain ⟨a2, c2, rfl, hfr, hlc, hcm, hi2⟩ := ints_of_owns ho
      have e2 : hereOf l p d = L.filter (openAt l d) := by unfold hereOf; rw [HL.out]
      refine ⟨a2, _, c2, rfl, hx, hfr, hlc, hcm, ?_⟩
      rw [e2]
      exact hi2
end Go.Proofs.Ytkbhmajcddmhnaa

/- Contracts: trip.here, travel. -/
namespace Go.Proofs.Ytkbhmajcddmhnaa
open Go.RowKit
set_option linter.unusedVariables false

set_option maxRecDepth 100000 in
set_option maxHeartbeats 1000000 in
theorem here_any (mp : Nat) (a : Option Addr) (n cap : Nat) (l : List Offer) (fa : Option Addr) (fn fc : Nat) (fs : List Fair) (k : Nat) (f : Fair) (w : World)
    (hl : OffersAt w a n l) (hn : n ≤ 10) (B : Nat) (hm : MarketAt B w mp a n cap l) (hf : FairsAt w fa fn fs) (hfn : fn ≤ 1000000) (hk : fs[k]? = some f) :
    Calls Try.prog 53 #[.agg #[.pointer (some ⟨mp, 0, none⟩), .slice fa fn fc], .int .i64 k] w (IntsPost (hereOf l f.place f.day) w) := by
  have hkn : k < fn := by
    have := hf.1
    rcases Nat.lt_or_ge k fs.length with h | h
    · omega
    · simp [List.getElem?_eq_none h] at hk
  obtain ⟨b, off, x, ka, kn, kc, rfl, hxk, hb, c0, c1, c2, _, _, _⟩ := hf.get k hkn
  have hfx : f = x := by rw [hk] at hxk; cases hxk; rfl
  subst hfx
  have hat := fun W (hW : Ext w W) => at_any mp a n cap l f.place f.day W (hl.ext hW) hn B (hm.ext hW)
  have Hat := Lib.hid hat
  clear hat hl hm hf hk hxk
  go_enter Try.func53, Try.ntmps53
  go_wp2_with fail
  have hi : Ext w (w.alloc (.cells #[.pointer (some ⟨mp, 0, none⟩), .slice (some ⟨b, off, none⟩) fn fc] 103)) := (Ext.refl _).alloc _
  have d0 : (w.alloc (.cells #[.pointer (some ⟨mp, 0, none⟩), .slice (some ⟨b, off, none⟩) fn fc] 103)).cell? ⟨w.heap.size, 0, none⟩ = some (.pointer (some ⟨mp, 0, none⟩)) := by simp [go_sem]
  have d1 : (w.alloc (.cells #[.pointer (some ⟨mp, 0, none⟩), .slice (some ⟨b, off, none⟩) fn fc] 103)).cell? ⟨w.heap.size, 1, none⟩ = some (.slice (some ⟨b, off, none⟩) fn fc) := by simp [go_sem]
  have e0 := hi.cell c0
  have e1 := hi.cell c1
  generalize w.alloc (.cells #[.pointer (some ⟨mp, 0, none⟩), .slice (some ⟨b, off, none⟩) fn fc] 103) = w1 at *
  refine wp_region_mix [0, 1, 2, 3, 4, 5, 6, 7, 8, 9, 10, 11, 12, 13] [(14, false), (15, true)] (Ext w1) _ _ (by kernel_rfl) (by kernel_rfl) (by kernel_rfl) rfl rfl (Ext.refl _).drew ?_
  intro ι _ g hg
  have g0 := fun p => Ext.cell (hg p) d0
  have g1 := fun p => Ext.cell (hg p) d1
  have g2 := fun p => Ext.cell (hg p) e0
  have g3 := fun p => Ext.cell (hg p) e1
  clear hg d0 d1 e0 e1 c0 c1 c2
  simp only [opsOf, opsOfT, consOp, consOpT, List.getElem?_toArray, List.getElem?_cons_succ, List.getElem?_cons_zero]
  repeat (go_big_quiet_step (fail))
  refine wpQuiet_nil ?_
  clear g0 g1 g2 g3
  refine wpListS_step ?_
  go_wp2_with (go_at_call 62; refine (Hat.out _ (hi.trans (Ext.refl _).drew)).mono ?_; rintro e w2 ⟨a2, n2, c2, rfl, hx2, hfr2, hnc2, hcm2, hi2⟩)
  refine ⟨(Ext.refl _).drew.trans hx2, ?_⟩
  refine wpListS_last ?_
  go_wp2_with fail
  refine wpListS_nil ?_
  go_wp2_with fail
  go_ret
  exact ⟨a2, n2, c2, rfl, hi.trans ((Ext.refl _).drew.trans hx2), hfr2.mono hi.size, hnc2, hcm2, hi2⟩

/-- a trip at work -/
def TripPost (a : Option Addr) (n cap : Nat) (l : List Offer) (fa : Option Addr) (fn fc : Nat) (w : World) (e : Ending) (w' : World) : Prop :=
  ∃ mp, e = .returned (.tuple #[.agg #[.pointer (some ⟨mp, 0, none⟩), .slice fa fn fc], .int .i64 0]) ∧ Ext w w' ∧ MarketAt w.heap.size w' mp a n cap l

def offersOk (l : List Offer) : Bool := decide (l.length ≤ 10) && l.all Offer.valid
def tripOk (l : List Fair) : Bool := inB l.length 1 5 && l.all Fair.valid && sortedDays l
theorem day_of_valid {f : Fair} (h : f.valid = true) : 0 ≤ f.day ∧ f.day ≤ 100000 := by
  simp [Fair.valid, inB] at h
  omega

set_option maxHeartbeats 1000000 in
theorem travel_ok (a : Option Addr) (n cap : Nat) (l : List Offer) (fa : Option Addr) (fn fc : Nat) (fs : List Fair) (w : World) (hl : OffersAt w a n l) (hf : FairsAt w fa fn fs) (ho : offersOk l = true) (ht : tripOk fs = true) :
    Calls Try.prog 46 #[.slice a n cap, .slice fa fn fc] w (TripPost a n cap l fa fn fc w) := by
  simp only [offersOk, tripOk, Bool.and_eq_true, decide_eq_true_eq] at ho ht
  have hln := hl.1
  have hfn := hf.1
  have hn5 : (1 : Int) ≤ (fn : Int) ∧ (fn : Int) ≤ 5 := by have := ht.1.1; simp only [inB, Bool.and_eq_true, decide_eq_true_eq] at this; omega
  obtain ⟨hn1, hn5⟩ := hn5
  have hop := fun W (hW : Ext w W) => open_ok a n cap l W (hl.ext hW) ho.2 (by omega)
  have hin : ∀ W, Calls Try.prog 51 #[.int .i64 fn, .int .i64 1, .int .i64 5] W fun e w' => e = .returned (.bool true) ∧ Ext W w' := fun W => by
    have := in_ext fn 1 5 W
    rw [← hfn, ht.1.1] at this
    rw [← hfn]
    exact this
  have hev : ∀ W, Ext w W → Calls Try.prog 72 #[.slice fa fn fc, .func (.func 73) #[] #[]] W fun e w' => e = .returned (.bool true) ∧ Ext W w' := fun W hW => by
    have := every_fair 73 (enters_of Try.func73 (by kernel_rfl) rfl) fa fn fc fs Fair.valid W (hf.ext hW) (by omega) (fun o _ W' ka kn kc _ h1 h2 h3 => fair_any o ka kn kc W' h1 h2 h3)
    rw [ht.1.2] at this
    exact this
  have hso : ∀ W, Ext w W → Calls Try.prog 74 #[.slice fa fn fc, .func (.func 71) #[] #[]] W fun e w' => e = .returned (.bool true) ∧ Ext W w' := fun W hW => by
    have := isSorted_any fa fn fc fs W (hf.ext hW) (by omega) (fun f hf' => day_of_valid (List.all_eq_true.1 ht.1.2 f hf'))
    rw [ht.2] at this
    exact this
  have Hop := Lib.hid hop
  have Hin := Lib.hid hin
  have Hev := Lib.hid hev
  have Hso := Lib.hid hso
  clear hop hin hev hso hl hf ho ht hln hfn
  go_enter Try.func46, Try.ntmps46
  go_wp2_with (first | (go_at_call 61; refine (Hop.out _ ((Ext.refl _).alloc _)).mono ?_; rintro e w1 ⟨mp, rfl, hx1, hm1⟩) | (go_at_call 51; refine (Hin.out _).mono ?_; rintro e w2 ⟨rfl, hx2⟩) | (go_at_call 72; refine (Hev.out _ (((Ext.refl _).alloc _).trans (hx1.trans hx2))).mono ?_; rintro e w3 ⟨rfl, hx3⟩) | (go_at_call 74; refine (Hso.out _ (((Ext.refl _).alloc _).trans (hx1.trans (hx2.trans hx3)))).mono ?_; rintro e w4 ⟨rfl, hx4⟩; obtain ⟨hc4, hf4⟩ := (hx1.trans (hx2.trans (hx3.trans hx4))).box (heap_alloc_new w _)))
  have hs1 : w.heap.size + 1 ≤ w1.heap.size := by have := hx1.size; simpa using this
  have hx14 := hx1.trans (hx2.trans (hx3.trans hx4))
  have hm4 := hm1.ext (hx2.trans (hx3.trans hx4))
  refine bodyPost_ret (v := .tuple #[.agg #[.pointer (some ⟨mp, 0, none⟩), .slice fa fn fc], .int .i64 0]) (by simp [results, Try.results46, go_sem, hc4]) rfl ⟨mp, rfl, ?_, ?_⟩
  · exact ((((Ext.refl _).alloc _).trans hx14).setCell (Nat.le_refl _) _).setCell (Nat.le_refl _) _
  · refine MarketAt.mono (B := w.heap.size + 1) (MarketAt.same (w := w4) (by simpa using hm4) fun b hb => ?_) (by omega)
    rw [heap_setCell_other _ _ _ _ (by simp; omega), heap_setCell_other _ _ _ _ (by simp; omega)]

theorem travel_offers (a : Option Addr) (n cap : Nat) (l : List Offer) (fv : Value) (w : World) (hl : OffersAt w a n l) (hn : n ≤ 1000000) (ho : offersOk l = false) :
    Calls Try.prog 46 #[.slice a n cap, fv] w fun e w' => e = .returned (.tuple #[.agg #[.pointer none, .slice none 0 0], .int .i64 60]) ∧ Ext w w' := by
  have hop := fun W (hW : Ext w W) => open_bad a n cap l W (hl.ext hW) (by omega) ho
  have Hop := Lib.hid hop
  clear hop hl ho
  go_enter Try.func46, Try.ntmps46
  go_wp2_with (go_at_call 61; refine (Hop.out _ ((Ext.refl _).alloc _)).mono ?_; rintro e w1 ⟨rfl, hx1⟩; obtain ⟨hc4, hf4⟩ := hx1.box (heap_alloc_new w _))
  refine bodyPost_ret (v := .tuple #[.agg #[.pointer none, .slice none 0 0], .int .i64 60]) (by simp [results, Try.results46, go_sem, hc4]) rfl ⟨rfl, ?_⟩
  exact ((((Ext.refl _).alloc _).trans hx1).setCell (Nat.le_refl _) _).setCell (Nat.le_refl _) _

set_option maxHeartbeats 1000000 in
theorem travel_trip (a : Option Addr) (n cap : Nat) (l : List Offer) (fa : Option Addr) (fn fc : Nat) (fs : List Fair) (w : World) (hl : OffersAt w a n l) (hf : FairsAt w fa fn fs) (hfm : fn ≤ 1000000) (ho : offersOk l = true) (ht : tripOk fs = false) :
    Calls Try.prog 46 #[.slice a n cap, .slice fa fn fc] w fun e w' => e = .returned (.tuple #[.agg #[.pointer none, .slice none 0 0], .int .i64 61]) ∧ Ext w w' := by
  simp only [offersOk, Bool.and_eq_true, decide_eq_true_eq] at ho
  have hln := hl.1
  have hfn := hf.1
  have hop := fun W (hW : Ext w W) => open_ok a n cap l W (hl.ext hW) ho.2 (by omega)
  have hin : ∀ W, Calls Try.prog 51 #[.int .i64 fn, .int .i64 1, .int .i64 5] W fun e w' => e = .returned (.bool (inB fs.length 1 5)) ∧ Ext W w' := fun W => by
    rw [hfn]
    exact in_ext fn 1 5 W
  have hev : ∀ W, Ext w W → Calls Try.prog 72 #[.slice fa fn fc, .func (.func 73) #[] #[]] W fun e w' => e = .returned (.bool (fs.all Fair.valid)) ∧ Ext W w' := fun W hW =>
    every_fair 73 (enters_of Try.func73 (by kernel_rfl) rfl) fa fn fc fs Fair.valid W (hf.ext hW) (by omega) (fun o _ W' ka kn kc _ h1 h2 h3 => fair_any o ka kn kc W' h1 h2 h3)
  have Hop := Lib.hid hop
  cases h1 : inB fs.length 1 5
  · rw [h1] at hin
    have Hin := Lib.hid hin
    clear hop hin hev hl hf ho ht hln hfn h1
    go_enter Try.func46, Try.ntmps46
    go_wp2_with (first | (go_at_call 61; refine (Hop.out _ ((Ext.refl _).alloc _)).mono ?_; rintro e w1 ⟨mp, rfl, hx1, hm1⟩) | (go_at_call 51; refine (Hin.out _).mono ?_; rintro e w2 ⟨rfl, hx2⟩; obtain ⟨hc4, hf4⟩ := (hx1.trans hx2).box (heap_alloc_new w _)))
    refine bodyPost_ret (v := .tuple #[.agg #[.pointer none, .slice none 0 0], .int .i64 61]) (by simp [results, Try.results46, go_sem, hc4]) rfl ⟨rfl, ?_⟩
    exact ((((Ext.refl _).alloc _).trans (hx1.trans hx2)).setCell (Nat.le_refl _) _).setCell (Nat.le_refl _) _
  cases h2 : fs.all Fair.valid
  · rw [h1] at hin
    rw [h2] at hev
    have Hin := Lib.hid hin
    have Hev := Lib.hid hev
    clear hop hin hev hl hf ho ht hln hfn h1 h2
    go_enter Try.func46, Try.ntmps46
    go_wp2_with (first | (go_at_call 61; refine (Hop.out _ ((Ext.refl _).alloc _)).mono ?_; rintro e w1 ⟨mp, rfl, hx1, hm1⟩) | (go_at_call 51; refine (Hin.out _).mono ?_; rintro e w2 ⟨rfl, hx2⟩) | (go_at_call 72; refine (Hev.out _ (((Ext.refl _).alloc _).trans (hx1.trans hx2))).mono ?_; rintro e w3 ⟨rfl, hx3⟩; obtain ⟨hc4, hf4⟩ := (hx1.trans (hx2.trans hx3)).box (heap_alloc_new w _)))
    refine bodyPost_ret (v := .tuple #[.agg #[.pointer none, .slice none 0 0], .int .i64 61]) (by simp [results, Try.results46, go_sem, hc4]) rfl ⟨rfl, ?_⟩
    exact ((((Ext.refl _).alloc _).trans (hx1.trans (hx2.trans hx3))).setCell (Nat.le_refl _) _).setCell (Nat.le_refl _) _
  have hso : ∀ W, Ext w W → Calls Try.prog 74 #[.slice fa fn fc, .func (.func 71) #[] #[]] W fun e w' => e = .returned (.bool false) ∧ Ext W w' := fun W hW => by
    have := isSorted_any fa fn fc fs W (hf.ext hW) (by omega) (fun f hf' => day_of_valid (List.all_eq_true.1 h2 f hf'))
    have e : sortedDays fs = false := by simpa [tripOk, h1, h2] using ht
    rw [e] at this
    exact this
  rw [h1] at hin
  rw [h2] at hev
  have Hin := Lib.hid hin
  have Hev := Lib.hid hev
  have Hso := Lib.hid hso
  clear hop hin hev hso hl hf ho ht hln hfn h1 h2
  go_enter Try.func46, Try.ntmps46
  go_wp2_with (first | (go_at_call 61; refine (Hop.out _ ((Ext.refl _).alloc _)).mono ?_; rintro e w1 ⟨mp, rfl, hx1, hm1⟩) | (go_at_call 51; refine (Hin.out _).mono ?_; rintro e w2 ⟨rfl, hx2⟩) | (go_at_call 72; refine (Hev.out _ (((Ext.refl _).alloc _).trans (hx1.trans hx2))).mono ?_; rintro e w3 ⟨rfl, hx3⟩) | (go_at_call 74; refine (Hso.out _ (((Ext.refl _).alloc _).trans (hx1.trans (hx2.trans hx3)))).mono ?_; rintro e w4 ⟨rfl, hx4⟩; obtain ⟨hc4, hf4⟩ := (hx1.trans (hx2.trans (hx3.trans hx4))).box (heap_alloc_new w _)))
  refine bodyPost_ret (v := .tuple #[.agg #[.pointer none, .slice none 0 0], .int .i64 61]) (by simp [results, Try.results46, go_sem, hc4]) rfl ⟨rfl, ?_⟩
  exact ((((Ext.refl _).alloc _).trans (hx1.trans (hx2.trans (hx3.trans hx4)))).setCell (Nat.le_refl _) _).setCell (Nat.le_refl _) _
end Go.Proofs.Ytkbhmajcddmhnaa
