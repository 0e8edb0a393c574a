/- Contract: market.open. -/
import Derived.Test.YtkbhmajcddmhnaaTravel
import Derived.Test.YtkbhmajcddmhnaaMap
import Derived.Test.YtkbhmajcddmhnaaMix
import Derived.Test.YtkbhmajcddmhnaaOwn
namespace Go.Proofs.Ytkbhmajcddmhnaa
open Go.RowKit
set_option linter.unusedVariables false

/-- the indices below k of the offers of a place, in ascending order -/
def idxsTo (l : List Offer) (p : Int) : Nat → List Int
  | 0 => []
  | k + 1 => idxsTo l p k ++ (match l[k]? with | some o => if o.place = p then [(k : Int)] else [] | none => [])

theorem idxsTo_len (l : List Offer) (p : Int) (k : Nat) : (idxsTo l p k).length ≤ k := by
  induction k with
  | zero => simp [idxsTo]
  | succ k ih =>
    simp only [idxsTo, List.length_append]
    split
    · split <;> simp <;> omega
    · simp; omega

def Stalls (B : Nat) (w : World) (mb : Nat) (l : List Offer) (k : Nat) : Prop :=
  ∃ F, MapIs w mb (.slice none 0 0) F ∧ (∀ p, w.ownsRow B 3 1 (F p) (idxsTo l p k).length ((idxsTo l p k).map (Value.int .i64))) ∧
    ∀ p q, p ≠ q → (F p).ownBlock = none ∨ (F p).ownBlock ≠ (F q).ownBlock

/-- what the reads of 'm.stalls[x.Place] = append(m.stalls[x.Place], i)' see -/
def OpenS (h0 hr : Nat) (pl : Int) (F : Int → Value) (W : World) : Prop :=
  W.cell? ⟨h0 + 1, 1, none⟩ = some (.map (some h0)) ∧ W.cell? ⟨hr, 0, none⟩ = some (.int .i64 pl) ∧ MapIs W h0 (.slice none 0 0) F

theorem Try.info3 : (Try.prog.info? 3).map (fun i => (i.zero, i.size, i.bytes)) = some (some (.int .i64 0), 1, 8) := by kernel_rfl

theorem stalls_step {l : List Offer} {k : Nat} {x : Offer} {B mb : Nat} {wr W1 w2 w3 : World} {F : Int → Value} {v' : Value} (hx : l[k]? = some x)
    (hown : ∀ p, wr.ownsRow B 3 1 (F p) (idxsTo l p k).length ((idxsTo l p k).map (Value.int .i64))) (hdis : ∀ p q, p ≠ q → (F p).ownBlock = none ∨ (F p).ownBlock ≠ (F q).ownBlock)
    (hw1 : Ext wr W1) (hgrow2 : W1.grownBy w2 (F x.place).ownBlock) (hown2 : w2.ownsRow B 3 1 v' ((idxsTo l x.place k).length + 1) ((idxsTo l x.place k).map (Value.int .i64) ++ [.int .i64 k]))
    (hat : v'.ownBlock = (F x.place).ownBlock ∨ v'.ownBlock = some W1.heap.size) (hmap3 : MapIs w3 mb (.slice none 0 0) (fun q => if q = x.place then v' else F q)) (hgrow3 : w2.grownBy w3 (some mb)) (hB : mb < B) : Stalls B w3 mb l (k + 1) := by
  have nb : ∀ {W : World} {v : Value} {n : Nat} {xs : List Value}, W.ownsRow B 3 1 v n xs → v.ownBlock = none ∨ v.ownBlock ≠ some mb := by
    intro W v n xs h
    cases hv : v.ownBlock with
    | none => exact .inl rfl
    | some g =>
      refine .inr fun e => ?_
      have := (h.lt g hv).1
      cases e
      omega
  have nz : ∀ p q, p ≠ q → (if p = x.place then v' else F p).ownBlock = none ∨ (if p = x.place then v' else F p).ownBlock ≠ (if q = x.place then v' else F q).ownBlock := by
    intro p q hpq
    by_cases hp : p = x.place
    · have hq : q ≠ x.place := fun e => hpq (hp.trans e.symm)
      rw [if_pos hp, if_neg hq]
      rcases hat with h | h
      · rw [h]; rw [← hp]; exact hdis p q hpq
      · rw [h]
        refine .inr fun e => ?_
        have h1 := ((hown q).lt _ e.symm).2
        have h2 := hw1.size
        omega
    · rw [if_neg hp]
      by_cases hq : q = x.place
      · rw [if_pos hq]
        rcases hat with h | h
        · rw [h]; rw [← hq]; exact hdis p q hpq
        · cases hv : (F p).ownBlock with
          | none => exact .inl rfl
          | some g =>
            refine .inr fun e => ?_
            rw [h] at e
            have h1 := ((hown p).lt _ hv).2
            have h2 := hw1.size
            cases e
            omega
      · rw [if_neg hq]; exact hdis p q hpq
  refine ⟨_, hmap3, fun q => ?_, nz⟩
  by_cases hq : q = x.place
  · subst hq
    have e : idxsTo l x.place (k + 1) = idxsTo l x.place k ++ [(k : Int)] := by simp [idxsTo, hx]
    rw [if_pos rfl, e]
    have := hown2.kept hgrow3 (nb hown2)
    simpa using this
  · have e : idxsTo l q (k + 1) = idxsTo l q k := by simp [idxsTo, hx, Ne.symm hq]
    rw [if_neg hq, e]
    have h1 := (hown q).kept hw1.grownBy (by cases (F q).ownBlock <;> simp)
    have h2 := h1.kept hgrow2 (hdis q x.place hq)
    exact h2.kept hgrow3 (nb h2)

/-- offers at work, in blocks from B on: the market's block holds the offers, and a map that gives the indices of the offers of each place -/
def MarketAt (B : Nat) (w : World) (mp : Nat) (a : Option Addr) (n cap : Nat) (l : List Offer) : Prop :=
  B ≤ mp ∧ w.cell? ⟨mp, 0, none⟩ = some (.slice a n cap) ∧ ∃ mb F, B ≤ mb ∧ w.cell? ⟨mp, 1, none⟩ = some (.map (some mb)) ∧ MapIs w mb (.slice none 0 0) F ∧
    ∀ p, ∃ a' c', F p = .slice a' (idxsTo l p l.length).length c' ∧ From B a' ∧ IntsAt .i64 w a' (idxsTo l p l.length).length (idxsTo l p l.length)
theorem MarketAt.ext {B : Nat} {w w' : World} {mp : Nat} {a : Option Addr} {n cap : Nat} {l : List Offer} (h : MarketAt B w mp a n cap l) (e : Ext w w') : MarketAt B w' mp a n cap l :=
  ⟨h.1, e.cell h.2.1, let ⟨mb, F, h0, h1, h2, h3⟩ := h.2.2; ⟨mb, F, h0, e.cell h1, h2.ext e, fun p => let ⟨a', c', h4, h5, h6⟩ := h3 p; ⟨a', c', h4, h5, h6.ext e⟩⟩⟩
theorem MarketAt.mono {B C : Nat} {w : World} {mp : Nat} {a : Option Addr} {n cap : Nat} {l : List Offer} (h : MarketAt B w mp a n cap l) (hc : C ≤ B) : MarketAt C w mp a n cap l :=
  ⟨Nat.le_trans hc h.1, h.2.1, let ⟨mb, F, h0, h1, h2, h3⟩ := h.2.2; ⟨mb, F, Nat.le_trans hc h0, h1, h2, fun p => let ⟨a', c', h4, h5, h6⟩ := h3 p; ⟨a', c', h4, h5.mono hc, h6⟩⟩⟩
theorem MarketAt.same {B : Nat} {w w' : World} {mp : Nat} {a : Option Addr} {n cap : Nat} {l : List Offer} (h : MarketAt B w mp a n cap l) (e : ∀ b, B ≤ b → w'.heap[b]? = w.heap[b]?) : MarketAt B w' mp a n cap l :=
  ⟨h.1, (World.cell?_of_block (w := w) (a := ⟨mp, 0, none⟩) (e _ h.1)).trans h.2.1, let ⟨mb, F, h0, h1, h2, h3⟩ := h.2.2;
    ⟨mb, F, h0, (World.cell?_of_block (w := w) (a := ⟨mp, 1, none⟩) (e _ h.1)).trans h1, h2.same (e _ h0), fun p => let ⟨a', c', h4, h5, h6⟩ := h3 p; ⟨a', c', h4, h5, h6.same fun x hx => e _ (h5 x hx)⟩⟩⟩

theorem ints_of_row {w : World} {B : Nat} {v : Value} {n : Nat} {l : List Int} (h : w.ownsRow B 3 1 v n (l.map (Value.int .i64))) (hl : l.length = n) : ∃ a' c', v = .slice a' n c' ∧ From B a' ∧ IntsAt .i64 w a' n l := by
  have h' := h
  obtain ⟨_, h2⟩ := h
  rcases h2 with ⟨rfl, rfl⟩ | ⟨g, cap, cur, rfl, hg, _⟩
  · exact ⟨none, 0, rfl, From.none _, hl, fun h => absurd h (by omega)⟩
  · refine ⟨_, _, rfl, fun x hx => by cases hx; exact hg, hl, fun hn => ⟨g, 0, rfl, fun k hk j v hj => ?_⟩⟩
    cases j with
    | succ j => simp at hj
    | zero =>
      simp at hj
      subst hj
      have := h'.cells (g := g) rfl k (.int .i64 (l.getD k 0)) (by simp [List.getElem?_eq_getElem (show k < l.length by omega)])
      have e : (⟨g, 0, none⟩ : Addr).add k = ⟨g, k, none⟩ := by unfold Addr.add; split <;> simp_all
      rw [e] at this
      simpa using this

def OpenPost (a : Option Addr) (n cap : Nat) (l : List Offer) (w : World) (e : Ending) (w' : World) : Prop :=
  ∃ mp, e = .returned (.tuple #[.pointer (some ⟨mp, 0, none⟩), .int .i64 0]) ∧ Ext w w' ∧ MarketAt w.heap.size w' mp a n cap l

set_option maxRecDepth 100000 in
set_option maxHeartbeats 1000000 in
/-- offers that are valid -/
theorem open_ok (a : Option Addr) (n cap : Nat) (l : List Offer) (w : World) (hl : OffersAt w a n l) (hv : l.all Offer.valid = true) (hn : n ≤ 10) :
    Calls Try.prog 61 #[.slice a n cap] w (OpenPost a n cap l w) := by
  have hev := every_offer 84 (enters_of Try.func84 (by kernel_rfl) rfl) a n cap l Offer.valid w hl (by omega) (fun o _ W _ => valid_any o W)
  rw [hv] at hev
  have Hev := Lib.hid hev
  have Hl := Lib.hid hl
  clear hl hv hev
  have hn' : ¬ (10 : Int) < (n : Int) := by omega
  have hmm := @run_makeMap Try.prog
  obtain ⟨i0, hi, hz0, hz1, hz2⟩ := info_parts Try.info3
  have HI := Lib.hid hi
  have HZ0 := Lib.hid hz0
  have HZ1 := Lib.hid hz1
  have HZ2 := Lib.hid hz2
  clear hi hz0 hz1 hz2
  go_enter Try.func61, Try.ntmps61
  go_wp2_with (go_at_call 83; refine Hev.out.mono ?_; rintro e w0 ⟨rfl, hb⟩)
  have Hb := Lib.hid hb
  clear hb hmm
  go_loopw [21] (fun i wr => ∃ k : Nat, k ≤ n ∧ i = .int .i64 k ∧ Ext w0 wr ∧ w0.heap.size + 2 ≤ wr.heap.size ∧ wr.cell? ⟨w0.heap.size + 1, 0, none⟩ = some (.slice a n cap) ∧ wr.cell? ⟨w0.heap.size + 1, 1, none⟩ = some (.map (some w0.heap.size)) ∧
      Stalls (w0.heap.size + 2) wr w0.heap.size l k) (fun i _ => n - (intOf i).toNat)
  case atStart => exact ⟨0, Nat.zero_le _, rfl, ((Ext.refl _).alloc _).alloc _, by simp, by simp [go_sem], by simp [go_sem], fun _ => .slice none 0 0, (MapIs.made _ _).ext ((Ext.refl _).alloc _), fun p => World.ownsRow_nil _ _ _ _, fun p q _ => .inl rfl⟩
  case round =>
    obtain ⟨k, hk, rfl, hx, hsz, hm0, hm1, hst⟩ := hrel
    by_cases hlt : k < n
    · obtain ⟨b, off, x, rfl, hxk, hb, c0, c1, c2, c3, c4, c5, c6, c7⟩ := ((Hl.out.ext Hb.out).ext hx).get k hlt
      have Hxk := Lib.hid hxk
      have Hst := Lib.hid hst
      have Hx := Lib.hid hx
      clear hxk hst hx
      go_wp2_with fail
      obtain ⟨F, hF, hown, hdis⟩ := Hst.out
      have HF := Lib.hid hF
      have Hown := Lib.hid hown
      have Hdis := Lib.hid hdis
      clear hF hown hdis Hst
      refine wp_region_mix [0, 1, 2, 3, 4, 5, 6, 7, 8, 9, 10, 11, 12, 13] [(14, false), (15, false), (16, true)]
        (OpenS w0.heap.size wr.heap.size x.place F) _ _ (by kernel_rfl) (by kernel_rfl) (by kernel_rfl) rfl rfl ?_ ?_
      · refine ⟨?_, ?_, ?_⟩
        · exact ((Ext.refl _).alloc _).drew.cell hm1
        · simp [go_sem]
        · exact HF.out.ext ((Ext.refl _).alloc _).drew
      · intro ι _ f hf
        have f1 := fun p => (hf p).1
        have f2 := fun p => (hf p).2.1
        have f3 : ∀ p, (Instr.lookup 130 (.map (some w0.heap.size)) (.int .i64 x.place) false).run Try.prog (f p) = .ok (F x.place) (f p) := fun p => run_lookup_int (hf p).2.2 Try.underlying130 Try.underlying3 (by kernel_rfl) x.place
        clear hf
        simp only [opsOf, opsOfT, consOp, consOpT, List.getElem?_toArray, List.getElem?_cons_succ, List.getElem?_cons_zero]
        repeat (go_big_quiet_step (fail))
        refine wpQuiet_nil ?_
        clear f1 f2 f3
        refine wpListS_step ?_
        go_wp2_with fail
        have hw1 : Ext wr ((wr.alloc (Obj.cells #[Value.int IntKind.i64 x.place, Value.int IntKind.i64 x.give, Value.int IntKind.i64 x.get, Value.int IntKind.i64 x.units, Value.int IntKind.i64 x.lo, Value.int IntKind.i64 x.hi, Value.int IntKind.i64 x.from_, Value.int IntKind.i64 x.to] 81)).alloc (Obj.cells #[Value.int IntKind.i64 ↑k] 3)).drew := (((Ext.refl _).alloc _).alloc _).drew
        refine ⟨⟨hw1.cell hm1, by simp [go_sem], HF.out.ext hw1⟩, ?_⟩
        have hown1 : World.ownsRow ((wr.alloc (Obj.cells #[Value.int IntKind.i64 x.place, Value.int IntKind.i64 x.give, Value.int IntKind.i64 x.get, Value.int IntKind.i64 x.units, Value.int IntKind.i64 x.lo, Value.int IntKind.i64 x.hi, Value.int IntKind.i64 x.from_, Value.int IntKind.i64 x.to] 81)).alloc (Obj.cells #[Value.int IntKind.i64 ↑k] 3)).drew (w0.heap.size + 2) 3 1 (F x.place) _ _ := ((Hown.out x.place).alloc _).alloc _
        have hc1 : ((wr.alloc (Obj.cells #[Value.int IntKind.i64 x.place, Value.int IntKind.i64 x.give, Value.int IntKind.i64 x.get, Value.int IntKind.i64 x.units, Value.int IntKind.i64 x.lo, Value.int IntKind.i64 x.hi, Value.int IntKind.i64 x.from_, Value.int IntKind.i64 x.to] 81)).alloc (Obj.cells #[Value.int IntKind.i64 ↑k] 3)).drew.cell? ⟨wr.heap.size + 1, 0, none⟩ = some (.int .i64 k) := by simp [go_sem]
        have hs1 : ((wr.alloc (Obj.cells #[Value.int IntKind.i64 x.place, Value.int IntKind.i64 x.give, Value.int IntKind.i64 x.get, Value.int IntKind.i64 x.units, Value.int IntKind.i64 x.lo, Value.int IntKind.i64 x.hi, Value.int IntKind.i64 x.from_, Value.int IntKind.i64 x.to] 81)).alloc (Obj.cells #[Value.int IntKind.i64 ↑k] 3)).drew.heap.size = wr.heap.size + 2 := by simp [go_sem]
        have hp1 : ((wr.alloc (Obj.cells #[Value.int IntKind.i64 x.place, Value.int IntKind.i64 x.give, Value.int IntKind.i64 x.get, Value.int IntKind.i64 x.units, Value.int IntKind.i64 x.lo, Value.int IntKind.i64 x.hi, Value.int IntKind.i64 x.from_, Value.int IntKind.i64 x.to] 81)).alloc (Obj.cells #[Value.int IntKind.i64 ↑k] 3)).drew.cell? ⟨wr.heap.size, 0, none⟩ = some (.int .i64 x.place) := by simp [go_sem]
        generalize ((wr.alloc (Obj.cells #[Value.int IntKind.i64 x.place, Value.int IntKind.i64 x.give, Value.int IntKind.i64 x.get, Value.int IntKind.i64 x.units, Value.int IntKind.i64 x.lo, Value.int IntKind.i64 x.hi, Value.int IntKind.i64 x.from_, Value.int IntKind.i64 x.to] 81)).alloc (Obj.cells #[Value.int IntKind.i64 ↑k] 3)).drew = W1 at *
        have hlen := idxsTo_len l x.place k
        have Hs1 := Lib.hid hs1
        clear hs1
        refine wpListS_step ?_
        refine wpList_append_own_at W1 rfl (.tmp 38) (.tmp 40) 24 rfl (w0.heap.size + 2) 3 i0 (.int .i64 0) 1 8 Try.underlying24 HI.out HZ0.out HZ1.out HZ2.out rfl (by decide) (F x.place) _ _ rfl hown1 ⟨wr.heap.size + 1, 0, none⟩ 1 1 [.int .i64 k] rfl rfl ?_ ?_ ?_ ?_ ?_ ?_
        · intro j u hj
          cases j with
          | zero => simp at hj; subst hj; simpa [Addr.add] using hc1
          | succ j => simp at hj
        · intro u hu
          simp at hu
          subst hu
          rfl
        · unfold maxLen; omega
        · omega
        · rw [Hs1.out]; omega
        · intro v' w2 hown2 hgrow2 _ hat2
          have hblk : ∀ g, (F x.place).ownBlock = some g → w0.heap.size + 2 ≤ g ∧ g < wr.heap.size := (Hown.out x.place).lt
          have hne : ∀ j, j < w0.heap.size + 2 → some j ≠ (F x.place).ownBlock := fun j hj e => by have := (hblk j e.symm).1; omega
          have hne2 : some wr.heap.size ≠ (F x.place).ownBlock := fun e => by have := (hblk _ e.symm).2; omega
          have hF2 : MapIs w2 w0.heap.size (.slice none 0 0) F := (HF.out.ext hw1).same (hgrow2.block _ (by have := hw1.size; omega) (hne _ (by omega)))
          refine wpList_nil ⟨rfl, ⟨hgrow2.cell (hw1.cell hm1) (hne _ (by simp)), hgrow2.cell hp1 hne2, hF2⟩, ?_⟩
          obtain ⟨w3, hrun3, hmap3, hgrow3⟩ := run_mapUpdate_int hF2 Try.underlying130 Try.underlying3 x.place v'
          have HX := Lib.hid (And.intro (And.intro hw1 hgrow2) (And.intro hown2 (And.intro hat2 (And.intro hmap3 hgrow3))))
          have hst3 := stalls_step Hxk.out Hown.out Hdis.out hw1 hgrow2 hown2 hat2 hmap3 hgrow3 (by omega)
          have hx3 : Ext w0 w3 := by
            have h1 : Ext w0 W1 := Hx.out.trans hw1
            have h2 : Ext w0 w2 := Below.grown h1 hgrow2 h1.size (fun j hj => by have := (hblk j hj).1; omega)
            exact Below.grown h2 hgrow3 h2.size (fun j hj => by cases hj; exact Nat.le_refl _)
          have hm03 : w3.cell? ⟨w0.heap.size + 1, 0, none⟩ = some (.slice (some ⟨b, off, none⟩) n cap) := hgrow3.cell (hgrow2.cell (hw1.cell hm0) (hne _ (by simp))) (by simp)
          have hm13 : w3.cell? ⟨w0.heap.size + 1, 1, none⟩ = some (.map (some w0.heap.size)) := hgrow3.cell (hgrow2.cell (hw1.cell hm1) (hne _ (by simp))) (by simp)
          have hsz3 : w0.heap.size + 2 ≤ w3.heap.size := by have := hw1.size; have := hgrow2.size; have := hgrow3.size; omega
          have HY := Lib.hid (And.intro hst3 (And.intro hx3 (And.intro hm03 (And.intro hm13 hsz3))))
          clear hst3 hx3 hm03 hm13 hsz3 hmap3 hgrow3 hF2 hat2 hown2 hgrow2 hw1 hp1 hc1 hown1 hne hne2 hblk hm0 hm1
          refine wpListS_last ?_
          go_wp2_with fail
          refine wpListS_nil ?_
          clear hrun3
          go_wp2_with fail
          go_roundw
          case rel => exact ⟨k + 1, by omega, by go_num, HY.out.2.1, HY.out.2.2.2.2, HY.out.2.2.1, HY.out.2.2.2.1, HY.out.1⟩
          case measure => simp [intOf]; omega
    · go_wp2_with fail
      go_ret2
      have e : k = n := by omega
      subst e
      have hln := Hl.out.1
      obtain ⟨F, h1, h2, _⟩ := hst
      have hB := Hb.out.size
      exact ⟨w0.heap.size + 1, rfl, Hb.out.trans hx, by omega, hm0, w0.heap.size, F, hB, hm1, h1, fun p => by
        rw [hln]
        obtain ⟨a2, c2, e1, e2, e3⟩ := ints_of_row (h2 p) rfl
        exact ⟨a2, c2, e1, e2.mono (by omega), e3⟩⟩

/-- offers that are not valid -/
theorem open_bad (a : Option Addr) (n cap : Nat) (l : List Offer) (w : World) (hl : OffersAt w a n l) (hn : n ≤ 1000000000) (hv : (decide (l.length ≤ 10) && l.all Offer.valid) = false) :
    Calls Try.prog 61 #[.slice a n cap] w fun e w' => e = .returned (.tuple #[.pointer none, .int .i64 60]) ∧ Ext w w' := by
  have hll := hl.1
  have hev := every_offer 84 (enters_of Try.func84 (by kernel_rfl) rfl) a n cap l Offer.valid w hl (by omega) (fun o _ W _ => valid_any o W)
  by_cases h10 : n ≤ 10
  · have hf : l.all Offer.valid = false := by simpa [hll, h10] using hv
    rw [hf] at hev
    have Hev := Lib.hid hev
    clear hev hf hv hl hll
    have hn' : ¬ (10 : Int) < (n : Int) := by omega
    go_enter Try.func61, Try.ntmps61
    go_wp2_with (go_at_call 83; refine Hev.out.mono ?_; rintro e w0 ⟨rfl, hb⟩)
    go_ret2
    exact ⟨rfl, by assumption⟩
  · clear hev hv hl hll
    have hn' : (10 : Int) < (n : Int) := by omega
    go_enter Try.func61, Try.ntmps61
    go_wp2_with fail
    go_ret2
    exact ⟨rfl, Ext.refl _⟩
end Go.Proofs.Ytkbhmajcddmhnaa
