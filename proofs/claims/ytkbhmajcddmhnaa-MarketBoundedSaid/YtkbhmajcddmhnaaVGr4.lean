/- Prices: plain words; how they are read. -/
import Derived.Test.YtkbhmajcddmhnaaVGr3
import Derived.Test.YtkbhmajcddmhnaaVRefTrip
namespace Go.Proofs.Ytkbhmajcddmhnaa
open Go.RowKit
set_option linter.unusedVariables false

/-- a proposition as a Bool -/
noncomputable def PB (P : Prop) : Bool := @decide P (Classical.propDecidable P)
theorem PB_true {P : Prop} (h : P) : PB P = true := by unfold PB; simp [h]
theorem PB_false {P : Prop} (h : ¬ P) : PB P = false := by unfold PB; simp [h]
theorem PB_congr {P Q : Prop} (h : P ↔ Q) : PB P = PB Q := by rw [propext h]

def pr (ps : List (List Int)) (i : Nat) (g : Int) : Int := (ps.getD i []).getD g.toNat 0
def rowOk (r : List Int) : Bool := decide (r.length = 5) && r.all fun n => inB n 0 1000000
def openB (o : Offer) (f : Fair) : Bool := o.place == f.place && inB f.day o.from_ o.to
def OffOk (f : Fair) (ps : List (List Int)) (i : Nat) (o : Offer) : Prop := openB o f = true → o.hi * pr ps i o.get ≤ o.units * pr ps i o.give
def RoadOk (f : Fair) (ps : List (List Int)) (i : Nat) (g : Nat) : Prop := pr ps (i + 1) g * (f.keeps.getD g ⟨0, 0⟩).hi ≤ 1000 * pr ps i g
def FairOk (l : List Offer) (n : Nat) (ps : List (List Int)) (i : Nat) (f : Fair) : Prop := (∀ (k : Nat) (o : Offer), l[k]? = some o → OffOk f ps i o) ∧ (i + 1 < n → ∀ g : Nat, g < 5 → RoadOk f ps i g)
/-- prices are a proof, but for the good that is wanted -/
def Priced (l : List Offer) (fs : List Fair) (ps : List (List Int)) : Prop :=
  ps.length = fs.length ∧ (∀ (i : Nat) (r : List Int), ps[i]? = some r → rowOk r = true) ∧ ∀ (i : Nat) (f : Fair), fs[i]? = some f → FairOk l fs.length ps i f

theorem RowsAt.price {w : World} {a : Option Addr} {n : Nat} {ps : List (List Int)} (h : RowsAt w a n ps) (ok : ∀ (i : Nat) (r : List Int), ps[i]? = some r → rowOk r = true) (i : Nat) (hi : i < n) :
    ∃ b off rb ro c, a = some ⟨b, off, none⟩ ∧ b < w.heap.size ∧ w.cell? ⟨b, off + i, none⟩ = some (.slice (some ⟨rb, ro, none⟩) 5 c) ∧ rb < w.heap.size ∧
      ∀ g : Nat, g < 5 → w.cell? ⟨rb, ro + g, none⟩ = some (.int .i64 (pr ps i g)) ∧ 0 ≤ pr ps i g ∧ pr ps i g ≤ 1000000 := by
  obtain ⟨b, off, x, ka, kn, kc, rfl, hx, hb, c0, h1, h2, h3⟩ := h.get i hi
  have hr := ok i x hx
  simp only [rowOk, Bool.and_eq_true, decide_eq_true_eq] at hr
  obtain ⟨h5, hall⟩ := hr
  have hk : kn = 5 := by rw [← h3.1]; exact h5
  subst hk
  obtain ⟨rb, ro, y, rfl, hy, hrb, d0⟩ := h3.get 0 (by omega)
  refine ⟨b, off, rb, ro, kc, rfl, hb, c0, hrb, fun g hg => ?_⟩
  obtain ⟨rb', ro', y', e, hy', _, d1⟩ := h3.get g hg
  cases e
  have hp : pr ps i g = y' := by simp [pr, List.getD, hx, hy']
  have := List.all_eq_true.1 hall y' (List.mem_of_getElem? hy')
  simp only [inB, Bool.and_eq_true, decide_eq_true_eq] at this
  rw [hp]
  exact ⟨d1, this.1, this.2⟩

theorem offer_bounds {l : List Offer} (h : offersOk l = true) {k : Nat} {o : Offer} (ho : l[k]? = some o) :
    ∃ gi ge : Nat, o.give = gi ∧ o.get = ge ∧ gi < 5 ∧ ge < 5 ∧ gi ≠ ge ∧ 1 ≤ o.units ∧ o.units ≤ 50 ∧ 1 ≤ o.lo ∧ o.lo ≤ o.hi ∧ o.hi ≤ 50 ∧ 0 ≤ o.place ∧ o.place ≤ 9999 ∧ 0 ≤ o.from_ ∧ o.from_ ≤ o.to ∧ o.to ≤ 100000 := by
  simp only [offersOk, Bool.and_eq_true] at h
  have := List.all_eq_true.1 h.2 o (List.mem_of_getElem? ho)
  simp [Offer.valid, inB, properB] at this
  exact ⟨o.give.toNat, o.get.toNat, by omega, by omega, by omega, by omega, by omega, by omega, by omega, by omega, by omega, by omega, by omega, by omega, by omega, by omega, by omega⟩
theorem fair_bounds {fs : List Fair} (h : tripOk fs = true) {k : Nat} {f : Fair} (hf : fs[k]? = some f) : f.keeps.length = 5 ∧ 0 ≤ f.place ∧ f.place ≤ 9999 ∧ 0 ≤ f.day ∧ f.day ≤ 100000 ∧ ∀ (g : Nat) (s : Span), f.keeps[g]? = some s → 0 ≤ s.lo ∧ s.lo ≤ s.hi ∧ s.hi ≤ 1000 := by
  simp only [tripOk, Bool.and_eq_true] at h
  have := List.all_eq_true.1 h.1.2 f (List.mem_of_getElem? hf)
  simp only [Fair.valid, Bool.and_eq_true, decide_eq_true_eq, inB] at this
  refine ⟨this.1.2, this.1.1.1.1, this.1.1.1.2, this.1.1.2.1, this.1.1.2.2, fun g s hs => ?_⟩
  have := List.all_eq_true.1 this.2 s (List.mem_of_getElem? hs)
  simp only [Span.part, properB, Bool.and_eq_true, decide_eq_true_eq] at this
  omega
theorem trip_len {fs : List Fair} (h : tripOk fs = true) : 1 ≤ fs.length ∧ fs.length ≤ 5 := by
  simp only [tripOk, Bool.and_eq_true, inB, decide_eq_true_eq] at h
  omega
theorem offers_len {l : List Offer} (h : offersOk l = true) : l.length ≤ 10 := by
  simp only [offersOk, Bool.and_eq_true, decide_eq_true_eq] at h
  exact h.1

def checkOf (l : List Offer) (fs : List Fair) : Int := if offersOk l then (if tripOk fs then 0 else 61) else 60

theorem refCheck_any (a : Option Addr) (n cap : Nat) (l : List Offer) (fa : Option Addr) (fn fc : Nat) (fs : List Fair) (w : World) (ho : ∀ W, Ext w W → Calls Try.prog 39 #[.slice a n cap] W fun e w' => e = .returned (.bool (offersOk l)) ∧ Ext W w')
    (hf : FairsAt w fa fn fs) (hm : fn ≤ 1000000) :
    Calls Try.prog 24 #[.slice a n cap, .slice fa fn fc] w fun e w' => e = .returned (.int .i64 (checkOf l fs)) ∧ Ext w w' := by
  have h1 := ho w (Ext.refl _)
  have h2 := fun W (hW : Ext w W) => refTrip_any fa fn fc fs W (hf.ext hW) hm
  unfold checkOf
  clear hf ho
  cases e1 : offersOk l <;> cases e2 : tripOk fs
  all_goals
    rw [e1] at h1
    rw [e2] at h2
    have H1 := Lib.hid h1
    have H2 := Lib.hid h2
    clear h1 h2 e1 e2
    go_enter Try.func24, Try.ntmps24
    go_wp2_with (first | (go_at_call 39; refine H1.out.mono ?_; rintro e w1 ⟨rfl, hx1⟩) | (go_at_call 58; refine (H2.out _ (by assumption)).mono ?_; rintro e w2 ⟨rfl, hx2⟩))
    go_ret
    exact ⟨rfl, by first | assumption | exact Ext.trans (by assumption) (by assumption)⟩
end Go.Proofs.Ytkbhmajcddmhnaa

/- Contract: market.filled. -/
namespace Go.Proofs.Ytkbhmajcddmhnaa
open Go.RowKit
set_option linter.unusedVariables false

def stocksOk (l : List Int) : Bool := decide (l.length = 5) && l.all (fun n => inB n 0 1000000)

theorem filledFn_any (x : Int) (w : World) : Calls Try.prog 76 #[.int .i64 x] w fun e w' => e = .returned (.bool (inB x 0 1000000)) ∧ Ext w w' := by
  go_enter Try.func76, Try.ntmps76
  go_wp2_with (go_at_call 51; refine (in_any _ _ _ _).mono ?_; rintro e w' ⟨rfl, rfl⟩)
  go_ret
  exact ⟨rfl, Ext.refl _⟩

theorem ints5 {w : World} {a : Option Addr} {l : List Int} (h : IntsAt .i64 w a 5 l) : ∃ b off x0 x1 x2 x3 x4, a = some ⟨b, off, none⟩ ∧ l = [x0, x1, x2, x3, x4] ∧ b < w.heap.size ∧ w.cell? ⟨b, off, none⟩ = some (.int .i64 x0) ∧ w.cell? ⟨b, off + 1, none⟩ = some (.int .i64 x1) ∧
    w.cell? ⟨b, off + 2, none⟩ = some (.int .i64 x2) ∧ w.cell? ⟨b, off + 3, none⟩ = some (.int .i64 x3) ∧ w.cell? ⟨b, off + 4, none⟩ = some (.int .i64 x4) := by
  obtain ⟨b, off, x0, rfl, h0, hb, c0⟩ := h.get 0 (by omega)
  obtain ⟨b', off', x1, e1, h1, _, c1⟩ := h.get 1 (by omega)
  cases e1
  obtain ⟨b', off', x2, e1, h2, _, c2⟩ := h.get 2 (by omega)
  cases e1
  obtain ⟨b', off', x3, e1, h3, _, c3⟩ := h.get 3 (by omega)
  cases e1
  obtain ⟨b', off', x4, e1, h4, _, c4⟩ := h.get 4 (by omega)
  cases e1
  have hl := h.1
  refine ⟨b, off, x0, x1, x2, x3, x4, rfl, ?_, hb, c0, c1, c2, c3, c4⟩
  match l, hl with
  | [y0, y1, y2, y3, y4], _ => simp at h0 h1 h2 h3 h4; simp [*]

set_option maxRecDepth 100000 in
set_option maxHeartbeats 4000000 in
theorem filled_ok (a : Option Addr) (cap : Nat) (x0 x1 x2 x3 x4 : Int) (w : World) (hl : IntsAt .i64 w a 5 [x0, x1, x2, x3, x4]) (hv : stocksOk [x0, x1, x2, x3, x4] = true) :
    Calls Try.prog 47 #[.slice a 5 cap] w fun e w' => e = .returned (.tuple #[.agg #[.int .i64 x0, .int .i64 x0, .int .i64 x1, .int .i64 x1, .int .i64 x2, .int .i64 x2, .int .i64 x3, .int .i64 x3, .int .i64 x4, .int .i64 x4], .bool true]) ∧ Ext w w' := by
  have hev : ∀ W, Ext w W → Calls Try.prog 75 #[.slice a 5 cap, .func (.func 76) #[] #[]] W fun e w' => e = .returned (.bool true) ∧ Ext W w' := fun W hW => by
    have := every_int 76 (enters_of Try.func76 (by kernel_rfl) rfl) a 5 cap _ (fun n => inB n 0 1000000) W (hl.ext hW) (by omega) (fun o _ W' _ => filledFn_any o W')
    simp only [stocksOk, Bool.and_eq_true] at hv
    rw [hv.2] at this
    exact this
  obtain ⟨b, off, y0, y1, y2, y3, y4, rfl, he, hb, c0, c1, c2, c3, c4⟩ := ints5 hl
  cases he
  have Hev := Lib.hid hev
  clear hl hv hev
  go_enter Try.func47, Try.ntmps47
  go_wp2_with (go_at_call 75; refine (Hev.out _ ((Ext.refl _).alloc _)).mono ?_; rintro e w1 ⟨rfl, hx1⟩; obtain ⟨hc1, hf1⟩ := hx1.box (heap_alloc_new w _); have hz1 := ((Ext.refl _).alloc _).trans hx1; obtain ⟨hc2, hf2, hz2⟩ := hz1.facts)
  refine wp_loop_rounds 6 ?_
  iterate 6 (rw [rounds_succ]; go_wp2_with fail)
  have hb1 := hx1.heap (heap_alloc_new w _)
  refine bodyPost_ret (results_cell_tmp (P := Try.prog) (fn := Try.f47) rfl _ _ w.heap.size 107 #[.int .i64 x0, .int .i64 x0, .int .i64 x1, .int .i64 x1, .int .i64 x2, .int .i64 x2, .int .i64 x3, .int .i64 x3, .int .i64 x4, .int .i64 x4] (0, 0) _ rfl (by simp only [heap_setCell_box, hb1, Option.map_some, setIn_cells, List.setIfInBounds_toArray, List.set_cons_zero, List.set_cons_succ]) Try.underlying107 rfl (by kernel_rfl)) rfl ⟨rfl, ?_⟩
  repeat (refine Ext.setCell ?_ (Nat.le_refl _) _)
  exact hz1

theorem filled_bad (a : Option Addr) (n cap : Nat) (l : List Int) (w : World) (hl : IntsAt .i64 w a n l) (hn : n ≤ 1000000) (hv : stocksOk l = false) :
    Calls Try.prog 47 #[.slice a n cap] w fun e w' => e = .returned (.tuple #[.agg #[.int .i64 0, .int .i64 0, .int .i64 0, .int .i64 0, .int .i64 0, .int .i64 0, .int .i64 0, .int .i64 0, .int .i64 0, .int .i64 0], .bool false]) ∧ Ext w w' := by
  have hln := hl.1
  by_cases h5 : n = 5
  · have hev : ∀ W, Ext w W → Calls Try.prog 75 #[.slice a n cap, .func (.func 76) #[] #[]] W fun e w' => e = .returned (.bool false) ∧ Ext W w' := fun W hW => by
      have := every_int 76 (enters_of Try.func76 (by kernel_rfl) rfl) a n cap _ (fun n => inB n 0 1000000) W (hl.ext hW) (by omega) (fun o _ W' _ => filledFn_any o W')
      have e : (l.all fun n => inB n 0 1000000) = false := by simpa [stocksOk, hln, h5] using hv
      rw [e] at this
      exact this
    subst h5
    have Hev := Lib.hid hev
    clear hl hv hev hln
    go_enter Try.func47, Try.ntmps47
    go_wp2_with (go_at_call 75; refine (Hev.out _ ((Ext.refl _).alloc _)).mono ?_; rintro e w1 ⟨rfl, hx1⟩; obtain ⟨hc1, hf1⟩ := hx1.box (heap_alloc_new w _))
    refine bodyPost_ret (v := .tuple #[.agg #[.int .i64 0, .int .i64 0, .int .i64 0, .int .i64 0, .int .i64 0, .int .i64 0, .int .i64 0, .int .i64 0, .int .i64 0, .int .i64 0], .bool false]) (by simp only [results, Try.results47]; go_simp) rfl ⟨rfl, ?_⟩
    repeat (refine Ext.setCell ?_ (Nat.le_refl _) _)
    exact ((Ext.refl _).alloc _).trans hx1
  · have h5' : ((n : Int) != 5) = true := by rw [bne_iff_ne]; omega
    clear hl hv hln
    go_enter Try.func47, Try.ntmps47
    go_wp2_with fail
    refine bodyPost_ret (v := .tuple #[.agg #[.int .i64 0, .int .i64 0, .int .i64 0, .int .i64 0, .int .i64 0, .int .i64 0, .int .i64 0, .int .i64 0, .int .i64 0, .int .i64 0], .bool false]) (by simp [results, Try.results47, go_sem]) rfl ⟨rfl, ?_⟩
    repeat (refine Ext.setCell ?_ (Nat.le_refl _) _)
    exact (Ext.refl _).alloc _
end Go.Proofs.Ytkbhmajcddmhnaa

/- Contracts of the reference: Great, Offers, Stocks. -/
namespace Go.Proofs.Ytkbhmajcddmhnaa
open Go.RowKit
set_option linter.unusedVariables false

def greatB (l : List Offer) (fs : List Fair) : Bool := decide (15 < l.length) || decide (8 < fs.length) || fs.any fun f => decide (10 < f.keeps.length)

theorem great_any (a : Option Addr) (n cap : Nat) (l : List Offer) (fa : Option Addr) (fn fc : Nat) (fs : List Fair) (w : World) (hln : l.length = n) (hf : FairsAt w fa fn fs) (hn : n ≤ maxLen) (hm : fn ≤ maxLen) :
    Calls Try.prog 15 #[.slice a n cap, .slice fa fn fc] w fun e w' => e = .returned (.bool (greatB l fs)) ∧ Ext w w' := by
  have hfn := hf.1
  unfold maxLen at hn hm
  have Hf := Lib.hid hf
  have Hl := Lib.hid hln
  have Hfn := Lib.hid hfn
  clear hf hln hfn
  by_cases h1 : 15 < n
  · go_enter Try.func15, Try.ntmps15
    go_wp2_with fail
    go_ret
    exact ⟨ret_bool (by simp [greatB, Hl.out, h1]), Ext.refl _⟩
  by_cases h2 : 8 < fn
  · go_enter Try.func15, Try.ntmps15
    go_wp2_with fail
    go_ret
    exact ⟨ret_bool (by simp [greatB, Hfn.out, h2]), Ext.refl _⟩
  go_enter Try.func15, Try.ntmps15
  go_wp2_with fail
  go_loop [5] (fun i => ∃ k : Nat, k ≤ fn ∧ i = .int .i64 k ∧ ∀ (j : Nat) (y : Fair), j < k → fs[j]? = some y → y.keeps.length ≤ 10) (fun i => fn - (intOf i).toNat)
  case atStart => exact ⟨0, Nat.zero_le _, rfl, fun j y h => by omega⟩
  case round =>
    obtain ⟨k, hk, rfl, hall⟩ := hrel
    have Hall := Lib.hid hall
    clear hall
    by_cases hlt : k < fn
    · obtain ⟨b, off, x, ka, kn, kc, rfl, hxk, hb, c0, c1, c2, h3, h4, h5⟩ := Hf.out.get k hlt
      have hkl := h5.1
      have Hx := Lib.hid (And.intro hxk hkl)
      unfold maxLen at h4
      clear hxk h5 hkl
      by_cases h10 : 10 < kn
      · go_wp2_with fail
        go_ret
        refine ⟨ret_bool ?_, Ext.refl _⟩
        symm
        unfold greatB
        have : (fs.any fun f => decide (10 < f.keeps.length)) = true := List.any_eq_true.2 ⟨x, List.mem_of_getElem? Hx.out.1, by rw [Hx.out.2]; simpa using h10⟩
        rw [this]; simp
      · go_wp2_with fail
        go_round
        case rel => exact ⟨k + 1, by omega, by go_num, fun j y hj hy => by
            rcases Nat.lt_or_ge j k with h | h
            · exact Hall.out j y h hy
            · have e : j = k := by omega
              subst e
              have := Hx.out.1
              rw [hy] at this
              cases this
              have := Hx.out.2
              omega⟩
        case measure => simp [intOf]; omega
    · go_wp2_with fail
      go_ret
      refine ⟨ret_bool ?_, Ext.refl _⟩
      symm
      unfold greatB
      have e1 : decide (15 < l.length) = false := by rw [Hl.out]; simpa using h1
      have e2 : decide (8 < fs.length) = false := by rw [Hfn.out]; simpa using h2
      have e3 : (fs.any fun f => decide (10 < f.keeps.length)) = false := by
        rw [List.any_eq_false]
        intro y hy
        obtain ⟨j, hj⟩ := List.mem_iff_getElem?.1 hy
        have hjl : j < fs.length := by rcases Nat.lt_or_ge j fs.length with h | h; exact h; simp [List.getElem?_eq_none h] at hj
        have := Hall.out j y (by have := Hfn.out; omega) hj
        simp; omega
      rw [e1, e2, e3]; rfl

theorem stocks_any (a : Option Addr) (n cap : Nat) (l : List Int) (w : World) (hl : IntsAt .i64 w a n l) (hn : n ≤ 1000000) :
    Calls Try.prog 34 #[.slice a n cap] w fun e w' => e = .returned (.bool (stocksOk l)) ∧ Ext w w' := by
  have hln := hl.1
  have Hl := Lib.hid hl
  have Hln := Lib.hid hln
  clear hl hln
  by_cases h5 : n = 5
  · subst h5
    go_enter Try.func34, Try.ntmps34
    go_wp2_with fail
    go_loop [3] (fun i => ∃ k : Nat, k ≤ 5 ∧ i = .int .i64 k ∧ ∀ (j : Nat) (y : Int), j < k → l[j]? = some y → inB y 0 1000000 = true) (fun i => 5 - (intOf i).toNat)
    case atStart => exact ⟨0, Nat.zero_le _, rfl, fun j y h => by omega⟩
    case round =>
      obtain ⟨k, hk, rfl, hall⟩ := hrel
      have Hall := Lib.hid hall
      clear hall
      by_cases hlt : k < 5
      · obtain ⟨b, off, x, rfl, hxk, hb, c0⟩ := Hl.out.get k hlt
        have Hx := Lib.hid hxk
        clear hxk
        have hc := within_any x 0 1000000
        cases hin : inB x 0 1000000
        all_goals
          rw [hin] at hc
          have Hc := Lib.hid hc
          have Hin := Lib.hid hin
          clear hc hin
          go_wp2_with (go_at_call 50; refine (Hc.out _).mono ?_; rintro e w' ⟨rfl, rfl⟩)
        · go_ret
          refine ⟨ret_bool ?_, Ext.refl _⟩
          symm
          have : (l.all fun n => inB n 0 1000000) = false := by
            rw [List.all_eq_false]
            exact ⟨x, List.mem_of_getElem? Hx.out, by rw [Hin.out]; simp⟩
          simp [stocksOk, this]
        · go_round
          case rel => exact ⟨k + 1, by omega, by go_num, fun j y hj hy => by
              rcases Nat.lt_or_ge j k with h | h
              · exact Hall.out j y h hy
              · have e : j = k := by omega
                subst e
                have := Hx.out
                rw [hy] at this
                cases this
                exact Hin.out⟩
          case measure => simp [intOf]; omega
      · go_wp2_with fail
        go_ret
        refine ⟨ret_bool ?_, Ext.refl _⟩
        symm
        have e1 : decide (l.length = 5) = true := by rw [Hln.out]; rfl
        have : (l.all fun n => inB n 0 1000000) = true := by
          rw [List.all_eq_true]
          intro y hy
          obtain ⟨j, hj⟩ := List.mem_iff_getElem?.1 hy
          have hjl : j < l.length := by rcases Nat.lt_or_ge j l.length with h | h; exact h; simp [List.getElem?_eq_none h] at hj
          exact Hall.out j y (by have := Hln.out; omega) hj
        simp [stocksOk, this, Hln.out]
  · have h5' : ((n : Int) != 5) = true := by rw [bne_iff_ne]; omega
    go_enter Try.func34, Try.ntmps34
    go_wp2_with fail
    go_ret
    exact ⟨ret_bool (by simp [stocksOk, Hln.out, h5]), Ext.refl _⟩

theorem offersOk_false {l : List Offer} {x : Offer} (h : x ∈ l) (hv : x.valid = false) : offersOk l = false := by
  have : l.all Offer.valid = false := by rw [List.all_eq_false]; exact ⟨x, h, by rw [hv]; simp⟩
  simp [offersOk, this]

set_option maxHeartbeats 2000000 in
theorem refOffers_any (a : Option Addr) (n cap : Nat) (l : List Offer) (w : World) (hl : OffersAt w a n l) (hn : n ≤ 1000000) :
    Calls Try.prog 39 #[.slice a n cap] w fun e w' => e = .returned (.bool (offersOk l)) ∧ Ext w w' := by
  have hln := hl.1
  have Hl := Lib.hid hl
  have Hln := Lib.hid hln
  clear hl hln
  by_cases h10 : 10 < n
  · go_enter Try.func39, Try.ntmps39
    go_wp2_with fail
    go_ret
    exact ⟨ret_bool (by simp [offersOk, Hln.out]; omega), Ext.refl _⟩
  go_enter Try.func39, Try.ntmps39
  go_wp2_with fail
  go_loopw [3] (fun i wr => ∃ k : Nat, k ≤ n ∧ i = .int .i64 k ∧ Ext w wr ∧ ∀ (j : Nat) (y : Offer), j < k → l[j]? = some y → y.valid = true) (fun i _ => n - (intOf i).toNat)
  case atStart => exact ⟨0, Nat.zero_le _, rfl, Ext.refl _, fun j y h => by omega⟩
  case round =>
    obtain ⟨k, hk, rfl, hx, hall⟩ := hrel
    have Hall := Lib.hid hall
    clear hall
    by_cases hlt : k < n
    · obtain ⟨b, off, x, rfl, hxk, hb, c0, c1, c2, c3, c4, c5, c6, c7⟩ := (Hl.out.ext hx).get k hlt
      have Hx := Lib.hid (And.intro hxk hx)
      clear hxk hx
      go_wp2_with (first | (go_at_call 50; refine (within_any _ _ _ _).mono ?_; rintro e w' ⟨rfl, rfl⟩) | (go_at_call 70; refine (ordered_any _ _ _ _ _).mono ?_; rintro e w' ⟨rfl, hb⟩; obtain ⟨hc, hf, hz⟩ := hb.facts))
      case' roundEnd => go_roundw
      case measure => simp [intOf]; omega
      case rel =>
        refine ⟨k + 1, by omega, by go_num, ?_, fun j y hj hy => ?_⟩
        · have hx0 := Hx.out.2
          with_reducible (repeat (first | assumption | exact Ext.refl _ | refine Ext.alloc ?_ _ | refine Ext.drew ?_ | (refine Ext.trans ?_ (by assumption))))
        · rcases Nat.lt_or_ge j k with h | h
          · exact Hall.out j y h hy
          · have e : j = k := by omega
            subst e
            have := Hx.out.1
            rw [hy] at this
            cases this
            simp [Offer.valid, inB, properB] at *
            omega
      all_goals
        go_ret
        refine ⟨ret_bool ?_, ?_⟩
        · symm
          refine offersOk_false (List.mem_of_getElem? Hx.out.1) ?_
          simp [Offer.valid, inB, properB] at *
          omega
        · have hx0 := Hx.out.2
          with_reducible (repeat (first | assumption | exact Ext.refl _ | refine Ext.alloc ?_ _ | refine Ext.drew ?_ | (refine Ext.trans ?_ (by assumption))))
    · go_wp2_with fail
      go_ret
      refine ⟨ret_bool ?_, hx⟩
      symm
      have : l.all Offer.valid = true := by
        rw [List.all_eq_true]
        intro y hy
        obtain ⟨j, hj⟩ := List.mem_iff_getElem?.1 hy
        have hjl : j < l.length := by rcases Nat.lt_or_ge j l.length with h | h; exact h; simp [List.getElem?_eq_none h] at hj
        exact Hall.out j y (by have := Hln.out; omega) hj
      simp [offersOk, this, Hln.out]; omega
end Go.Proofs.Ytkbhmajcddmhnaa
