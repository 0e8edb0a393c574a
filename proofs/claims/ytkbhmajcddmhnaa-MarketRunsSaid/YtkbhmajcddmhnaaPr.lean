/- Prices: plain words; how they are read. -/
import Derived.Test.YtkbhmajcddmhnaaHere
import Derived.Test.YtkbhmajcddmhnaaRefTrip
namespace Go.Proofs.Ytkbhmajcddmhnaa
open Go.RowKit
set_option linter.unusedVariables false

/-- a proposition as a Bool -/
noncomputable def PB (P : Prop) : Bool := @decide P (Classical.propDecidable P)
theorem PB_true {P : Prop} (h : P) : PB P = true := by unfold PB; simp [h]
theorem PB_false {P : Prop} (h : ¬ P) : PB P = false := by unfold PB; simp [h]
theorem PB_congr {P Q : Prop} (h : P ↔ Q) : PB P = PB Q := by rw [propext h]

def pr (ps : List (List Int)) (i : Nat) (g : Int) : Int := (ps.getD i []).getD g.toNat 0
def rowOk (r : List Int) : Bool := decide (r.length = 5) && r.all fun n => inB n 0 1000000
def openB (o : Offer) (f : Fair) : Bool := o.place == f.place && inB f.day o.from_ o.to
def OffOk (f : Fair) (ps : List (List Int)) (i : Nat) (o : Offer) : Prop := openB o f = true → o.hi * pr ps i o.get ≤ o.units * pr ps i o.give
def RoadOk (f : Fair) (ps : List (List Int)) (i : Nat) (g : Nat) : Prop := pr ps (i + 1) g * (f.keeps.getD g ⟨0, 0⟩).hi ≤ 1000 * pr ps i g
def FairOk (l : List Offer) (n : Nat) (ps : List (List Int)) (i : Nat) (f : Fair) : Prop := (∀ (k : Nat) (o : Offer), l[k]? = some o → OffOk f ps i o) ∧ (i + 1 < n → ∀ g : Nat, g < 5 → RoadOk f ps i g)
/-- prices are a proof, but for the good that is wanted -/
def Priced (l : List Offer) (fs : List Fair) (ps : List (List Int)) : Prop :=
  ps.length = fs.length ∧ (∀ (i : Nat) (r : List Int), ps[i]? = some r → rowOk r = true) ∧ ∀ (i : Nat) (f : Fair), fs[i]? = some f → FairOk l fs.length ps i f

theorem RowsAt.price {w : World} {a : Option Addr} {n : Nat} {ps : List (List Int)} (h : RowsAt w a n ps) (ok : ∀ (i : Nat) (r : List Int), ps[i]? = some r → rowOk r = true) (i : Nat) (hi : i < n) :
    ∃ b off rb ro c, a = some ⟨b, off, none⟩ ∧ b < w.heap.size ∧ w.cell? ⟨b, off + i, none⟩ = some (.slice (some ⟨rb, ro, none⟩) 5 c) ∧ rb < w.heap.size ∧
      ∀ g : Nat, g < 5 → w.cell? ⟨rb, ro + g, none⟩ = some (.int .i64 (pr ps i g)) ∧ 0 ≤ pr ps i g ∧ pr ps i g ≤ 1000000 := by
  obtain ⟨b, off, x, ka, kn, kc, rfl, hx, hb, c0, h1, h2, h3⟩ := h.get i hi
  have hr := ok i x hx
  simp only [rowOk, Bool.and_eq_true, decide_eq_true_eq] at hr
  obtain ⟨h5, hall⟩ := hr
  have hk : kn = 5 := by rw [← h3.1]; exact h5
  subst hk
  obtain ⟨rb, ro, y, rfl, hy, hrb, d0⟩ := h3.get 0 (by omega)
  refine ⟨b, off, rb, ro, kc, rfl, hb, c0, hrb, fun g hg => ?_⟩
  obtain ⟨rb', ro', y', e, hy', _, d1⟩ := h3.get g hg
  cases e
  have hp : pr ps i g = y' := by simp [pr, List.getD, hx, hy']
  have := List.all_eq_true.1 hall y' (List.mem_of_getElem? hy')
  simp only [inB, Bool.and_eq_true, decide_eq_true_eq] at this
  rw [hp]
  exact ⟨d1, this.1, this.2⟩

theorem offer_bounds {l : List Offer} (h : offersOk l = true) {k : Nat} {o : Offer} (ho : l[k]? = some o) :
    ∃ gi ge : Nat, o.give = gi ∧ o.get = ge ∧ gi < 5 ∧ ge < 5 ∧ gi ≠ ge ∧ 1 ≤ o.units ∧ o.units ≤ 50 ∧ 1 ≤ o.lo ∧ o.lo ≤ o.hi ∧ o.hi ≤ 50 ∧ 0 ≤ o.place ∧ o.place ≤ 9999 ∧ 0 ≤ o.from_ ∧ o.from_ ≤ o.to ∧ o.to ≤ 100000 := by
  simp only [offersOk, Bool.and_eq_true] at h
  have := List.all_eq_true.1 h.2 o (List.mem_of_getElem? ho)
  simp [Offer.valid, inB, properB] at this
  exact ⟨o.give.toNat, o.get.toNat, by omega, by omega, by omega, by omega, by omega, by omega, by omega, by omega, by omega, by omega, by omega, by omega, by omega, by omega, by omega⟩
theorem fair_bounds {fs : List Fair} (h : tripOk fs = true) {k : Nat} {f : Fair} (hf : fs[k]? = some f) : f.keeps.length = 5 ∧ 0 ≤ f.place ∧ f.place ≤ 9999 ∧ 0 ≤ f.day ∧ f.day ≤ 100000 ∧ ∀ (g : Nat) (s : Span), f.keeps[g]? = some s → 0 ≤ s.lo ∧ s.lo ≤ s.hi ∧ s.hi ≤ 1000 := by
  simp only [tripOk, Bool.and_eq_true] at h
  have := List.all_eq_true.1 h.1.2 f (List.mem_of_getElem? hf)
  simp only [Fair.valid, Bool.and_eq_true, decide_eq_true_eq, inB] at this
  refine ⟨this.1.2, this.1.1.1.1, this.1.1.1.2, this.1.1.2.1, this.1.1.2.2, fun g s hs => ?_⟩
  have := List.all_eq_true.1 this.2 s (List.mem_of_getElem? hs)
  simp only [Span.part, properB, Bool.and_eq_true, decide_eq_true_eq] at this
  omega
theorem trip_len {fs : List Fair} (h : tripOk fs = true) : 1 ≤ fs.length ∧ fs.length ≤ 5 := by
  simp only [tripOk, Bool.and_eq_true, inB, decide_eq_true_eq] at h
  omega
theorem offers_len {l : List Offer} (h : offersOk l = true) : l.length ≤ 10 := by
  simp only [offersOk, Bool.and_eq_true, decide_eq_true_eq] at h
  exact h.1

def checkOf (l : List Offer) (fs : List Fair) : Int := if offersOk l then (if tripOk fs then 0 else 61) else 60

theorem refCheck_any (a : Option Addr) (n cap : Nat) (l : List Offer) (fa : Option Addr) (fn fc : Nat) (fs : List Fair) (w : World) (ho : ∀ W, Ext w W → Calls Try.prog 39 #[.slice a n cap] W fun e w' => e = .returned (.bool (offersOk l)) ∧ Ext W w')
    (hf : FairsAt w fa fn fs) (hm : fn ≤ 1000000) :
    Calls Try.prog 24 #[.slice a n cap, .slice fa fn fc] w fun e w' => e = .returned (.int .i64 (checkOf l fs)) ∧ Ext w w' := by
  have h1 := ho w (Ext.refl _)
  have h2 := fun W (hW : Ext w W) => refTrip_any fa fn fc fs W (hf.ext hW) hm
  unfold checkOf
  clear hf ho
  cases e1 : offersOk l <;> cases e2 : tripOk fs
  all_goals
    rw [e1] at h1
    rw [e2] at h2
    have H1 := Lib.hid h1
    have H2 := Lib.hid h2
    clear h1 h2 e1 e2
    go_enter Try.func24, Try.ntmps24
    go_wp2_with (first | (go_at_call 39; refine H1.out.mono ?_; rintro e w1 ⟨rfl, hx1⟩) | (go_at_call 58; refine (H2.out _ (by assumption)).mono ?_; rintro e w2 ⟨rfl, hx2⟩))
    go_ret
    exact ⟨rfl, by first | assumption | exact Ext.trans (by assumption) (by assumption)⟩
end Go.Proofs.Ytkbhmajcddmhnaa
