/- The examples' values, and the calls that yield them. -/
import Derived.Test.YtacdndehlkaaeaaVGr4
import Derived.Test.YtacdndehlkaaeaaVGr5
import Derived.Test.YtacdndehlkaaeaaVSee
import Derived.Test.YtacdndehlkaaeaaVBndF
import Derived.Test.YtacdndehlkaaeaaVMarch
import Derived.Test.YtacdndehlkaaeaaVClash
import Derived.Test.YtacdndehlkaaeaaVFinds
namespace Go.Proofs.Ytacdndehlkaaeaa
open Go.RowKit
set_option linter.unusedVariables false
def exTrek : Trek := ⟨⟨1, 2⟩, ⟨1000, 3000⟩, ⟨-1000, 500⟩⟩
def exL : List Sight := [⟨2, 0, 0, 0, 0, 0, 0, 0, 1000, 0⟩, exB, exC]
def exL1 : List Half := (seeOf fieldL exA).1
def exL2 : List Half := (seeOf exL1 exB).1
def exL3 : List Half := (seeOf fieldL exC).1
def exL4 : List Half := (marchOf exL3 exTrek).1
theorem exEv0 : startOf ⟨0, 10000⟩ ⟨0, 10000⟩ = (fieldL, 0) := by decide +kernel
theorem exEv1 : seeOf fieldL exA = (exL1, 0) := by decide +kernel
theorem exEv2 : seeOf exL1 exB = (exL2, 0) := by decide +kernel
theorem exEv3 : boundsOf exL2 = (⟨0, 5000⟩, ⟨0, 10000⟩, 0) := by decide +kernel
theorem exEv4 : seeOf fieldL exC = (exL3, 0) := by decide +kernel
theorem exEv5 : marchOf exL3 exTrek = (exL4, 0) := by decide +kernel
theorem exEv6 : boundsOf exL4 = (⟨1000, 16000⟩, ⟨7000, 11000⟩, 0) := by decide +kernel
theorem exEv7 : clashOf fieldL exL = ([0, 2], 0) := by decide +kernel
theorem exEv8 : nearOf fieldL 5000 5000 4999 = (1, 0) := by decide +kernel
theorem exEv9 : findsOf fieldL [exEast, exEast, exEast, exEast] 12000 5000 6000 = (0, 3, 0) := by decide +kernel
theorem exLen0 : fieldL.length = 4 := rfl
theorem exLen1 : exL1.length = 6 := by decide +kernel
theorem exLen2 : exL2.length = 8 := by decide +kernel
theorem exLen3 : exL3.length = 6 := by decide +kernel
theorem exLen4 : exL4.length = 6 := by decide +kernel
def AreaPost (n : Nat) (l : List Half) (w : World) (e : Ending) (w' : World) : Prop := ∃ a c, e = .returned (.tuple #[.agg #[.slice a n c], .int .i64 0]) ∧ n ≤ c ∧ c ≤ maxLen ∧ Ext w w' ∧ HalvesAt w' a n l ∧ From w.heap.size a
theorem area_of_own {r : List Half × Int} {l : List Half} {n : Nat} (hr : r = (l, 0)) (hn : l.length = n) {w : World} {e : Ending} {w' : World} (h : AreaOwn r w e w') : AreaPost n l w e w' := by
  obtain ⟨v, rfl, hx, ho⟩ := h
  rw [hr] at ho ⊢
  obtain ⟨a, c, rfl, h1, h2, h3, h4⟩ := halves_of_owns ho
  rw [hn] at h2 h4 ⊢
  exact ⟨a, c, rfl, h2, h3, hx, h4, h1⟩
theorem exStart_any (w : World) : Calls Try.prog 22 #[.agg #[.int .i64 0, .int .i64 10000], .agg #[.int .i64 0, .int .i64 10000]] w (AreaPost 4 fieldL w) :=
  (start_any ⟨0, 10000⟩ ⟨0, 10000⟩ w).mono fun _ _ h => area_of_own exEv0 exLen0 h
theorem exSee_any {l m : List Half} {s : Sight} {n k : Nat} (hs : seeOf l s = (m, 0)) (hk : m.length = k) (a : Option Addr) (c : Nat) (w : World) (hl : HalvesAt w a n l) (hc : n ≤ c) (hm : c ≤ maxLen) (h0 : 0 ≤ s.kind) (h1 : s.kind ≤ 255) : Calls Try.prog 16 #[.agg #[.slice a n c], s.val] w (AreaPost k m w) :=
  (see_any a n c l s w hl hc hm h0 h1).mono fun e w' h => by
    obtain ⟨b, d, rfl, h1, h2, h3, h4, h5⟩ := h
    rw [hs] at h1 h4 ⊢
    simp only [hk] at h1 h4 ⊢
    exact ⟨b, d, rfl, h1, h2, h3, h4, h5⟩
theorem exMarch_any (a : Option Addr) (c : Nat) (w : World) (hl : HalvesAt w a 6 exL3) (hc : 6 ≤ c) (hm : c ≤ maxLen) : Calls Try.prog 30 #[.agg #[.slice a 6 c], exTrek.val] w (AreaPost 6 exL4 w) :=
  (march_any a 6 c exL3 exTrek w hl hc hm).mono fun _ _ h => area_of_own exEv5 exLen4 h
theorem exBounds_any {l : List Half} {n : Nat} {e0 e1 n0 n1 : Int} (hb : boundsOf l = (⟨e0, e1⟩, ⟨n0, n1⟩, 0)) (a : Option Addr) (c : Nat) (w : World) (hl : HalvesAt w a n l) (hc : n ≤ c) (hm : c ≤ maxLen) : Calls Try.prog 24 #[.agg #[.slice a n c]] w fun e w' => e = .returned (.tuple #[.agg #[.int .i64 e0, .int .i64 e1], .agg #[.int .i64 n0, .int .i64 n1], .int .i64 0]) ∧ Ext w w' :=
  (boundsF_any a n c l w hl hc hm).mono fun e w' h => by
    unfold BoundsPost at h
    rw [hb] at h
    exact h
theorem exNear_any {x y far r : Int} {l : List Half} {n : Nat} (hb : nearOf l x y far = (r, 0)) (a : Option Addr) (c : Nat) (w : World) (hl : HalvesAt w a n l) (hc : n ≤ c) (hm : c ≤ maxLen) : Calls Try.prog 26 #[.agg #[.slice a n c], .int .i64 x, .int .i64 y, .int .i64 far] w fun e w' => e = .returned (.tuple #[.int .u8 r, .int .i64 0]) ∧ Ext w w' :=
  (nearF_any a n c l x y far w hl hc hm).mono fun e w' h => by
    unfold NearPost at h
    rw [hb] at h
    exact h
theorem exClash_any (a : Option Addr) (c : Nat) (b : Option Addr) (d : Nat) (w : World) (hl : HalvesAt w a 4 fieldL) (hc : 4 ≤ c) (hm : c ≤ maxLen) (hs : SightsAt w b 3 exL) : Calls Try.prog 18 #[.agg #[.slice a 4 c], .slice b 3 d] w fun e w' => ∃ a' c', e = .returned (.tuple #[.slice a' 2 c', .int .i64 0]) ∧ Ext w w' ∧ IntsAt .i64 w' a' 2 [0, 2] :=
  (clash_any a 4 c fieldL b 3 d exL w hl hc hm hs (by decide)).mono fun e w' h => by
    obtain ⟨b, d, rfl, _, _, h3, h4⟩ := h
    rw [exEv7] at h4 ⊢
    exact ⟨b, d, rfl, h3, h4⟩
theorem exFinds_any (a : Option Addr) (c : Nat) (b : Option Addr) (d : Nat) (w : World) (hl : HalvesAt w a 4 fieldL) (hc : 4 ≤ c) (hm : c ≤ maxLen) (hs : TreksAt w b 4 [exEast, exEast, exEast, exEast]) : Calls Try.prog 32 #[.agg #[.slice a 4 c], .slice b 4 d, .int .i64 12000, .int .i64 5000, .int .i64 6000] w fun e w' => e = .returned (.tuple #[.int .i64 0, .int .i64 3, .int .i64 0]) ∧ Ext w w' :=
  (finds_any a 4 c fieldL b 4 d _ 12000 5000 6000 w hl hc hm hs (by omega)).mono fun e w' h => by
    unfold FindsPost at h
    rw [exEv9] at h
    exact h
theorem HalvesAt.lt {w : World} {a : Option Addr} {n : Nat} {l : List Half} (h : HalvesAt w a n l) (h0 : 0 < n) : ∀ X, a = some X → X.block < w.heap.size := fun X hX => by
  obtain ⟨b, off, _, ha, _, hb, _⟩ := h.get 0 h0
  rw [hX] at ha
  cases ha
  exact hb
/-- the field's block -/
theorem field_halves {w : World} {b : Nat} (h : w.heap[b]? = some (.cells (halfRows fieldL).flatten.toArray 47 (0, 0))) : HalvesAt w (some ⟨b, 0, none⟩) 4 fieldL := halves_block fieldL h
end Go.Proofs.Ytacdndehlkaaeaa
