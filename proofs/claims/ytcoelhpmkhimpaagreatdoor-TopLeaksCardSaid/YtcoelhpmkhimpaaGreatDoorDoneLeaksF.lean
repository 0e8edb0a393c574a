/- It is proved that TopLeaks returns true whatever the input, and that the input reads as it did; the variable load.none is as the program's text lays it. No other conditions. -/
import Derived.Test.YtcoelhpmkhimpaaGreatDoorDoneLeaksD
import Derived.Test.YtcoelhpmkhimpaaGreatDoorDoneLeaksE
import Derived.Test.YtcoelhpmkhimpaaGreatDoorCards
import Derived.Test.YtcoelhpmkhimpaaGreatDoorTie
import Derived.OpenShut
import Derived.ShutString
import Derived.ChangeOld
import Derived.Below
import Derived.LaidMore
import Derived.Stop.Joined
import Derived.SevenTiedAt
namespace Go.Proofs.YtcoelhpmkhimpaaGreatDoor
open Go.RowKit
set_option linter.unusedVariables false
set_option linter.unusedSimpArgs false
def exB : Breed := ⟨1000, 1000, ⟨0, 0⟩, ⟨0, 0⟩, ⟨0, 0⟩, ⟨0, 0⟩, ⟨0, 0⟩, ⟨0, 0⟩, 0, ⟨100, 120⟩⟩
def exC : Camel := ⟨⟨1000, 1000⟩, ⟨1000, 1000⟩, ⟨0, 0⟩, false⟩
def exP1 : Pack := ⟨2, ⟨30, 30⟩, zspan, zspan, zspan, 0, 0⟩
def exP2 : Pack := ⟨3, ⟨30, 30⟩, zspan, zspan, ⟨1, 2⟩, 0, 0⟩
def exP : List Pack := [exP1, exP2]
def exT : Tied := ⟨[0], [1], []⟩
def exM : March := ⟨1, 0, ⟨0, 0⟩, ⟨0, 0⟩, ⟨0, 0⟩⟩
theorem exB_ok : BreedOk exB := breedIs (by decide)
theorem exC_ok : CamelOk exB exC := camelIs.1 (by decide)
theorem ex_err : camelErr exB exC = 0 := by decide
theorem ex_carry : carryOf exB exC = ⟨100, 120⟩ := by decide
theorem ex_packs : exP.all packOk = true := by decide
theorem ex_aged : (aged 2 exP).all packOk = true := by decide
theorem ex_ready : readyOf exP exT 4 ⟨100, 120⟩ = 2 := by decide
theorem ex_still : readyOf (aged 2 exP) exT 4 ⟨100, 120⟩ = 2 := by decide
theorem ex_ties : TiesIs 2 exT := tiesIs (by decide)
theorem ex_ask : askDays exB exC [exM] = 0 := by decide
theorem ex_day (x : Int) (h0 : 0 ≤ x) (h1 : x ≤ 1000000) : DayOk (laden exM x) := ⟨by simp [laden, exM], ⟨h0, h1⟩, ⟨by simp [laden, exM], by simp [laden, exM], by simp [laden, exM]⟩, ⟨by simp [laden, exM], by simp [laden, exM], by simp [laden, exM]⟩, ⟨by simp [laden, exM], by simp [laden, exM], by simp [laden, exM]⟩⟩
theorem ex_fate (x : Int) : dayFate exB exC (laden exM x) = 0 := by
  simp [dayFate, diesB, safeB, waterOf, fatOf, workOf, milkOf, laden, exB, exC, exM, upq]
theorem ex_nojolt : ¬NoJolt exP [] 2 := by
  rintro (h | ⟨m, _, h1, h2⟩)
  · revert h
    decide
  · rw [h1 rfl, ex_aged] at h2
    cases h2
theorem packs_built {w : World} {b : Nat} {l : List Pack} (hb : w.heap[b]? = some (.cells (packRows l).flatten.toArray 50 (0, 0))) : PacksAt w (some ⟨b, 0, none⟩) l.length l := by
  have := slAt_block hb (fun r hr => (packRows_row _ r hr).1)
  rw [packRows_len] at this
  exact ⟨rfl, this.congr fun i hi => by simp [packRows, List.getD, List.getElem?_map, List.getElem?_eq_getElem hi]⟩
set_option maxRecDepth 100000 in
set_option maxHeartbeats 16000000 in
theorem alive05_any (w : World) (hn : NoneAt w) : Calls Tryz.prog 4 #[] w fun e w' => e = .returned (.bool true) ∧ Ext w w' := by
  have hra := rangd_any
  have Hra := Lib.hid hra
  have Hn := Lib.hid hn
  clear hra hn
  go_enter Tryz.func4, Tryz.ntmps4
  go_upto_region 2 with (first
    | (go_at_call 12; refine (Hra.out _ _ _).mono ?_; rintro e v1 ⟨rfl, hx1⟩)
    | (refine wpList_store_row rfl 25 (.tmp 1) (.tmp 14) rfl v1.heap.size #[.int .i64 1000, .int .i64 1000, .int .i64 0, .int .i64 0, .int .i64 0, .int .i64 0, .int .i64 0, .int .i64 0, .int .i64 0, .int .i64 0, .int .i64 0, .int .i64 0, .int .i64 0, .int .i64 0, .int .i64 0, .int .i64 100, .int .i64 120] rfl rfl 25 _ (heap_alloc_new v1 (.cells #[.int .i64 0, .int .i64 0, .int .i64 0, .int .i64 0, .int .i64 0, .int .i64 0, .int .i64 0, .int .i64 0, .int .i64 0, .int .i64 0, .int .i64 0, .int .i64 0, .int .i64 0, .int .i64 0, .int .i64 0, .int .i64 0, .int .i64 0] 25)) (by kernel_rfl) (by kernel_rfl) (by kernel_rfl) ?_))
  have hy1 : Ext w ((v1.alloc (.cells #[.int .i64 0, .int .i64 0, .int .i64 0, .int .i64 0, .int .i64 0, .int .i64 0, .int .i64 0, .int .i64 0, .int .i64 0, .int .i64 0, .int .i64 0, .int .i64 0, .int .i64 0, .int .i64 0, .int .i64 0, .int .i64 0, .int .i64 0] 25)).setRow v1.heap.size #[.int .i64 1000, .int .i64 1000, .int .i64 0, .int .i64 0, .int .i64 0, .int .i64 0, .int .i64 0, .int .i64 0, .int .i64 0, .int .i64 0, .int .i64 0, .int .i64 0, .int .i64 0, .int .i64 0, .int .i64 0, .int .i64 100, .int .i64 120]) := below_setRow (hx1.alloc (.cells #[.int .i64 0, .int .i64 0, .int .i64 0, .int .i64 0, .int .i64 0, .int .i64 0, .int .i64 0, .int .i64 0, .int .i64 0, .int .i64 0, .int .i64 0, .int .i64 0, .int .i64 0, .int .i64 0, .int .i64 0, .int .i64 0, .int .i64 0] 25)) hx1.size #[.int .i64 1000, .int .i64 1000, .int .i64 0, .int .i64 0, .int .i64 0, .int .i64 0, .int .i64 0, .int .i64 0, .int .i64 0, .int .i64 0, .int .i64 0, .int .i64 0, .int .i64 0, .int .i64 0, .int .i64 0, .int .i64 100, .int .i64 120]
  have b1 := setRow_heap _ _ _ #[.int .i64 1000, .int .i64 1000, .int .i64 0, .int .i64 0, .int .i64 0, .int .i64 0, .int .i64 0, .int .i64 0, .int .i64 0, .int .i64 0, .int .i64 0, .int .i64 0, .int .i64 0, .int .i64 0, .int .i64 0, .int .i64 100, .int .i64 120] _ _ (heap_alloc_new v1 (.cells #[.int .i64 0, .int .i64 0, .int .i64 0, .int .i64 0, .int .i64 0, .int .i64 0, .int .i64 0, .int .i64 0, .int .i64 0, .int .i64 0, .int .i64 0, .int .i64 0, .int .i64 0, .int .i64 0, .int .i64 0, .int .i64 0, .int .i64 0] 25))
  generalize (v1.alloc (.cells #[.int .i64 0, .int .i64 0, .int .i64 0, .int .i64 0, .int .i64 0, .int .i64 0, .int .i64 0, .int .i64 0, .int .i64 0, .int .i64 0, .int .i64 0, .int .i64 0, .int .i64 0, .int .i64 0, .int .i64 0, .int .i64 0, .int .i64 0] 25)).setRow v1.heap.size #[.int .i64 1000, .int .i64 1000, .int .i64 0, .int .i64 0, .int .i64 0, .int .i64 0, .int .i64 0, .int .i64 0, .int .i64 0, .int .i64 0, .int .i64 0, .int .i64 0, .int .i64 0, .int .i64 0, .int .i64 0, .int .i64 100, .int .i64 120] = W1 at *
  generalize v1.heap.size = p1 at *
  have Hy1 := Lib.hid hy1
  have B1 := Lib.hid b1
  clear hy1 b1
  clear hx1
  go_upto_region 3 with (first
    | (have qq := hx2; clear qq; go_at_call 12; refine (Hra.out _ _ _).mono ?_; rintro e v3 ⟨rfl, hx3⟩)
    | (go_at_call 12; refine (Hra.out _ _ _).mono ?_; rintro e v2 ⟨rfl, hx2⟩)
    | (refine wpList_store_row rfl 27 (.tmp 2) (.tmp 17) rfl v3.heap.size #[.int .i64 1000, .int .i64 1000, .int .i64 1000, .int .i64 1000, .int .i64 0, .int .i64 0, .bool false] rfl rfl 27 _ (heap_alloc_new v3 (.cells #[.int .i64 0, .int .i64 0, .int .i64 0, .int .i64 0, .int .i64 0, .int .i64 0, .bool false] 27)) (by kernel_rfl) (by kernel_rfl) (by kernel_rfl) ?_))
  have hz3 := hx2.trans hx3
  have hy2 : Ext w ((v3.alloc (.cells #[.int .i64 0, .int .i64 0, .int .i64 0, .int .i64 0, .int .i64 0, .int .i64 0, .bool false] 27)).setRow v3.heap.size #[.int .i64 1000, .int .i64 1000, .int .i64 1000, .int .i64 1000, .int .i64 0, .int .i64 0, .bool false]) := below_setRow ((Hy1.out.trans hz3).alloc (.cells #[.int .i64 0, .int .i64 0, .int .i64 0, .int .i64 0, .int .i64 0, .int .i64 0, .bool false] 27)) (Hy1.out.trans hz3).size #[.int .i64 1000, .int .i64 1000, .int .i64 1000, .int .i64 1000, .int .i64 0, .int .i64 0, .bool false]
  have b2 := setRow_heap _ _ _ #[.int .i64 1000, .int .i64 1000, .int .i64 1000, .int .i64 1000, .int .i64 0, .int .i64 0, .bool false] _ _ (heap_alloc_new v3 (.cells #[.int .i64 0, .int .i64 0, .int .i64 0, .int .i64 0, .int .i64 0, .int .i64 0, .bool false] 27))
  have b12 : ((v3.alloc (.cells #[.int .i64 0, .int .i64 0, .int .i64 0, .int .i64 0, .int .i64 0, .int .i64 0, .bool false] 27)).setRow v3.heap.size #[.int .i64 1000, .int .i64 1000, .int .i64 1000, .int .i64 1000, .int .i64 0, .int .i64 0, .bool false]).heap[p1]? = _ := (setRow_other _ _ _ #[.int .i64 1000, .int .i64 1000, .int .i64 1000, .int .i64 1000, .int .i64 0, .int .i64 0, .bool false] (by have := heap_lt (hz3.heap B1.out); omega)).trans (alloc_heap (hz3.heap B1.out) (.cells #[.int .i64 0, .int .i64 0, .int .i64 0, .int .i64 0, .int .i64 0, .int .i64 0, .bool false] 27))
  generalize (v3.alloc (.cells #[.int .i64 0, .int .i64 0, .int .i64 0, .int .i64 0, .int .i64 0, .int .i64 0, .bool false] 27)).setRow v3.heap.size #[.int .i64 1000, .int .i64 1000, .int .i64 1000, .int .i64 1000, .int .i64 0, .int .i64 0, .bool false] = W2 at *
  generalize v3.heap.size = p2 at *
  have Hy2 := Lib.hid hy2
  have B2 := Lib.hid b2
  have B12 := Lib.hid b12
  clear hy2 b2 b12
  clear hx2 hx3 hz3 Hy1 B1
  go_upto_region 4 with (first
    | (have qq := hx5; clear qq; go_at_call 12; refine (Hra.out _ _ _).mono ?_; rintro e v6 ⟨rfl, hx6⟩)
    | (have qq := hx4; clear qq; go_at_call 12; refine (Hra.out _ _ _).mono ?_; rintro e v5 ⟨rfl, hx5⟩)
    | (go_at_call 12; refine (Hra.out _ _ _).mono ?_; rintro e v4 ⟨rfl, hx4⟩))
  have hz6 := (hx4.trans hx5).trans hx6
  have hy3 := (Hy2.out.trans hz6).alloc (.cells #[.int .u8 2, .int .i64 30, .int .i64 30, .int .i64 0, .int .i64 0, .int .i64 0, .int .i64 0, .int .i64 0, .int .i64 0, .int .i64 0, .int .i64 0, .int .u8 3, .int .i64 30, .int .i64 30, .int .i64 0, .int .i64 0, .int .i64 0, .int .i64 0, .int .i64 1, .int .i64 2, .int .i64 0, .int .i64 0] 50)
  have b3 := heap_alloc_new v6 (.cells #[.int .u8 2, .int .i64 30, .int .i64 30, .int .i64 0, .int .i64 0, .int .i64 0, .int .i64 0, .int .i64 0, .int .i64 0, .int .i64 0, .int .i64 0, .int .u8 3, .int .i64 30, .int .i64 30, .int .i64 0, .int .i64 0, .int .i64 0, .int .i64 0, .int .i64 1, .int .i64 2, .int .i64 0, .int .i64 0] 50)
  have b13 := alloc_heap (hz6.heap B12.out) (.cells #[.int .u8 2, .int .i64 30, .int .i64 30, .int .i64 0, .int .i64 0, .int .i64 0, .int .i64 0, .int .i64 0, .int .i64 0, .int .i64 0, .int .i64 0, .int .u8 3, .int .i64 30, .int .i64 30, .int .i64 0, .int .i64 0, .int .i64 0, .int .i64 0, .int .i64 1, .int .i64 2, .int .i64 0, .int .i64 0] 50)
  have b23 := alloc_heap (hz6.heap B2.out) (.cells #[.int .u8 2, .int .i64 30, .int .i64 30, .int .i64 0, .int .i64 0, .int .i64 0, .int .i64 0, .int .i64 0, .int .i64 0, .int .i64 0, .int .i64 0, .int .u8 3, .int .i64 30, .int .i64 30, .int .i64 0, .int .i64 0, .int .i64 0, .int .i64 0, .int .i64 1, .int .i64 2, .int .i64 0, .int .i64 0] 50)
  generalize v6.alloc (.cells #[.int .u8 2, .int .i64 30, .int .i64 30, .int .i64 0, .int .i64 0, .int .i64 0, .int .i64 0, .int .i64 0, .int .i64 0, .int .i64 0, .int .i64 0, .int .u8 3, .int .i64 30, .int .i64 30, .int .i64 0, .int .i64 0, .int .i64 0, .int .i64 0, .int .i64 1, .int .i64 2, .int .i64 0, .int .i64 0] 50) = W3 at *
  generalize v6.heap.size = p3 at *
  have hpk : PacksAt W3 (some ⟨p3, 0, none⟩) 2 exP := packs_built (l := exP) b3
  have Hy3 := Lib.hid hy3
  have B13 := Lib.hid b13
  have B23 := Lib.hid b23
  have Hpk := Lib.hid hpk
  clear hy3 b13 b23 hpk
  clear hx4 hx5 hx6 hz6 Hy2 B12 B2 b3
  go_upto_region 5 with fail
  have ba : ((W3.alloc (.cells #[.int .i64 0] 3)).alloc (.cells #[.int .i64 1] 3)).heap[W3.heap.size]? = some (.cells #[.int .i64 0] 3 (0, 0)) := alloc_heap (heap_alloc_new W3 _) _
  have bb : ((W3.alloc (.cells #[.int .i64 0] 3)).alloc (.cells #[.int .i64 1] 3)).heap[W3.heap.size + 1]? = some (.cells #[.int .i64 1] 3 (0, 0)) := alloc_at _ _ _ (by simp)
  have hxa : Ext W3 ((W3.alloc (.cells #[.int .i64 0] 3)).alloc (.cells #[.int .i64 1] 3)) := ((Ext.refl W3).alloc _).alloc _
  have hsa : ((W3.alloc (.cells #[.int .i64 0] 3)).alloc (.cells #[.int .i64 1] 3)).heap.size = W3.heap.size + 1 + 1 := by simp
  generalize (W3.alloc (.cells #[.int .i64 0] 3)).alloc (.cells #[.int .i64 1] 3) = WA at *
  have b4 := heap_alloc_new WA (.cells #[.slice (some ⟨W3.heap.size, 0, none⟩) 1 1, .slice (some ⟨W3.heap.size + 1, 0, none⟩) 1 1, .slice none 0 0] 31)
  have hx4 := hxa.alloc (.cells #[.slice (some ⟨W3.heap.size, 0, none⟩) 1 1, .slice (some ⟨W3.heap.size + 1, 0, none⟩) 1 1, .slice none 0 0] 31)
  rw [hsa] at b4
  have ba4 := (Ext.refl WA).alloc (.cells #[.slice (some ⟨W3.heap.size, 0, none⟩) 1 1, .slice (some ⟨W3.heap.size + 1, 0, none⟩) 1 1, .slice none 0 0] 31) |>.heap ba
  have bb4 := (Ext.refl WA).alloc (.cells #[.slice (some ⟨W3.heap.size, 0, none⟩) 1 1, .slice (some ⟨W3.heap.size + 1, 0, none⟩) 1 1, .slice none 0 0] 31) |>.heap bb
  clear hxa ba bb hsa
  generalize WA.alloc (.cells #[.slice (some ⟨W3.heap.size, 0, none⟩) 1 1, .slice (some ⟨W3.heap.size + 1, 0, none⟩) 1 1, .slice none 0 0] 31) = W4 at *
  have b14 := hx4.heap B13.out
  have b24 := hx4.heap B23.out
  have hpk4 := Hpk.out.ext hx4
  have hy4 := Hy3.out.trans hx4
  clear hx4 B13 B23 Hpk Hy3
  generalize W3.heap.size + 1 + 1 = p4 at *
  generalize W3.heap.size + 1 = pb at *
  generalize W3.heap.size = pa at *
  have hld : LoadIn (some ⟨p3, 0, none⟩) 2 exP (some ⟨pa, 0, none⟩) (some ⟨pb, 0, none⟩) none 1 1 0 1 1 0 exT W4 :=
    ⟨hpk4, ⟨ints_built (l := [0]) ba4, ints_built (l := [1]) bb4, ⟨rfl, fun h => absurd h (by decide)⟩, ⟨by decide, by decide⟩, ⟨by decide, by decide⟩, ⟨by decide, by decide⟩⟩, Hn.out.ext hy4, by decide, ex_packs, ex_ties⟩
  have hrd : ∀ W, Ext W4 W → Calls Tryz.prog 8 #[.agg #[.int .i64 1000, .int .i64 1000, .int .i64 0, .int .i64 0, .int .i64 0, .int .i64 0, .int .i64 0, .int .i64 0, .int .i64 0, .int .i64 0, .int .i64 0, .int .i64 0, .int .i64 0, .int .i64 0, .int .i64 0, .int .i64 100, .int .i64 120], .agg #[.int .i64 1000, .int .i64 1000, .int .i64 1000, .int .i64 1000, .int .i64 0, .int .i64 0, .bool false], .slice (some ⟨p3, 0, none⟩) 2 2, .agg #[.slice (some ⟨pa, 0, none⟩) 1 1, .slice (some ⟨pb, 0, none⟩) 1 1, .slice none 0 0], .int .i64 4] W fun e w' => e = .returned (.tuple #[.int .u8 2, .int .i64 0]) ∧ Ext W w' := by
    intro W hW
    have := ready8_any exB exC (some ⟨p3, 0, none⟩) 2 2 exP (some ⟨pa, 0, none⟩) (some ⟨pb, 0, none⟩) none 1 1 0 1 1 0 exT 4 W (hld.ext hW) exB_ok exC_ok ex_err (by omega)
    rw [ex_carry, ex_ready] at this
    exact this
  have hrs : ∀ la lc W, Ext W4 W → PacksAt W la 2 (aged 2 exP) → Calls Tryz.prog 8 #[.agg #[.int .i64 1000, .int .i64 1000, .int .i64 0, .int .i64 0, .int .i64 0, .int .i64 0, .int .i64 0, .int .i64 0, .int .i64 0, .int .i64 0, .int .i64 0, .int .i64 0, .int .i64 0, .int .i64 0, .int .i64 0, .int .i64 100, .int .i64 120], .agg #[.int .i64 1000, .int .i64 1000, .int .i64 1000, .int .i64 1000, .int .i64 0, .int .i64 0, .bool false], .slice la 2 lc, .agg #[.slice (some ⟨pa, 0, none⟩) 1 1, .slice (some ⟨pb, 0, none⟩) 1 1, .slice none 0 0], .int .i64 4] W fun e w' => e = .returned (.tuple #[.int .u8 2, .int .i64 0]) ∧ Ext W w' := by
    intro la lc W hW hp
    have := ready8_any exB exC la 2 lc (aged 2 exP) (some ⟨pa, 0, none⟩) (some ⟨pb, 0, none⟩) none 1 1 0 1 1 0 exT 4 W ⟨hp, (hld.ext hW).tied, (hld.ext hW).nil0, by decide, ex_aged, ex_ties⟩ exB_ok exC_ok ex_err (by omega)
    rw [ex_carry, ex_still] at this
    exact this
  have hjo : ∀ tb W, Ext W4 W → W.heap[tb]? = some (.cells #[.slice (some ⟨pa, 0, none⟩) 1 1, .slice (some ⟨pb, 0, none⟩) 1 1, .slice none 0 0] 31 (0, 0)) → Calls Tryz.prog 6 #[.slice (some ⟨p3, 0, none⟩) 2 2, .slice (some ⟨tb, 0, none⟩) 1 1, .slice none 0 0, .int .i64 2] W fun e w' => ∃ la lc, e = .returned (.tuple #[.slice la 2 lc, .int .i64 0]) ∧ Ext W w' ∧ PacksAt w' la 2 (aged 2 exP) := by
    intro tb W hW hb
    refine (jolted6_any tb (some ⟨p3, 0, none⟩) 2 2 exP (some ⟨pa, 0, none⟩) (some ⟨pb, 0, none⟩) none 1 1 0 1 1 0 exT none 0 0 [] 2 W (hld.ext hW) ⟨rfl, fun h => absurd h (by decide)⟩ hb (by omega) (fun h => by cases h)).mono ?_
    rintro e w' (⟨v, c, rfl, hc, hx, hno⟩ | ⟨la, lc, m, rfl, hx, hj⟩)
    · exact absurd hno ex_nojolt
    · have := hj.same rfl
      subst this
      exact ⟨la, lc, rfl, hx, hj.packs⟩
  have hhe : ∀ db W, Ext W4 W → W.heap[db]? = some (.cells #[.int .i64 1, .int .i64 0, .int .i64 0, .int .i64 0, .int .i64 0, .int .i64 0, .int .i64 0, .int .i64 0] 54 (0, 0)) → Calls Tryz.prog 13 #[.agg #[.int .i64 1000, .int .i64 1000, .int .i64 0, .int .i64 0, .int .i64 0, .int .i64 0, .int .i64 0, .int .i64 0, .int .i64 0, .int .i64 0, .int .i64 0, .int .i64 0, .int .i64 0, .int .i64 0, .int .i64 0, .int .i64 100, .int .i64 120], .agg #[.int .i64 1000, .int .i64 1000, .int .i64 1000, .int .i64 1000, .int .i64 0, .int .i64 0, .bool false], .slice (some ⟨db, 0, none⟩) 1 1] W fun e w' => e = .returned (.tuple #[.int .i64 100, .int .i64 0]) ∧ Ext W w' :=
    fun db W hW hb => heaviest_any exB exC exM 100 db 1 W exB_ok exC_ok ex_day (by decide) (by rw [ex_carry]) (by omega) (fun x _ _ => ex_fate x) ex_ask hb
  have hal := alive03d_any
  have hz := Ext.refl W4
  have Hrd := Lib.hid hrd
  have Hrs := Lib.hid hrs
  have Hjo := Lib.hid hjo
  have Hhe := Lib.hid hhe
  have Hal := Lib.hid hal
  have B14 := Lib.hid b14
  have B24 := Lib.hid b24
  have B4 := Lib.hid b4
  have Hy4 := Lib.hid hy4
  clear hrd hrs hjo hhe hal b14 b24 b4 hy4
  clear hld hpk4 ba4 bb4 Hra Hn
  have B44 := B4
  go_upto_region 6 with (first
    | (refine wpList_load_row rfl 25 (.tmp 1) rfl p1 rfl 25 _ (0, 0) _ (hz.heap B14.out) Tryz.underlying25 rfl (by kernel_rfl) ?_)
    | (refine wpList_load_row rfl 27 (.tmp 2) rfl p2 rfl 27 _ (0, 0) _ (hz.heap B24.out) Tryz.underlying27 rfl (by kernel_rfl) ?_)
    | (refine wpList_load_row rfl 31 (.tmp 4) rfl p4 rfl 31 _ (0, 0) _ (hz.heap B44.out) Tryz.underlying31 rfl (by kernel_rfl) ?_)
    | (go_at_call 8; refine (Hrd.out _ hz).mono ?_; rintro e v7 ⟨rfl, hx7⟩; replace hz := hz.trans hx7))
  clear hx7
  go_upto_region 7 with (first
    | (refine wpList_load_row rfl 25 (.tmp 1) rfl p1 rfl 25 _ (0, 0) _ (hz.heap B14.out) Tryz.underlying25 rfl (by kernel_rfl) ?_)
    | (refine wpList_load_row rfl 27 (.tmp 2) rfl p2 rfl 27 _ (0, 0) _ (hz.heap B24.out) Tryz.underlying27 rfl (by kernel_rfl) ?_)
    | (refine wpList_load_row rfl 31 (.tmp 4) rfl p4 rfl 31 _ (0, 0) _ (hz.heap B44.out) Tryz.underlying31 rfl (by kernel_rfl) ?_)
    | (go_at_call 6; refine (Hjo.out _ _ (hz.alloc _) (alloc_at _ _ _ rfl)).mono ?_; rintro e v8 ⟨la, lc, rfl, hx8, hp8⟩; replace hz := (hz.alloc _).trans hx8))
  clear hx8
  have Hp8 := Lib.hid hp8
  clear hp8
  go_upto_region 8 with (first
    | (refine wpList_load_row rfl 25 (.tmp 1) rfl p1 rfl 25 _ (0, 0) _ (hz.heap B14.out) Tryz.underlying25 rfl (by kernel_rfl) ?_)
    | (refine wpList_load_row rfl 27 (.tmp 2) rfl p2 rfl 27 _ (0, 0) _ (hz.heap B24.out) Tryz.underlying27 rfl (by kernel_rfl) ?_)
    | (refine wpList_load_row rfl 31 (.tmp 4) rfl p4 rfl 31 _ (0, 0) _ (hz.heap B44.out) Tryz.underlying31 rfl (by kernel_rfl) ?_)
    | (go_at_call 8; refine (Hrs.out la lc _ hz Hp8.out).mono ?_; rintro e v9 ⟨rfl, hx9⟩; replace hz := hz.trans hx9))
  clear hx9
  go_wp2_with (first
    | (refine wpList_load_row rfl 25 (.tmp 1) rfl p1 rfl 25 _ (0, 0) _ (hz.heap B14.out) Tryz.underlying25 rfl (by kernel_rfl) ?_)
    | (refine wpList_load_row rfl 27 (.tmp 2) rfl p2 rfl 27 _ (0, 0) _ (hz.heap B24.out) Tryz.underlying27 rfl (by kernel_rfl) ?_)
    | (refine wpList_load_row rfl 31 (.tmp 4) rfl p4 rfl 31 _ (0, 0) _ (hz.heap B44.out) Tryz.underlying31 rfl (by kernel_rfl) ?_)
    | (go_at_call 13; refine (Hhe.out _ _ (hz.alloc _) (alloc_at _ _ _ rfl)).mono ?_; rintro e v10 ⟨rfl, hx10⟩; replace hz := (hz.alloc _).trans hx10)
    | (go_at_call 14; refine (Hal.out _).mono ?_; rintro e v11 ⟨rfl, hx11⟩; replace hz := hz.trans hx11))
  go_ret
  exact ⟨rfl, Hy4.out.trans hz⟩
end Go.Proofs.YtcoelhpmkhimpaaGreatDoor

namespace Go.Proofs.YtcoelhpmkhimpaaGreatDoor
open Go.RowKit
set_option linter.unusedVariables false
set_option linter.unusedSimpArgs false
theorem jolted_split {l : List Pack} {pn : Nat} {js : List Jolt} {days : Int} {w w' : World} {e : Ending} (h : JoltedPost l pn js days w e w') :
    ∃ (v : Value) (k : Int), e = .returned (.tuple #[v, .int .i64 k]) ∧ Ext w w' ∧ (k ≠ 0 ∨ (k = 0 ∧ ∃ la lc m, v = .slice la pn lc ∧ Jolteds l pn js days la w' m)) := by
  rcases h with ⟨v, c, h1, h2, h3, _⟩ | ⟨la, lc, m, h1, h2, h3⟩
  · exact ⟨v, c, h1, h3, .inl h2⟩
  · exact ⟨_, 0, h1, h2, .inr ⟨rfl, la, lc, m, rfl, h3⟩⟩
/-- what the law says of packs and of what is left of them -/
structure Leaks (B A I W aL ch : Int) : Prop where
  stays : B = 2 → I = 2 → A = 2
  light : A = 0 → I = 0 ∨ (ch < aL ∧ B = 0)
theorem leaks_of {s : Breed} {c : Camel} {l m : List Pack} {pn : Nat} {js : List Jolt} {days : Int} {la : Option Addr} {W : World} {t : Tied} {bound : Int} (hb : BreedOk s) (hc : CamelOk s c) (hl : l.length = pn) (hok : l.all packOk = true) (ht : TiesIs pn t) (hj : Jolteds l pn js days la W m) :
    Leaks (readyOf l t bound (carryOf s c)) (readyOf (aged days m) t bound (carryOf s c)) (evenOf (aged days m) t bound) (evenOf l t bound) (weigh (aged days m) (allOf t)).lo (carryOf s c).hi := by
  have hd := (inB_is hj.inDays).1
  have hml : (aged days m).length = pn := by unfold aged; rw [List.length_map, hj.jolt.len, hl]
  have := leaks_law (l := l) (m := aged days m) (t := t) (bound := bound) (can := carryOf s c) (carry_is hb hc) (fun i hi => by
    obtain ⟨h0, h1⟩ := ht.range i hi
    exact ⟨all_at hok h0 (by omega), all_at hj.ok h0 (by omega), jolt_later hj.jolt hd h0 (by omega)⟩)
  exact ⟨this.1, this.2⟩
set_option maxRecDepth 100000 in
set_option maxHeartbeats 32000000 in
theorem topLeaks_any (s : Breed) (c : Camel) (pa : Option Addr) (pn pc : Nat) (l : List Pack) (a1 : Option Addr) (n1 c1 : Nat) (a2 : Option Addr) (n2 c2 : Nat) (a3 : Option Addr) (n3 c3 : Nat) (t : Tied) (bound : Int) (ja : Option Addr) (jn jc : Nat) (js : List Jolt) (days : Int) (w : World)
    (hp : PacksAt w pa pn l) (hnil : pa = none → pn = 0 ∧ pc = 0) (ht : TiedAt w a1 a2 a3 n1 n2 n3 c1 c2 c3 t) (hj : JoltsAt w ja jn js) (hn : NoneAt w) :
    Calls Tryz.prog 3 #[s.val, c.val, .slice pa pn pc, .agg #[.slice a1 n1 c1, .slice a2 n2 c2, .slice a3 n3 c3], .int .i64 bound, .slice ja jn jc, .int .i64 days] w fun e w' => e = .returned (.bool true) ∧ Ext w w' := by
  have hcy := fun W (hW : Ext w W) hC => carriedd_yes s c pa pn pc l a1 a2 a3 n1 n2 n3 c1 c2 c3 t bound W (hp.ext hW) (ht.ext hW) hC
  have hcn := fun W (hW : Ext w W) hC => carriedd_no s c pa pn pc l a1 a2 a3 n1 n2 n3 c1 c2 c3 t bound W (hp.ext hW) (ht.ext hW) hC
  have hld : ∀ W, Ext w W → Carried s c pn l t bound → LoadIn pa pn l a1 a2 a3 n1 n2 n3 c1 c2 c3 t W := fun W hW hC => ⟨hp.ext hW, ht.ext hW, hn.ext hW, hC.1, hC.2.1, hC.2.2.1⟩
  have hjo := fun tb W (hW : Ext w W) (hC : Carried s c pn l t bound) (hb : W.heap[tb]? = some (.cells #[.slice a1 n1 c1, .slice a2 n2 c2, .slice a3 n3 c3] 31 (0, 0))) (h80 : jn ≤ 80) => jolted6_any tb pa pn pc l a1 a2 a3 n1 n2 n3 c1 c2 c3 t ja jn jc js days W (hld W hW hC) (hj.ext hW) hb h80 hnil
  have hcm : Carried s c pn l t bound → BreedOk s ∧ CamelOk s c := fun hC => by
    have h := hC.2.2.2.1
    unfold camelErr at h
    split at h
    · rename_i h1
      split at h
      · rename_i h2
        exact ⟨breedIs h1, camelIs.1 h2⟩
      · cases h
    · cases h
  have hr1 := fun W (hW : Ext w W) (hC : Carried s c pn l t bound) => ready8_any s c pa pn pc l a1 a2 a3 n1 n2 n3 c1 c2 c3 t bound W (hld W hW hC) (hcm hC).1 (hcm hC).2 hC.2.2.2.1 hC.2.2.2.2
  have hb1 := fun W (hW : Ext w W) (hC : Carried s c pn l t bound) => balance9_any pa pn pc l a1 a2 a3 n1 n2 n3 c1 c2 c3 t bound W (hld W hW hC) hC.2.2.2.2
  have hl2 := fun la (W V : World) m (hW : Ext w W) (hV : Ext W V) (hC : Carried s c pn l t bound) (hj : Jolteds l pn js days la W m) => (⟨hj.packs.ext hV, ht.ext (hW.trans hV), hn.ext (hW.trans hV), hC.1, hj.ok, hC.2.2.1⟩ : LoadIn la pn (aged days m) a1 a2 a3 n1 n2 n3 c1 c2 c3 t V)
  have hk7 := fun la lc tb (W V : World) m (hW : Ext w W) (hV : Ext W V) (hC : Carried s c pn l t bound) (hj : Jolteds l pn js days la W m) (hb : V.heap[tb]? = some (.cells #[.slice a1 n1 c1, .slice a2 n2 c2, .slice a3 n3 c3] 31 (0, 0))) =>
    rcheck5_any la pn lc (aged days m) a1 a2 a3 n1 n2 n3 c1 c2 c3 t tb V (hl2 la W V m hW hV hC hj).packs (by have := hC.1; omega) (hl2 la W V m hW hV hC hj).tied hb (by have := (hl2 la W V m hW hV hC hj).small; omega) (by have := (hl2 la W V m hW hV hC hj).small; omega) (by have := (hl2 la W V m hW hV hC hj).small; omega)
  have hk70 : ∀ la (W : World) m, Carried s c pn l t bound → Jolteds l pn js days la W m → check5 pn (aged days m) t = 0 := fun la W m hC hj => check5_of hC.1 hj.ok hC.2.2.1
  have hr2 := fun la lc (W V : World) m (hW : Ext w W) (hV : Ext W V) (hC : Carried s c pn l t bound) (hj : Jolteds l pn js days la W m) => ready8_any s c la pn lc (aged days m) a1 a2 a3 n1 n2 n3 c1 c2 c3 t bound V (hl2 la W V m hW hV hC hj) (hcm hC).1 (hcm hC).2 hC.2.2.2.1 hC.2.2.2.2
  have hb2 := fun la lc (W V : World) m (hW : Ext w W) (hV : Ext W V) (hC : Carried s c pn l t bound) (hj : Jolteds l pn js days la W m) => balance9_any la pn lc (aged days m) a1 a2 a3 n1 n2 n3 c1 c2 c3 t bound V (hl2 la W V m hW hV hC hj) hC.2.2.2.2
  have hs2 := fun la lc (W V : World) m (hW : Ext w W) (hV : Ext W V) (hC : Carried s c pn l t bound) (hj : Jolteds l pn js days la W m) => sides11_any la pn lc (aged days m) a1 a2 a3 n1 n2 n3 c1 c2 c3 t V (hl2 la W V m hW hV hC hj)
  have hca := fun W (hC : Carried s c pn l t bound) => carries10_any s c W (hcm hC).1 (hcm hC).2 hC.2.2.2.1
  have hlk := fun la (W : World) m (hC : Carried s c pn l t bound) (hj : Jolteds l pn js days la W m) => leaks_of (bound := bound) (hcm hC).1 (hcm hC).2 hp.1 hC.2.1 hC.2.2.1 hj
  have hal := fun W (hW : Ext w W) => alive05_any W (hn.ext hW)
  clear hp hnil ht hj hn hcm hld hl2
  generalize carryOf s c = CA at *
  generalize Carried s c pn l t bound = CP at *
  generalize readyOf l t bound CA = B at *
  generalize evenOf l t bound = I0 at *
  obtain ⟨cl, ch⟩ := CA
  obtain ⟨fu, fe, ⟨r0, r1⟩, ⟨h0, h1⟩, ⟨t0, t1⟩, ⟨b0, b1⟩, ⟨u0, u1⟩, ⟨m0, m1⟩, hl, ⟨s0, s1⟩⟩ := s
  obtain ⟨⟨w0, w1⟩, ⟨e0, e1⟩, ⟨o0, o1⟩, mk⟩ := c
  unfold Breed.val Camel.val at hcy hcn hr1 hr2
  unfold Breed.val Camel.val Span.val at hca
  unfold Span.val at hs2
  unfold Breed.val Camel.val
  simp only at hcy hcn hr1 hr2 hca hs2 hlk ⊢
  obtain ⟨W0, hW0⟩ : ∃ W0, ((w.alloc (.cells #[.int .i64 fu, .int .i64 fe, .int .i64 r0, .int .i64 r1, .int .i64 h0, .int .i64 h1, .int .i64 t0, .int .i64 t1, .int .i64 b0, .int .i64 b1, .int .i64 u0, .int .i64 u1, .int .i64 m0, .int .i64 m1, .int .i64 hl, .int .i64 s0, .int .i64 s1] 25)).alloc (.cells #[.int .i64 w0, .int .i64 w1, .int .i64 e0, .int .i64 e1, .int .i64 o0, .int .i64 o1, .bool mk] 27)).alloc (.cells #[.slice a1 n1 c1, .slice a2 n2 c2, .slice a3 n3 c3] 31) = W0 := ⟨_, rfl⟩
  have hx0 : Ext w W0 := by rw [← hW0]; exact (((Ext.refl w).alloc _).alloc _).alloc _
  have hb0 : W0.heap[w.heap.size]? = some (.cells #[.int .i64 fu, .int .i64 fe, .int .i64 r0, .int .i64 r1, .int .i64 h0, .int .i64 h1, .int .i64 t0, .int .i64 t1, .int .i64 b0, .int .i64 b1, .int .i64 u0, .int .i64 u1, .int .i64 m0, .int .i64 m1, .int .i64 hl, .int .i64 s0, .int .i64 s1] 25 (0, 0)) := by rw [← hW0]; exact alloc_heap (alloc_heap (heap_alloc_new w _) _) _
  have hc0 : W0.heap[w.heap.size + 1]? = some (.cells #[.int .i64 w0, .int .i64 w1, .int .i64 e0, .int .i64 e1, .int .i64 o0, .int .i64 o1, .bool mk] 27 (0, 0)) := by rw [← hW0]; exact alloc_heap (alloc_at _ _ _ (by simp)) _
  have ht0 : W0.heap[w.heap.size + 1 + 1]? = some (.cells #[.slice a1 n1 c1, .slice a2 n2 c2, .slice a3 n3 c3] 31 (0, 0)) := by rw [← hW0]; exact alloc_at _ _ _ (by simp)
  have hz := Ext.refl W0
  have Hcy := Lib.hid hcy
  have Hcn := Lib.hid hcn
  have Hjo := Lib.hid hjo
  have Hr1 := Lib.hid hr1
  have Hb1 := Lib.hid hb1
  have Hk7 := Lib.hid hk7
  have Hk70 := Lib.hid hk70
  have Hr2 := Lib.hid hr2
  have Hb2 := Lib.hid hb2
  have Hs2 := Lib.hid hs2
  have Hca := Lib.hid hca
  have Hlk := Lib.hid hlk
  have Hal := Lib.hid hal
  have Hx0 := Lib.hid hx0
  have Hb0 := Lib.hid hb0
  have Hc0 := Lib.hid hc0
  have Ht0 := Lib.hid ht0
  clear hcy hcn hjo hr1 hb1 hk7 hk70 hr2 hb2 hs2 hca hlk hal hx0 hb0 hc0 ht0
  go_enter Tryz.func3, Tryz.ntmps3
  go_upto_region 2 with (go_at_call 4; refine (Hal.out W0 Hx0.out).mono ?_; rintro e v1 ⟨rfl, hx⟩; replace hz := hz.trans hx; clear hx)
  by_cases hC : CP
  rotate_left
  · have hcx := Hcn.out _ (Hx0.out.trans hz) hC
    have Hcx := Lib.hid hcx
    clear hcx hC
    go_wp2_with (first
      | (refine wpList_load_row rfl 25 (.tmp 7) rfl w.heap.size rfl 25 _ (0, 0) _ (hz.heap Hb0.out) Tryz.underlying25 rfl (by kernel_rfl) ?_)
      | (refine wpList_load_row rfl 27 (.tmp 8) rfl (w.heap.size + 1) rfl 27 _ (0, 0) _ (hz.heap Hc0.out) Tryz.underlying27 rfl (by kernel_rfl) ?_)
      | (refine wpList_load_row rfl 31 (.tmp 10) rfl (w.heap.size + 1 + 1) rfl 31 _ (0, 0) _ (hz.heap Ht0.out) Tryz.underlying31 rfl (by kernel_rfl) ?_)
      | (go_at_call 5; refine Hcx.out.mono ?_; rintro e v2 ⟨rfl, hx⟩; replace hz := hz.trans hx; clear hx))
    go_ret
    exact ⟨rfl, Hx0.out.trans hz⟩
  have hcx := Hcy.out _ (Hx0.out.trans hz) hC
  have Hcx := Lib.hid hcx
  clear hcx
  have HC := Lib.hid hC
  clear hC Hcn Hcy
  by_cases h80 : 80 < jn
  · have h80I : decide ((80 : Int) < (jn : Int)) = true := decide_eq_true (by omega)
    have h80N : decide (80 < jn) = true := decide_eq_true h80
    clear h80
    go_wp2_with (first
      | (refine wpList_load_row rfl 25 (.tmp 7) rfl w.heap.size rfl 25 _ (0, 0) _ (hz.heap Hb0.out) Tryz.underlying25 rfl (by kernel_rfl) ?_)
      | (refine wpList_load_row rfl 27 (.tmp 8) rfl (w.heap.size + 1) rfl 27 _ (0, 0) _ (hz.heap Hc0.out) Tryz.underlying27 rfl (by kernel_rfl) ?_)
      | (refine wpList_load_row rfl 31 (.tmp 10) rfl (w.heap.size + 1 + 1) rfl 31 _ (0, 0) _ (hz.heap Ht0.out) Tryz.underlying31 rfl (by kernel_rfl) ?_)
      | (go_at_call 5; refine Hcx.out.mono ?_; rintro e v2 ⟨rfl, hx⟩; replace hz := hz.trans hx; clear hx))
    go_ret
    exact ⟨rfl, Hx0.out.trans hz⟩
  have h80I : decide ((80 : Int) < (jn : Int)) = false := decide_eq_false (by omega)
  have h80N : decide (80 < jn) = false := decide_eq_false h80
  have hj80 : jn ≤ 80 := by omega
  have Hj80 := Lib.hid hj80
  clear hj80
  clear h80
  go_upto_region 4 with (first
    | (refine wpList_load_row rfl 25 (.tmp 7) rfl w.heap.size rfl 25 _ (0, 0) _ (hz.heap Hb0.out) Tryz.underlying25 rfl (by kernel_rfl) ?_)
    | (refine wpList_load_row rfl 27 (.tmp 8) rfl (w.heap.size + 1) rfl 27 _ (0, 0) _ (hz.heap Hc0.out) Tryz.underlying27 rfl (by kernel_rfl) ?_)
    | (refine wpList_load_row rfl 31 (.tmp 10) rfl (w.heap.size + 1 + 1) rfl 31 _ (0, 0) _ (hz.heap Ht0.out) Tryz.underlying31 rfl (by kernel_rfl) ?_)
    | (go_at_call 5; refine Hcx.out.mono ?_; rintro e v2 ⟨rfl, hx⟩; replace hz := hz.trans hx; clear hx))
  clear h80I h80N Hcx
  go_upto_region 5 with (first
    | (refine wpList_load_row rfl 25 (.tmp 7) rfl w.heap.size rfl 25 _ (0, 0) _ (hz.heap Hb0.out) Tryz.underlying25 rfl (by kernel_rfl) ?_)
    | (refine wpList_load_row rfl 27 (.tmp 8) rfl (w.heap.size + 1) rfl 27 _ (0, 0) _ (hz.heap Hc0.out) Tryz.underlying27 rfl (by kernel_rfl) ?_)
    | (refine wpList_load_row rfl 31 (.tmp 10) rfl (w.heap.size + 1 + 1) rfl 31 _ (0, 0) _ (hz.heap Ht0.out) Tryz.underlying31 rfl (by kernel_rfl) ?_)
    | (go_at_call 6; refine (Hjo.out _ _ (Hx0.out.trans (hz.alloc _)) HC.out (alloc_at _ _ _ rfl) Hj80.out).mono ?_; intro e W1 hP0; obtain ⟨v, k, rfl, hx, hP⟩ := jolted_split hP0; clear hP0))
  have hy1 := (hz.alloc _).trans hx
  replace hz := hy1
  clear hx hy1 Hjo Hj80
  rcases hP with hk | ⟨rfl, la, lc, m, rfl, hj⟩
  · have hkB : (k != 0) = true := by simp [hk]
    clear hk
    go_wp2_with fail
    go_ret
    exact ⟨rfl, Hx0.out.trans hz⟩
  have hy1 := Hx0.out.trans hz
  have hk0 := Hk70.out la W1 m HC.out hj
  have hk7 := fun (V : World) tb (hV : Ext W1 V) (hb : V.heap[tb]? = some (.cells #[.slice a1 n1 c1, .slice a2 n2 c2, .slice a3 n3 c3] 31 (0, 0))) => Hk7.out la lc tb W1 V m hy1 hV HC.out hj hb
  rw [hk0] at hk7
  have hr1 := fun (V : World) (hV : Ext w V) => Hr1.out V hV HC.out
  have hb1 := fun (V : World) (hV : Ext w V) => Hb1.out V hV HC.out
  have hr2 := fun (V : World) (hV : Ext W1 V) => Hr2.out la lc W1 V m hy1 hV HC.out hj
  have hb2 := fun (V : World) (hV : Ext W1 V) => Hb2.out la lc W1 V m hy1 hV HC.out hj
  have hs2 := fun (V : World) (hV : Ext W1 V) => Hs2.out la lc W1 V m hy1 hV HC.out hj
  have hca := fun (V : World) => Hca.out V HC.out
  have hlk := Hlk.out la W1 m HC.out hj
  clear Hk70 Hk7 Hr1 Hb1 Hr2 Hb2 Hs2 Hca Hlk HC hk0 hj
  generalize readyOf (aged days m) t bound ⟨cl, ch⟩ = A at *
  generalize evenOf (aged days m) t bound = I at *
  obtain ⟨⟨aL, aH⟩, hA⟩ : ∃ X, weigh (aged days m) (allOf t) = X := ⟨_, rfl⟩
  obtain ⟨⟨lL, lH⟩, hL⟩ : ∃ X, weigh (aged days m) t.left = X := ⟨_, rfl⟩
  obtain ⟨⟨rL, rH⟩, hR⟩ : ∃ X, weigh (aged days m) t.right = X := ⟨_, rfl⟩
  rw [hA] at hs2 hlk
  rw [hL, hR] at hs2
  simp only at hs2 hlk
  have hu := Ext.refl W1
  clear hA hL hR
  have Hk7 := Lib.hid hk7
  have Hr1 := Lib.hid hr1
  have Hb1 := Lib.hid hb1
  have Hr2 := Lib.hid hr2
  have Hb2 := Lib.hid hb2
  have Hs2 := Lib.hid hs2
  have Hca := Lib.hid hca
  have Hlk := Lib.hid hlk
  clear hk7 hr1 hb1 hr2 hb2 hs2 hca hlk
  go_upto_region 9 with (first
    | (refine wpList_load_row rfl 25 (.tmp 7) rfl w.heap.size rfl 25 _ (0, 0) _ (hz.heap Hb0.out) Tryz.underlying25 rfl (by kernel_rfl) ?_)
    | (refine wpList_load_row rfl 27 (.tmp 8) rfl (w.heap.size + 1) rfl 27 _ (0, 0) _ (hz.heap Hc0.out) Tryz.underlying27 rfl (by kernel_rfl) ?_)
    | (refine wpList_load_row rfl 31 (.tmp 10) rfl (w.heap.size + 1 + 1) rfl 31 _ (0, 0) _ (hz.heap Ht0.out) Tryz.underlying31 rfl (by kernel_rfl) ?_)
    | (go_at_call 7; refine (Hk7.out _ _ (hu.alloc _) (alloc_at _ _ _ rfl)).mono ?_; rintro e v3 ⟨rfl, hx⟩; replace hz := (hz.alloc _).trans hx; replace hu := (hu.alloc _).trans hx; clear hx))
  clear Hk7
  go_upto_region 10 with (first
    | (refine wpList_load_row rfl 25 (.tmp 7) rfl w.heap.size rfl 25 _ (0, 0) _ (hz.heap Hb0.out) Tryz.underlying25 rfl (by kernel_rfl) ?_)
    | (refine wpList_load_row rfl 27 (.tmp 8) rfl (w.heap.size + 1) rfl 27 _ (0, 0) _ (hz.heap Hc0.out) Tryz.underlying27 rfl (by kernel_rfl) ?_)
    | (refine wpList_load_row rfl 31 (.tmp 10) rfl (w.heap.size + 1 + 1) rfl 31 _ (0, 0) _ (hz.heap Ht0.out) Tryz.underlying31 rfl (by kernel_rfl) ?_)
    | (go_at_call 8; refine (Hr1.out _ (Hx0.out.trans hz)).mono ?_; rintro e v3 ⟨rfl, hx⟩; replace hz := hz.trans hx; replace hu := hu.trans hx; clear hx))
  clear Hr1
  go_upto_region 11 with (first
    | (refine wpList_load_row rfl 25 (.tmp 7) rfl w.heap.size rfl 25 _ (0, 0) _ (hz.heap Hb0.out) Tryz.underlying25 rfl (by kernel_rfl) ?_)
    | (refine wpList_load_row rfl 27 (.tmp 8) rfl (w.heap.size + 1) rfl 27 _ (0, 0) _ (hz.heap Hc0.out) Tryz.underlying27 rfl (by kernel_rfl) ?_)
    | (refine wpList_load_row rfl 31 (.tmp 10) rfl (w.heap.size + 1 + 1) rfl 31 _ (0, 0) _ (hz.heap Ht0.out) Tryz.underlying31 rfl (by kernel_rfl) ?_)
    | (go_at_call 8; refine (Hr2.out _ hu).mono ?_; rintro e v3 ⟨rfl, hx⟩; replace hz := hz.trans hx; replace hu := hu.trans hx; clear hx))
  clear Hr2
  go_upto_region 12 with (first
    | (refine wpList_load_row rfl 25 (.tmp 7) rfl w.heap.size rfl 25 _ (0, 0) _ (hz.heap Hb0.out) Tryz.underlying25 rfl (by kernel_rfl) ?_)
    | (refine wpList_load_row rfl 27 (.tmp 8) rfl (w.heap.size + 1) rfl 27 _ (0, 0) _ (hz.heap Hc0.out) Tryz.underlying27 rfl (by kernel_rfl) ?_)
    | (refine wpList_load_row rfl 31 (.tmp 10) rfl (w.heap.size + 1 + 1) rfl 31 _ (0, 0) _ (hz.heap Ht0.out) Tryz.underlying31 rfl (by kernel_rfl) ?_)
    | (go_at_call 9; refine (Hb1.out _ (Hx0.out.trans hz)).mono ?_; rintro e v3 ⟨rfl, hx⟩; replace hz := hz.trans hx; replace hu := hu.trans hx; clear hx))
  clear Hb1
  go_upto_region 13 with (first
    | (refine wpList_load_row rfl 25 (.tmp 7) rfl w.heap.size rfl 25 _ (0, 0) _ (hz.heap Hb0.out) Tryz.underlying25 rfl (by kernel_rfl) ?_)
    | (refine wpList_load_row rfl 27 (.tmp 8) rfl (w.heap.size + 1) rfl 27 _ (0, 0) _ (hz.heap Hc0.out) Tryz.underlying27 rfl (by kernel_rfl) ?_)
    | (refine wpList_load_row rfl 31 (.tmp 10) rfl (w.heap.size + 1 + 1) rfl 31 _ (0, 0) _ (hz.heap Ht0.out) Tryz.underlying31 rfl (by kernel_rfl) ?_)
    | (go_at_call 9; refine (Hb2.out _ hu).mono ?_; rintro e v3 ⟨rfl, hx⟩; replace hz := hz.trans hx; replace hu := hu.trans hx; clear hx))
  clear Hb2
  go_upto_region 14 with (first
    | (refine wpList_load_row rfl 25 (.tmp 7) rfl w.heap.size rfl 25 _ (0, 0) _ (hz.heap Hb0.out) Tryz.underlying25 rfl (by kernel_rfl) ?_)
    | (refine wpList_load_row rfl 27 (.tmp 8) rfl (w.heap.size + 1) rfl 27 _ (0, 0) _ (hz.heap Hc0.out) Tryz.underlying27 rfl (by kernel_rfl) ?_)
    | (refine wpList_load_row rfl 31 (.tmp 10) rfl (w.heap.size + 1 + 1) rfl 31 _ (0, 0) _ (hz.heap Ht0.out) Tryz.underlying31 rfl (by kernel_rfl) ?_)
    | (go_at_call 10; refine (Hca.out _).mono ?_; rintro e v4 ⟨rfl, hx⟩; replace hz := hz.trans hx; replace hu := hu.trans hx; clear hx))
  clear Hca
  have b26 := heap_alloc_new v4 (.cells #[.int .i64 cl, .int .i64 ch] 23)
  have h4 := (Ext.refl v4).alloc (.cells #[.int .i64 cl, .int .i64 ch] 23)
  replace hz := hz.trans h4
  replace hu := hu.trans h4
  clear h4
  generalize v4.alloc (.cells #[.int .i64 cl, .int .i64 ch] 23) = W14 at *
  generalize v4.heap.size = p26 at *
  have B26 := Lib.hid b26
  clear b26
  go_upto_region 15 with (first
    | (refine wpList_load_row rfl 25 (.tmp 7) rfl w.heap.size rfl 25 _ (0, 0) _ (hz.heap Hb0.out) Tryz.underlying25 rfl (by kernel_rfl) ?_)
    | (refine wpList_load_row rfl 27 (.tmp 8) rfl (w.heap.size + 1) rfl 27 _ (0, 0) _ (hz.heap Hc0.out) Tryz.underlying27 rfl (by kernel_rfl) ?_)
    | (refine wpList_load_row rfl 31 (.tmp 10) rfl (w.heap.size + 1 + 1) rfl 31 _ (0, 0) _ (hz.heap Ht0.out) Tryz.underlying31 rfl (by kernel_rfl) ?_)
    | (go_at_call 11; refine (Hs2.out _ hu).mono ?_; rintro e v5 ⟨rfl, hx⟩; replace hz := hz.trans hx; have b26' := hx.heap B26.out; clear hx))
  clear Hs2 hu B26
  have b26F := alloc_heap (alloc_heap (alloc_heap b26' (.cells #[.int .i64 lL, .int .i64 lH] 23)) (.cells #[.int .i64 rL, .int .i64 rH] 23)) (.cells #[.int .i64 aL, .int .i64 aH] 23)
  have b30F : (((v5.alloc (.cells #[.int .i64 lL, .int .i64 lH] 23)).alloc (.cells #[.int .i64 rL, .int .i64 rH] 23)).alloc (.cells #[.int .i64 aL, .int .i64 aH] 23)).heap[v5.heap.size + 1 + 1]? = some (.cells #[.int .i64 aL, .int .i64 aH] 23 (0, 0)) := alloc_at _ _ _ (by simp)
  have hzF : Ext W0 (((v5.alloc (.cells #[.int .i64 lL, .int .i64 lH] 23)).alloc (.cells #[.int .i64 rL, .int .i64 rH] 23)).alloc (.cells #[.int .i64 aL, .int .i64 aH] 23)) := ((hz.alloc _).alloc _).alloc _
  clear hz b26'
  generalize ((v5.alloc (.cells #[.int .i64 lL, .int .i64 lH] 23)).alloc (.cells #[.int .i64 rL, .int .i64 rH] 23)).alloc (.cells #[.int .i64 aL, .int .i64 aH] 23) = WF at *
  generalize v5.heap.size + 1 + 1 = p30 at *
  generalize v5.heap.size + 1 = p29 at *
  generalize v5.heap.size = p28 at *
  obtain ⟨y0, _⟩ := (Ext.refl WF).box b26F
  obtain ⟨y1, _⟩ := (Ext.refl WF).box b30F
  have l26 := heap_lt b26F
  have l30 := heap_lt b30F
  have hxF := Hx0.out.trans hzF
  obtain ⟨st, li⟩ := Hlk.out
  have HxF := Lib.hid hxF
  clear hxF
  clear b26F b30F hzF Hb0 Hc0 Ht0 Hx0 Hlk
  by_cases qB : B = 2
  · have tB2 : (B == 2) = true := by simp [qB]
    by_cases qI : I = 2
    · have qA := st qB qI
      have tI2 : (I == 2) = true := by simp [qI]
      have tA2 : (A != 2) = false := by simp [qA]
      have tA0 : (A != 0) = true := by simp [qA]
      clear st li
      try clear qB
      try clear qI
      try clear qA
      go_wp2_with fail
      go_ret
      exact ⟨rfl, HxF.out⟩
    · have tI2 : (I == 2) = false := by simp [qI]
      by_cases qA : A = 0
      · have tA0 : (A != 0) = false := by simp [qA]
        have qI0 : I = 0 := by have := li qA; omega
        have tI0 : (I == 0) = true := by simp [qI0]
        clear qI0
        clear st li
        try clear qB
        try clear qI
        try clear qA
        go_wp2_with fail
        go_ret
        exact ⟨rfl, HxF.out⟩
      · have tA0 : (A != 0) = true := by simp [qA]
        clear st li
        try clear qB
        try clear qI
        try clear qA
        go_wp2_with fail
        go_ret
        exact ⟨rfl, HxF.out⟩
  · have tB2 : (B == 2) = false := by simp [qB]
    by_cases qA : A = 0
    · have tA0 : (A != 0) = false := by simp [qA]
      by_cases qI0 : I = 0
      · have tI0 : (I == 0) = true := by simp [qI0]
        clear qI0
        clear st li
        try clear qB
        try clear qI
        try clear qA
        go_wp2_with fail
        go_ret
        exact ⟨rfl, HxF.out⟩
      · have tI0 : (I == 0) = false := by simp [qI0]
        obtain ⟨qch, qB0⟩ : ch < aL ∧ B = 0 := by have := li qA; omega
        have tch : decide (ch < aL) = true := decide_eq_true qch
        have tB0 : (B == 0) = true := by simp [qB0]
        clear qI0 qch qB0
        clear st li
        try clear qB
        try clear qI
        try clear qA
        go_wp2_with fail
        go_ret
        exact ⟨rfl, HxF.out⟩
    · have tA0 : (A != 0) = true := by simp [qA]
      clear st li
      try clear qB
      try clear qI
      try clear qA
      go_wp2_with fail
      go_ret
      exact ⟨rfl, HxF.out⟩
end Go.Proofs.YtcoelhpmkhimpaaGreatDoor

namespace Go.Proofs.YtcoelhpmkhimpaaGreatDoor.topLeaksDone
open Go.ChangeShapes Go.WideShapes Go.ChangeAt Go.RowKit
open Go.ChangeMaps (open_string shut_string)
set_option linter.unusedVariables false

theorem own : ownKnob Tryz.prog.godebug = none := by kernel_rfl
theorem laidOut : laidOutB Tryz.prog = true := by kernel_rfl
def laid1 : List (String × DataW Unit) := [("azalai/load.none", Rows.laid_azalai_load_none)]
theorem gNone : Tryz.prog.globalNamed "azalai/load.none" = some 0 := by kernel_rfl
theorem tNone : (Tryz.prog.globals[0]?).map (·.type) = some 23 := by kernel_rfl
theorem door_met (os : Os) (args : Array Value) : laidMetH Tryz.prog laid1 ((World.doorLaid Tryz.prog 400 os).forCall (fun _ _ => 0) ⟨#[], args, []⟩).memory :=
  laidMetH_of_parts3 (fuel := 8) (laidMet_of_run' 8 (by kernel_rfl) (by kernel_rfl)) (by kernel_rfl) (by kernel_rfl)
theorem of_laid {W : World} (h : laidMetH Tryz.prog laid1 W) : NoneAt W := by
  rw [MakeChecks.laidMetH_plain _ _ _ (by kernel_rfl)] at h
  obtain ⟨ps, ⟨g0, t0, cs0, f0, p0, q0, hg0, ht0, hv0, hd0, _, _⟩, _, _⟩ := h
  obtain rfl := Option.some.inj (gNone.symm.trans hg0)
  obtain rfl := Option.some.inj (tNone.symm.trans ht0)
  obtain ⟨xs, n, _, hx, hl, hn, hf⟩ := DataW.trod_struct Tryz.underlying23 hd0
  have h2 : cs0.toList.length = 2 := hl.trans (by kernel_rfl)
  obtain ⟨l⟩ := cs0
  obtain ⟨u, v, rfl⟩ := tlen2 (show l.length = 2 from h2)
  obtain ⟨x0, x1, rfl⟩ := tlen2 (show xs.length = 2 from hn)
  have e0 := hf 0 _ rfl
  have e1 := hf 1 _ rfl
  simp [c3] at e0 e1
  obtain ⟨a, ha, hxa, _⟩ := DataW.trod_int Tryz.underlying3 e0
  obtain ⟨b, hb, hxb, _⟩ := DataW.trod_int Tryz.underlying3 e1
  cases ha
  cases hb
  subst hxa
  subst hxb
  simp [Rows.laid_azalai_load_none] at hx
  obtain ⟨⟨rfl, rfl⟩, _⟩ := hx
  exact ⟨by have := World.var?_cell hg0 hv0 0; simpa using this, by have := World.var?_cell hg0 hv0 1; simpa using this⟩

set_option maxRecDepth 100000 in
theorem lifted (os : Os) (started : os.Started) (H : Type) (enc : TypeId × Value → H) :
    ReturnsInHanded {} Tryz.checked os 3 .any (fun w args => (Rows.topLeaksSpec.pre enc Tryz.prog Tryz.f3 [] false w args ∧ laidMetH Tryz.prog laid1 w) ∧ sizedMet enc Tryz.prog Tryz.f3 (OpenSpec.ofChange Rows.topLeaksSpec) false w args)
      (Rows.topLeaksSpec.post enc Tryz.prog Tryz.f3 false true false false) := by
  refine returnsInHanded_of_change_and (C := Tryz.checked) (X := fun w _ => laidMetH Tryz.prog laid1 w) (fun _ _ _ hh h => h.of_heap hh) own started (by kernel_rfl) Tryz.func3
    (ChangeSpec.witness_shaped (enc := enc) (C := Tryz.checked) (os := os) (X := fun w _ => laidMetH Tryz.prog laid1 w) false (World.doorLaid Tryz.prog 400 os) #[.agg #[.int .i64 0, .int .i64 0, .int .i64 0, .int .i64 0, .int .i64 0, .int .i64 0, .int .i64 0, .int .i64 0, .int .i64 0, .int .i64 0, .int .i64 0, .int .i64 0, .int .i64 0, .int .i64 0, .int .i64 0, .int .i64 0, .int .i64 0], .agg #[.int .i64 0, .int .i64 0, .int .i64 0, .int .i64 0, .int .i64 0, .int .i64 0, .bool false], .slice none 0 0, .agg #[.slice none 0 0, .slice none 0 0, .slice none 0 0], .int .i64 0, .slice none 0 0, .int .i64 0] 8 rfl (World.shaped_of_RefB (by kernel_rfl) (by kernel_rfl)) (by kernel_rfl) (by kernel_rfl) (by kernel_rfl) (door_met os _)) ?_
  intro W base args ds gs before hval0 hW _ _ hL _
  have hval : ∀ (j : Nat) t v, Tryz.f3.params[j]? = some t → args[j]? = some v → Value.okWide Tryz.prog W .any base t v := hval0
  have hW' := hW
  obtain ⟨p, q, hA0, hV, rfl, hfz, hnd⟩ := hW
  have hA : DataW.TrodAll enc Tryz.prog W 0 (fun _ => true) true Tryz.f3.params.toList args.toList ds p := hA0
  rw [Tryz.params3] at hA hval
  obtain ⟨v0, vs0, d0, ds0, p0, q0, hargs, rfl, rfl, h0, r0⟩ := trodAll_cons hA
  obtain ⟨v1, vs1, d1, ds1, p1, q1, rfl, rfl, rfl, h1, r1⟩ := trodAll_cons r0
  obtain ⟨v2, vs2, d2, ds2, p2, q2, rfl, rfl, rfl, h2, r2⟩ := trodAll_cons r1
  obtain ⟨v3, vs3, d3, ds3, p3, q3, rfl, rfl, rfl, h3, r3⟩ := trodAll_cons r2
  obtain ⟨v4, vs4, d4, ds4, p4, q4, rfl, rfl, rfl, h4, r4⟩ := trodAll_cons r3
  obtain ⟨v5, vs5, d5, ds5, p5, q5, rfl, rfl, rfl, h5, r5⟩ := trodAll_cons r4
  obtain ⟨v6, vs6, d6, ds6, p6, q6, rfl, rfl, rfl, h6, r6⟩ := trodAll_cons r5
  obtain ⟨rfl, rfl, rfl⟩ := trodAll_nil r6
  obtain rfl : args = #[v0, v1, v2, v3, v4, v5, v6] := by cases args; simp_all
  obtain ⟨rfl, rfl⟩ := trodVars_none hV
  have hn := of_laid hL
  obtain ⟨cs0, rfl, hz0⟩ := okWide_struct Tryz.underlying25 (hval 0 25 v0 rfl rfl)
  have k0 := h0
  have lt0 : ∀ x ∈ p0, x.block < W.heap.size := by obtain ⟨m, hm⟩ := k0; exact DataW.trod_lt m _ _ _ hm
  obtain ⟨s0, e0⟩ : ∃ s : Breed, s.cells = cs0.toList := by
    obtain ⟨fuel, hf⟩ := h0
    exact take_breed (hz0.trans (by kernel_rfl)) hf
  obtain rfl : cs0 = s0.cells.toArray := by rw [e0]
  obtain ⟨cs1, rfl, hz1⟩ := okWide_struct Tryz.underlying27 (hval 1 27 v1 rfl rfl)
  have k1 := h1
  have lt1 : ∀ x ∈ p1, x.block < W.heap.size := by obtain ⟨m, hm⟩ := k1; exact DataW.trod_lt m _ _ _ hm
  obtain ⟨s1, e1⟩ : ∃ s : Camel, s.cells = cs1.toList := by
    obtain ⟨fuel, hf⟩ := h1
    exact take_camel (hz1.trans (by kernel_rfl)) hf
  obtain rfl : cs1 = s1.cells.toArray := by rw [e1]
  obtain ⟨a2, len2, cap2, rfl⟩ := okWide_slice Tryz.underlying28 (hval 2 28 v2 rfl rfl)
  have k2 := h2
  have lt2 : ∀ x ∈ p2, x.block < W.heap.size := by obtain ⟨m, hm⟩ := k2; exact DataW.trod_lt m _ _ _ hm
  obtain ⟨hnil, lc2, cm2, l2, w2⟩ : (a2 = none → len2 = 0 ∧ cap2 = 0) ∧ len2 ≤ cap2 ∧ cap2 ≤ maxLen ∧ ∃ l, PacksAt W a2 len2 l := by
    obtain ⟨fuel, hf⟩ := h2
    exact ⟨none_slice Tryz.underlying28 hf, take_packs hf⟩
  obtain ⟨cs3, rfl, hz3⟩ := okWide_struct Tryz.underlying31 (hval 3 31 v3 rfl rfl)
  have k3 := h3
  have lt3 : ∀ x ∈ p3, x.block < W.heap.size := by obtain ⟨m, hm⟩ := k3; exact DataW.trod_lt m _ _ _ hm
  obtain ⟨b1, n1, m1, b2, n2, m2, b3, n3, m3, l1, l2', l3, rfl, x1, x2, x3⟩ : ∃ a1 n1 c1 a2 n2 c2 a3 n3 c3 l1 l2 l3, cs3 = #[.slice a1 n1 c1, .slice a2 n2 c2, .slice a3 n3 c3] ∧ (n1 ≤ c1 ∧ c1 ≤ maxLen ∧ IntsAt .i64 W a1 n1 l1) ∧ (n2 ≤ c2 ∧ c2 ≤ maxLen ∧ IntsAt .i64 W a2 n2 l2) ∧ (n3 ≤ c3 ∧ c3 ≤ maxLen ∧ IntsAt .i64 W a3 n3 l3) := by
    obtain ⟨fuel, hf⟩ := h3
    exact take_tied (hz3.trans (by kernel_rfl)) hf
  obtain ⟨a4, rfl, rfl, rfl, w4⟩ := open_int Tryz.underlying3 (hval 4 3 v4 rfl rfl) h4
  obtain ⟨a5, len5, cap5, rfl⟩ := okWide_slice Tryz.underlying32 (hval 5 32 v5 rfl rfl)
  have k5 := h5
  have lt5 : ∀ x ∈ p5, x.block < W.heap.size := by obtain ⟨m, hm⟩ := k5; exact DataW.trod_lt m _ _ _ hm
  obtain ⟨lc5, cm5, l5, w5⟩ : len5 ≤ cap5 ∧ cap5 ≤ maxLen ∧ ∃ l, JoltsAt W a5 len5 l := by
    obtain ⟨fuel, hf⟩ := h5
    exact take_jolts hf
  obtain ⟨a6, rfl, rfl, rfl, w6⟩ := open_int Tryz.underlying3 (hval 6 3 v6 rfl rfl) h6
  clear hA0 hval0
  refine (topLeaks_any s0 s1 a2 len2 cap2 l2 b1 n1 m1 b2 n2 m2 b3 n3 m3 ⟨l1, l2', l3⟩ a4 a5 len5 cap5 l5 a6 W w2 hnil ⟨x1.2.2, x2.2.2, x3.2.2, ⟨x1.1, x1.2.1⟩, ⟨x2.1, x2.2.1⟩, ⟨x3.1, x3.2.1⟩⟩ w5 hn).mono fun e W' ⟨he, bel⟩ => ?_
  subst he
  exact ⟨_, rfl, _, _, _, [], _, [], hW', trodAll_mk1 (shut_bool Tryz.underlying4 _), (trodAll_cons_mk (Below.trod laidOut (by kernel_rfl) (of_decide_eq_true (by kernel_rfl)) k0 bel lt0) (trodAll_cons_mk (Below.trod laidOut (by kernel_rfl) (of_decide_eq_true (by kernel_rfl)) k1 bel lt1) (trodAll_cons_mk (Below.trod laidOut (by kernel_rfl) (of_decide_eq_true (by kernel_rfl)) k2 bel lt2) (trodAll_cons_mk (Below.trod laidOut (by kernel_rfl) (of_decide_eq_true (by kernel_rfl)) k3 bel lt3) (trodAll_cons_mk (shut_int Tryz.underlying3 w4) (trodAll_cons_mk (Below.trod laidOut (by kernel_rfl) (of_decide_eq_true (by kernel_rfl)) k5 bel lt5) (trodAll_cons_mk (shut_int Tryz.underlying3 w6) trodAll_mk0))))))), rfl, bel.frame _, fun h => by cases h⟩

theorem over : Rows.TopLeaksSaid :=
  OpenClaim.holds_of_wide 3 Tryz.f3 rfl rfl rfl rfl rfl rfl rfl ⟨rfl, rfl, rfl, rfl, rfl⟩ rfl rfl rfl rfl rfl (by kernel_rfl) Tryz.func3 (by kernel_rfl)
    (of_decide_eq_true (by kernel_rfl)) (by unfold Func.isWrapper; first | (rw [if_pos (by decide +kernel)]; kernel_rfl) | (rw [if_neg (by decide +kernel)]; exact ⟨rfl, rfl⟩))
    (fun os started H enc _ => lifted os started H enc)

theorem proved : Rows.TopLeaksCardSaid :=
  Claim7.holds_tied_plain_at .later [] [.data] true (true, "026ae0410a82297a0e823f946c85aa6db19d8f5c1fe004833738d7cfa6b17cb9") true
    over (fun _ h => by cases h) (by kernel_rfl) (fun _ h => by cases h) topLeaks_row_tie rfl ⟨rfl, rfl⟩ (by kernel_rfl) rfl
    (fun f fn hf hfn => by
      obtain rfl : f = 3 := Option.some.inj ((show Tryz.prog.funcNamed "azalai/azalaitop.TopLeaks" = some 3 by kernel_rfl).symm.trans hf) |>.symm
      obtain rfl : fn = Tryz.f3 := (Option.some.inj (Tryz.func3.symm.trans hfn)).symm
      exact ⟨by kernel_rfl, fun j t ht => by
        rw [Tryz.params3] at ht
        have hm : t ∈ [25, 27, 28, 31, 3, 32, 3] := by simpa using Array.mem_of_getElem? ht
        have hall : ([25, 27, 28, 31, 3, 32, 3].all fun u => !Tryz.prog.wantsStandIn u) = true := by kernel_rfl
        exact (show Tryz.prog.wantsStandIn t = false by simpa using List.all_eq_true.1 hall t hm)⟩)
    (by kernel_rfl)
#print axioms proved
end Go.Proofs.YtcoelhpmkhimpaaGreatDoor.topLeaksDone
