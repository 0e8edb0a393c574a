/- It is proved that TopLater returns true whatever the input, and that the input reads as it did. No conditions. -/
import Derived.Test.YtcoelhpmkhimpaaRefD
import Derived.Test.YtcoelhpmkhimpaaArith
import Derived.Test.YtcoelhpmkhimpaaFlow
import Derived.Test.YtcoelhpmkhimpaaWaterP
import Derived.Test.YtcoelhpmkhimpaaWaterC
import Derived.Test.YtcoelhpmkhimpaaStageP
import Derived.Test.YtcoelhpmkhimpaaFrom
import Derived.Test.YtcoelhpmkhimpaaAliveD
import Derived.Test.YtcoelhpmkhimpaaTake
import Derived.OpenShut
import Derived.ShutString
import Derived.ChangeOld
import Derived.Below
namespace Go.Proofs.Ytcoelhpmkhimpaa
open Go.RowKit
set_option linter.unusedVariables false
set_option linter.unusedSimpArgs false
def thirstAdd (s : Breed) (a : Span) (c : Camel) : Span := ⟨a.lo + (s.full - c.water.hi), a.hi + (s.full - c.water.lo)⟩
def thirstOf (s : Breed) : Span → List Camel → Option Span
  | a, [] => some a
  | a, c :: l => if camelOk s c then thirstOf s (thirstAdd s a c) l else none
def thirstVal (s : Breed) (l : List Camel) : Span × Int := if breedErr s ≠ 0 then (⟨0, 0⟩, breedErr s) else if 30 < l.length then (⟨0, 0⟩, 4) else match thirstOf s ⟨0, 0⟩ l with
  | none => (⟨0, 0⟩, 11)
  | some a => (a, 0)
theorem thirst_step {s : Breed} {a : Span} {l : List Camel} {k : Nat} {c : Camel} (h : l[k]? = some c) : thirstOf s a (l.drop k) = if camelOk s c then thirstOf s (thirstAdd s a c) (l.drop (k + 1)) else none := by
  rw [drop_at h]
  rfl
/-- what is known of the sum -/
theorem thirst_is {s : Breed} (hb : BreedOk s) : ∀ {l : List Camel} {a b : Span}, thirstOf s a l = some b → 0 ≤ a.lo → a.lo ≤ a.hi → 0 ≤ b.lo ∧ b.lo ≤ b.hi ∧ b.hi ≤ a.hi + l.length * 1000000
  | [], a, b, h, h0, h1 => by
    cases h
    simp
    omega
  | c :: l, a, b, h, h0, h1 => by
    unfold thirstOf at h
    cases hc : camelOk s c with
    | false => rw [hc] at h; simp at h
    | true =>
      rw [hc, if_pos rfl] at h
      have hw := (camelIs.1 hc).water
      have h2 := hw.low
      have h3 := hw.ord
      have h4 := hw.top
      have h5 := hb.full
      have := thirst_is hb h (by unfold thirstAdd; simp only; omega) (by unfold thirstAdd; simp only; omega)
      unfold thirstAdd at this
      simp only at this
      simp only [List.length_cons]
      omega
def thirstRes (r : Span × Int) : Value := .tuple #[.agg #[.int .i64 r.1.lo, .int .i64 r.1.hi], .int .i64 r.2]
structure ThIn (w : World) (s : Breed) (p7 : Nat) (a : Span) (V : World) : Prop where
  ext : Ext w V
  br : V.heap[w.heap.size]? = some (.cells s.cells.toArray 25 (0, 0))
  rs : V.heap[w.heap.size + 1]? = some (.cells #[.int .i64 0, .int .i64 0] 23 (0, 0))
  su : V.heap[p7]? = some (.cells #[.int .i64 a.lo, .int .i64 a.hi] 23 (0, 0))
  m7 : w.heap.size + 1 < p7
theorem ThIn.next {w : World} {s : Breed} {p7 : Nat} {a : Span} {V V' : World} (k : ThIn w s p7 a V) (hx : Ext V V') : ThIn w s p7 a V' := ⟨k.ext.trans hx, hx.heap k.br, hx.heap k.rs, hx.heap k.su, k.m7⟩
theorem ThIn.put {w : World} {s : Breed} {p7 : Nat} {a : Span} {V : World} (k : ThIn w s p7 a V) (x y : Int) : ThIn w s p7 ⟨x, y⟩ ((V.setCell ⟨p7, 0, none⟩ (.int .i64 x)).setCell ⟨p7, 1, none⟩ (.int .i64 y)) := by
  have h1 := k.m7
  exact ⟨set2_ext k.ext (by omega) _ _, set2_other k.br (by omega) _ _, set2_other k.rs (by omega) _ _, set2_box k.su _ _, h1⟩
set_option maxRecDepth 100000 in
set_option maxHeartbeats 8000000 in
theorem thirst_any (s : Breed) (a : Option Addr) (n cap : Nat) (l : List Camel) (w : World) (hl : CamelsAt w a n l) (hn : n ≤ cap) (hm : cap ≤ maxLen) :
    Calls Try.prog 17 #[s.val, .slice a n cap] w fun e w' => e = .returned (thirstRes (thirstVal s l)) ∧ Ext w w' := by
  have hcb := fun W => checkBreed_any s W
  have hcc := fun c W => checkCamel_any s c W
  have hll := hl.1
  unfold maxLen at hm
  have hdef : thirstVal s l = if breedErr s ≠ 0 then (⟨0, 0⟩, breedErr s) else if 30 < l.length then (⟨0, 0⟩, 4) else match thirstOf s ⟨0, 0⟩ l with
    | none => (⟨0, 0⟩, 11)
    | some a => (a, 0) := rfl
  obtain ⟨Q, hQ⟩ : ∃ Q : Ending → World → Prop, (fun e w' => e = .returned (thirstRes (thirstVal s l)) ∧ Ext w w') = Q := ⟨_, rfl⟩
  have hfin : ∀ lo hi K, thirstVal s l = (⟨lo, hi⟩, K) → ∀ w', Ext w w' → Q (.returned (.tuple #[.agg #[.int .i64 lo, .int .i64 hi], .int .i64 K])) w' := fun lo hi K h w' hx => by
    rw [← hQ]
    simp only [h]
    exact ⟨rfl, hx⟩
  rw [hQ]
  clear hQ
  have hbz : breedErr s = 0 → BreedOk s := fun h => breedIs (by unfold breedErr at h; split at h; assumption; omega)
  obtain ⟨K, hK⟩ : ∃ K, breedErr s = K := ⟨_, rfl⟩
  have hz10 : (if breedOk s then (0 : Int) else 10) = K := hK
  rw [hK] at hcb hdef hbz
  rw [hll] at hdef
  obtain ⟨W0, hW0⟩ : ∃ W0, (w.alloc (.cells s.cells.toArray 25)).alloc (.cells #[.int .i64 0, .int .i64 0] 23) = W0 := ⟨_, rfl⟩
  have hx0 : Ext w W0 := by rw [← hW0]; exact ((Ext.refl w).alloc _).alloc _
  have hb0 : W0.heap[w.heap.size]? = some (.cells s.cells.toArray 25 (0, 0)) := by rw [← hW0]; exact alloc_heap (heap_alloc_new w _) _
  have hr0 : W0.heap[w.heap.size + 1]? = some (.cells #[.int .i64 0, .int .i64 0] 23 (0, 0)) := by rw [← hW0]; exact alloc_at _ _ _ (by simp)
  generalize thirstVal s l = TV at *
  obtain ⟨S, hS⟩ : ∃ S, S = s := ⟨_, rfl⟩

  rw [← hS] at hb0 hbz hcc hdef hz10
  simp only [Breed.val_eq, Camel.val_eq] at hcc
  obtain ⟨fu, fe, ⟨r0, r1⟩, ⟨h0, h1⟩, ⟨t0, t1⟩, ⟨b0, b1⟩, ⟨u0, u1⟩, ⟨m0, m1⟩, hz, ⟨s0, s1⟩⟩ := s
  unfold Breed.val at hcb ⊢
  simp only at hcb hW0 ⊢
  unfold Breed.cells at hW0
  simp only at hW0
  have hb1 : W0.heap[w.heap.size]? = some (.cells #[.int .i64 fu, .int .i64 fe, .int .i64 r0, .int .i64 r1, .int .i64 h0, .int .i64 h1, .int .i64 t0, .int .i64 t1, .int .i64 b0, .int .i64 b1, .int .i64 u0, .int .i64 u1, .int .i64 m0, .int .i64 m1, .int .i64 hz, .int .i64 s0, .int .i64 s1] 25 (0, 0)) := by rw [hS] at hb0; exact hb0
  have Hz10 := Lib.hid hz10
  have Hcb := Lib.hid hcb
  have Hcc := Lib.hid hcc
  have Hx0 := Lib.hid hx0
  have Hb0 := Lib.hid hb0
  have Hb1 := Lib.hid hb1
  have Hr0 := Lib.hid hr0
  have Hfin := Lib.hid hfin
  have Hdef := Lib.hid hdef
  have Hl := Lib.hid hl
  have Hbz := Lib.hid hbz
  have HS := Lib.hid hS
  clear hz10 hcb hcc hx0 hb0 hb1 hr0 hfin hdef hl hbz hS
  by_cases hk : K ≠ 0
  · have hkB : (K != 0) = true := by simpa using hk
    have hf := Hfin.out 0 0 K (by rw [Hdef.out, if_pos hk])
    have Hf := Lib.hid hf
    clear hf
    clear hk
    go_enter Try.func17, Try.ntmps17
    go_wp2_with (first | (refine wpList_load_row rfl 25 (.tmp 2) rfl w.heap.size rfl 25 _ (0, 0) _ Hb1.out Try.underlying25 rfl (by kernel_rfl) ?_) | (go_at_call 54; refine (Hcb.out _).mono ?_; rintro e v1 ⟨rfl, hx1⟩; have hr1 := hx1.heap Hr0.out; obtain ⟨z0, z1⟩ := (Ext.refl v1).box hr1; have hrl := heap_lt hr1))
    refine bodyPost_ret (results_cell_tmp (P := Try.prog) (fn := Try.f17) rfl _ _ (w.heap.size + 1) 23 #[.int .i64 0, .int .i64 0] (0, 0) _ rfl (set2_box hr1 _ _) Try.underlying23 rfl (by kernel_rfl)) rfl ?_
    exact Hf.out _ (set2_ext (Hx0.out.trans hx1) (by omega) _ _)
  obtain rfl : K = 0 := by omega
  have hdf := Hdef.out
  rw [if_neg (by simp)] at hdf
  have hkB : ((0 : Int) != 0) = false := by decide
  have hbo := Hbz.out rfl
  clear Hbz
  by_cases h30 : 30 < n
  · rw [if_pos h30] at hdf
    have hnB : decide (30 < (n : Int)) = true := by simp; omega
    have hf := Hfin.out 0 0 4 hdf
    have Hf := Lib.hid hf
    have Hbo := Lib.hid hbo
    clear hf hbo
    clear h30 hdf
    go_enter Try.func17, Try.ntmps17
    go_wp2_with (first | (refine wpList_load_row rfl 25 (.tmp 2) rfl w.heap.size rfl 25 _ (0, 0) _ Hb1.out Try.underlying25 rfl (by kernel_rfl) ?_) | (go_at_call 54; refine (Hcb.out _).mono ?_; rintro e v1 ⟨rfl, hx1⟩; have hr1 := hx1.heap Hr0.out; obtain ⟨z0, z1⟩ := (Ext.refl v1).box hr1; have hrl := heap_lt hr1))
    refine bodyPost_ret (results_cell_tmp (P := Try.prog) (fn := Try.f17) rfl _ _ (w.heap.size + 1) 23 #[.int .i64 0, .int .i64 0] (0, 0) _ rfl (set2_box hr1 _ _) Try.underlying23 rfl (by kernel_rfl)) rfl ?_
    exact Hf.out _ (set2_ext (Hx0.out.trans hx1) (by omega) _ _)
  rw [if_neg h30] at hdf
  have hnB : decide (30 < (n : Int)) = false := by simp; omega
  have hn30 : n ≤ 30 := by omega
  have Hdf := Lib.hid hdf
  have Hbo := Lib.hid hbo
  clear hdf hbo
  clear h30
  go_enter Try.func17, Try.ntmps17
  go_upto_region 7 with (first | (refine wpList_load_row rfl 25 (.tmp 2) rfl w.heap.size rfl 25 _ (0, 0) _ Hb1.out Try.underlying25 rfl (by kernel_rfl) ?_) | (go_at_call 54; refine (Hcb.out _).mono ?_; rintro e v1 ⟨rfl, hx1⟩))
  have hD0 : ThIn w S v1.heap.size ⟨0, 0⟩ (v1.alloc (.cells #[.int .i64 0, .int .i64 0] 23)) := ⟨(Hx0.out.trans hx1).alloc _, alloc_heap (hx1.heap Hb0.out) _, alloc_heap (hx1.heap Hr0.out) _, heap_alloc_new v1 _, heap_lt (hx1.heap Hr0.out)⟩
  generalize v1.alloc (.cells #[.int .i64 0, .int .i64 0] 23) = W1 at *
  generalize v1.heap.size = p7 at *
  have HD0 := Lib.hid hD0
  clear hD0
  clear hx1 Hb0 Hb1 Hr0 Hx0 hW0 Hcb
  go_wp2_with fail
  go_loopw [23] (fun i wr => ∃ (k : Nat) (A : Span), i = .int .i64 k ∧ k ≤ n ∧ ThIn w S p7 A wr ∧ 0 ≤ A.lo ∧ A.lo ≤ A.hi ∧ A.hi ≤ k * 1000000 ∧ thirstOf S A (l.drop k) = thirstOf S ⟨0, 0⟩ l) (fun i _ => n - (intOf i).toNat)
  case atStart => exact ⟨0, ⟨0, 0⟩, rfl, by omega, HD0.out, by simp, by simp, by simp, rfl⟩
  case round =>
    clear HD0
    obtain ⟨k, A, rfl, hk, hD, hA0, hA1, hA2, hth⟩ := hrel
    by_cases hlt : k < n
    · have hltB : decide ((k : Int) < (n : Int)) = true := by simp; omega
      obtain ⟨b, off, x, rfl, hxk, hb, c0, c1, c2, c3, c4, c5, c6⟩ := (Hl.out.ext hD.ext).get k hlt
      rw [thirst_step hxk] at hth
      have hcx := fun W => Hcc.out x W
      have hce : camelErr S x = if breedOk S then (if camelOk S x then 0 else 11) else 10 := rfl
      rw [if_pos (show breedOk S = true from by
        cases hq : breedOk S
        · have hbz2 := Hz10.out
          rw [hq] at hbz2
          cases hbz2
        · rfl)] at hce
      obtain ⟨C, hC⟩ : ∃ C, camelOk S x = C := ⟨_, rfl⟩
      have hcw := fun (h : C = true) => (camelIs.1 (hC.trans h)).water
      rw [hC] at hth hce
      rw [hce] at hcx
      obtain ⟨⟨w0, w1⟩, ⟨k0, k1⟩, ⟨o0, o1⟩, mk⟩ := x
      unfold Camel.cells at hcx
      simp only at hcx c0 c1 c2 c3 c4 c5 c6 hcw
      have hx5 := (Ext.refl wr).alloc (.cells #[.int .i64 w0, .int .i64 w1, .int .i64 k0, .int .i64 k1, .int .i64 o0, .int .i64 o1, .bool mk] 27)
      have hD5 := hD.next hx5
      have hbx := heap_alloc_new wr (.cells #[.int .i64 w0, .int .i64 w1, .int .i64 k0, .int .i64 k1, .int .i64 o0, .int .i64 o1, .bool mk] 27)
      have hbr := hD5.br
      have hm7 := hD5.m7
      have h7l := heap_lt hD.su
      have Hcx := Lib.hid hcx
      have HD5 := Lib.hid hD5
      have Hbx := Lib.hid hbx
      have Hbr := Lib.hid hbr
      have Hcw := Lib.hid hcw
      have Hx5 := Lib.hid hx5
      clear hcx hD5 hbx hbr hcw hx5
      clear hC hD hxk hce
      cases C
      · rw [if_neg (by decide)] at hth
        have hdf := Hdf.out
        rw [← hth] at hdf
        have hf := Hfin.out 0 0 11 hdf
        have Hf := Lib.hid hf
        clear hf
        clear hth hdf Hcw Hdf Hdef
        go_wp2_with (first | (refine wpList_load_row rfl 25 (.tmp 2) rfl w.heap.size rfl 25 _ (0, 0) _ Hbr.out Try.underlying25 rfl (by kernel_rfl) ?_) | (refine wpList_load_row rfl 27 (.tmp 9) rfl wr.heap.size rfl 27 _ (0, 0) _ Hbx.out Try.underlying27 rfl (by kernel_rfl) ?_) | (go_at_call 55; refine (Hcx.out _).mono ?_; rintro e v6 ⟨rfl, hx6⟩; have hD6 := HD5.out.next hx6; have hr6 := hD6.rs; have he6 := hD6.ext; obtain ⟨y0, y1⟩ := (Ext.refl v6).box hr6; have hrl := heap_lt hr6; clear hD6))
        refine bodyPost_ret (results_cell_tmp (P := Try.prog) (fn := Try.f17) rfl _ _ (w.heap.size + 1) 23 #[.int .i64 0, .int .i64 0] (0, 0) _ rfl (set2_box hr6 _ _) Try.underlying23 rfl (by kernel_rfl)) rfl ?_
        exact Hf.out _ (set2_ext he6 (by omega) _ _)
      · rw [if_pos rfl] at hth
        have hw := Hcw.out rfl
        have hw0 := hw.low
        have hw1 := hw.ord
        have hw2 := hw.top
        have hfb := Hbo.out.full
        simp only at hw0 hw1 hw2
        have Hth := Lib.hid hth
        clear hth
        clear hw Hcw Hdf Hdef
        go_upto_region 13 with (first | (refine wpList_load_row rfl 25 (.tmp 2) rfl w.heap.size rfl 25 _ (0, 0) _ Hbr.out Try.underlying25 rfl (by kernel_rfl) ?_) | (refine wpList_load_row rfl 27 (.tmp 9) rfl wr.heap.size rfl 27 _ (0, 0) _ Hbx.out Try.underlying27 rfl (by kernel_rfl) ?_) | (go_at_call 55; refine (Hcx.out _).mono ?_; rintro e v6 ⟨rfl, hx6⟩; have hD6 := HD5.out.next hx6; have hbx6 := hx6.heap Hbx.out))
        have hsu6 := hD6.su
        have hfc6 : v6.cell? ⟨w.heap.size, 0, none⟩ = some (.int .i64 S.full) := ((Ext.refl v6).box hD6.br).1 0
        generalize wr.heap.size = px at *
        have hth' : thirstOf S ⟨A.lo + (S.full - w1), A.hi + (S.full - w0)⟩ (List.drop (k + 1) l) = thirstOf S ⟨0, 0⟩ l := Hth.out
        obtain ⟨A0, A1⟩ := A
        simp only at hA0 hA1 hA2 hsu6 hth'
        have hre := fun W => rest_any S.full ⟨w0, w1⟩ W (by omega) (by simp only; omega) (by simp only; omega)
        unfold Span.val at hre
        simp only at hre
        obtain ⟨R0, hR0⟩ : ∃ R, S.full - w1 = R := ⟨_, rfl⟩
        obtain ⟨R1, hR1⟩ : ∃ R, S.full - w0 = R := ⟨_, rfl⟩
        have hR2 : 0 ≤ R0 ∧ R0 ≤ R1 ∧ R1 ≤ 1000000 := by omega
        rw [hR0, hR1] at hre hth'
        have hpl := fun W b h => @plus2 A0 A1 R0 R1 W b h (by omega) (by omega) (by omega) (by omega)
        have HD6 := Lib.hid hD6
        have Hbx6 := Lib.hid hbx6
        have Hsu6 := Lib.hid hsu6
        have Hfc6 := Lib.hid hfc6
        have Hre := Lib.hid hre
        have Hpl := Lib.hid hpl
        have Hth' := Lib.hid hth'
        clear hD6 hbx6 hsu6 hfc6 hre hpl hth'
        clear hx6 HD5 Hbx Hbr Hcx Hx5 Hth hR0 hR1 c0 c1 c2 c3 c4 c5 c6
        refine wp_region_flow (.take [0, 1, 2, 3, 4] (.flow [5, 6, 7] [39, 40, 41] [[], [0], [1]] (.one 8 .done))) [8] (Ext v6) _ (by kernel_rfl) (by kernel_rfl) rfl (EC.ext v6) ((Ext.refl _).drew) ?_
        simp only [flowOf, treeOf, oneOp, twoOp, opsOf, consOp, callOF, List.getElem?_toArray, List.getElem?_cons_succ, List.getElem?_cons_zero]
        intro ι _ f hf
        have f0 := fun q => ((hf q).box Hsu6.out).1
        have f1 := fun q => (hf q).cell Hfc6.out
        have f2 := fun q => ((hf q).box Hbx6.out).1
        clear hf
        repeat (go_big_quiet_step (fail))
        refine wpQuiet_nil ?_
        clear f0 f1 f2
        refine wpOF_flow [IsV (.agg #[.int .i64 R0, .int .i64 R1]), IsSl 23 2 #[.int .i64 A0, .int .i64 A1, .int .i64 R0, .int .i64 R1], IsV (.agg #[.int .i64 (A0 + R0), .int .i64 (A1 + R1)])] rfl ⟨isV_ec (.agg #[.int .i64 R0, .int .i64 R1]), isSl_ec 23 2 #[.int .i64 A0, .int .i64 A1, .int .i64 R0, .int .i64 R1], isV_ec (.agg #[.int .i64 (A0 + R0), .int .i64 (A1 + R1)]), trivial⟩ (flowSteps_cons ?_ (flowSteps_cons ?_ (flowSteps_cons ?_ flowSteps_nil))) ?_
        · intro xs W hlen hS hn
          obtain ⟨x0, x1, x2, rfl⟩ := len3 hlen
          simp only [puts, Act.put, List.setIfInBounds_toArray, List.set_cons_succ, List.set_cons_zero]
          go_wp2_with (go_at_call 57; refine (Hre.out _).mono ?_; rintro e W5 ⟨rfl, hx5⟩)
          exact FlowPost.mk (.agg #[.int .i64 R0, .int .i64 R1]) rfl hx5 rfl
        · intro xs W hlen hS hn
          obtain ⟨x0, x1, x2, rfl⟩ := len3 hlen
          simp only [puts, Act.put, List.setIfInBounds_toArray, List.set_cons_succ, List.set_cons_zero]
          obtain rfl : x0 = .agg #[.int .i64 R0, .int .i64 R1] := hn.1
          go_wp2_with fail
          exact FlowPost.mk (.slice (some ⟨W.heap.size, 0, none⟩) 2 2) rfl ((Ext.refl _).alloc _) IsSl.new
        · intro xs W hlen hS hn
          obtain ⟨x0, x1, x2, rfl⟩ := len3 hlen
          simp only [puts, Act.put, List.setIfInBounds_toArray, List.set_cons_succ, List.set_cons_zero]
          obtain ⟨b, rfl, hbs⟩ : IsSl 23 2 #[.int .i64 A0, .int .i64 A1, .int .i64 R0, .int .i64 R1] x1 W := hn.1
          go_wp2_with (go_at_call 56; refine (Hpl.out W b hbs).mono ?_; rintro e W5 ⟨rfl, hx5⟩)
          exact FlowPost.mk (.agg #[.int .i64 (A0 + R0), .int .i64 (A1 + R1)]) rfl hx5 rfl
        intro xs W hlen hS hn
        obtain ⟨x0, x1, x2, rfl⟩ := len3 hlen
        simp only [puts, Act.put, List.setIfInBounds_toArray, List.set_cons_succ, List.set_cons_zero]
        obtain ⟨-, -, rfl, -⟩ := hn
        have hD8 := HD6.out.next hS
        have h7 := hD8.su
        simp only at h7
        obtain ⟨y0, y1⟩ := (Ext.refl W).box h7
        have h7l := heap_lt h7
        have hD9 := hD8.put (A0 + R0) (A1 + R1)
        have HD9 := Lib.hid hD9
        clear hD9
        clear hD8 h7 hS
        refine wpOT_one ?_
        go_wp2_with fail
        refine wpOT_done ?_
        clear y0 y1
        go_wp2_with fail
        go_roundw
        case rel => exact ⟨k + 1, ⟨A0 + R0, A1 + R1⟩, by go_num, by omega, HD9.out, by simp only; omega, by simp only; omega, by simp only; omega, Hth'.out⟩
        case measure => simp [intOf]; omega
    · have hltB : decide ((k : Int) < (n : Int)) = false := by simp; omega
      obtain rfl : k = n := by omega
      rw [List.drop_of_length_le (by omega)] at hth
      have hdf := Hdf.out
      rw [← hth] at hdf
      obtain ⟨A0, A1⟩ := A
      have hf := Hfin.out A0 A1 0 hdf
      have hrs := hD.rs
      have hsu := hD.su
      have hex := hD.ext
      have hm7 := hD.m7
      have hrl := heap_lt hrs
      simp only at hsu
      obtain ⟨y0, y1⟩ := (Ext.refl wr).box hrs
      obtain ⟨y2, _⟩ := (Ext.refl wr).box hsu
      have Hf := Lib.hid hf
      have Hrs := Lib.hid hrs
      have Hex := Lib.hid hex
      have Hsu := Lib.hid hsu
      clear hf hrs hex hsu
      clear hth hdf hD hlt hA0 hA1 hA2
      go_wp2_with fail
      refine bodyPost_ret (results_cell_tmp (P := Try.prog) (fn := Try.f17) rfl _ _ (w.heap.size + 1) 23 #[.int .i64 A0, .int .i64 A1] (0, 0) _ rfl (set2_box Hrs.out _ _) Try.underlying23 rfl (by kernel_rfl)) rfl ?_
      exact Hf.out _ (set2_ext Hex.out (by omega) _ _)
end Go.Proofs.Ytcoelhpmkhimpaa

namespace Go.Proofs.Ytcoelhpmkhimpaa
open Go.RowKit
set_option linter.unusedVariables false
set_option linter.unusedSimpArgs false
theorem ask_draws {l : Land} {e d : Int} {ds : List Draw} (hl : landOk l = true) (hw : 0 ≤ e ∧ e < l.wells.length) (hd : 0 ≤ d ∧ d ≤ 100000) (hn : ds.length ≤ 200) (hk : drawsOk l.wells.length 0 ds = true) : waterAsk l e ds d = 0 := by
  unfold waterAsk
  rw [hl, if_neg (by simp), if_neg (by unfold inB; simp; omega), if_neg (by omega), hk, if_neg (by simp)]
theorem later_law {l : Land} {e lo on T : Int} (hl : landOk l = true) (hw : 0 ≤ e ∧ e < l.wells.length) (h0 : 0 ≤ lo) (h1 : lo ≤ on) (h2 : on ≤ 100000) (hT : 0 ≤ T) :
    ∃ a0 a1 b0 b1, waterAt l e [] lo = (⟨a0, a1⟩, 0, 0) ∧ waterAt l e [] on = (⟨b0, b1⟩, 0, 0) ∧ a0 ≤ b0 ∧ a1 ≤ b1 ∧ 0 ≤ a0 ∧ a0 ≤ a1 ∧ b0 ≤ b1 ∧ b1 ≤ 1000000000 ∧
      (T ≤ a0 → ∃ c0 c1, waterAt l e [⟨e, on, T⟩] (min (on + 1) 100000) = (⟨c0, c1⟩, 0, 0) ∧ 0 ≤ c0 ∧ c0 ≤ 1000000000 ∧ (on < 100000 → b0 - T ≤ c0)) := by
  obtain ⟨X, hX⟩ : ∃ X, l.wells.getD e.toNat zw = X := ⟨_, rfl⟩
  have hm : X ∈ l.wells := by
    rw [← hX, List.getD_eq_getElem?_getD, List.getElem?_eq_getElem (show e.toNat < l.wells.length by omega)]
    exact List.getElem_mem _
  have hlw := hl
  simp only [landOk, Bool.and_eq_true] at hlw
  have hok := wellIs (List.all_eq_true.1 hlw.1.2 X hm)
  have nil : ∀ d, 0 ≤ d → d ≤ 100000 → waterAt l e [] d = (filledOf X X.has (d - 1 - -1), 0, 0) := fun d d0 d1 => by
    unfold waterAt
    rw [if_neg (by rw [ask_draws hl hw ⟨d0, d1⟩ (by simp) rfl]; simp), hX]
    rfl
  have ha := filled_is hok hok.has (d := lo - 1 - -1) (by omega)
  have hb := filled_is hok hok.has (d := on - 1 - -1) (by omega)
  have hab := filled_mono hok (h := X.has) (d := lo - 1 - -1) (e := on - 1 - -1) (by omega) (by omega)
  have hr := hok.room
  refine ⟨(filledOf X X.has (lo - 1 - -1)).lo, (filledOf X X.has (lo - 1 - -1)).hi, (filledOf X X.has (on - 1 - -1)).lo, (filledOf X X.has (on - 1 - -1)).hi, nil lo h0 (by omega), nil on (by omega) h2, hab.1, hab.2, ha.low, ha.ord, hb.ord, by have := hb.top; omega, fun hTa => ?_⟩
  have hTb : T ≤ 1000000000 := by have := ha.top; have := ha.ord; omega
  have hk : drawsOk l.wells.length 0 [⟨e, on, T⟩] = true := by
    unfold drawsOk drawsOk inB
    simp
    omega
  have hask := ask_draws (d := min (on + 1) 100000) hl hw ⟨by omega, by omega⟩ (show [(⟨e, on, T⟩ : Draw)].length ≤ 200 by simp) hk
  have hval : waterAt l e [⟨e, on, T⟩] (min (on + 1) 100000) = match drawnOf X e (min (on + 1) 100000) X.has (-1) [⟨e, on, T⟩] with
      | .error k => (⟨0, 0⟩, (k : Int), 33)
      | .ok r => (filledOf X r.1 (min (on + 1) 100000 - 1 - r.2), 0, 0) := by
    unfold waterAt
    rw [if_neg (by rw [hask]; simp), hX]
    rfl
  by_cases hlt : on < 100000
  · have hc := filled_is hok hok.has (d := on - -1) (by omega)
    have hbc := filled_mono hok (h := X.has) (d := on - 1 - -1) (e := on - -1) (by omega) (by omega)
    have hd : drawnOf X e (min (on + 1) 100000) X.has (-1) [⟨e, on, T⟩] = .ok (⟨max 0 ((filledOf X X.has (on - -1)).lo - T), (filledOf X X.has (on - -1)).hi - T⟩, on) := by
      unfold drawnOf
      rw [if_neg (by simp; omega), if_neg (by simp only; have := hab.1; have := hbc.1; have := hc.ord; omega)]
      rfl
    rw [hval, hd]
    simp only
    rw [show min (on + 1) 100000 - 1 - on = 0 by omega, filled_zero (w := X) (h := ⟨max 0 ((filledOf X X.has (on - -1)).lo - T), (filledOf X X.has (on - -1)).hi - T⟩) ⟨by simp only; omega, by simp only; have := hab.1; have := hbc.1; have := hc.ord; omega, by simp only; have := hc.top; omega⟩]
    refine ⟨_, _, rfl, by omega, ?_, fun _ => ?_⟩
    · have := hc.top
      have := hc.ord
      omega
    · have := hbc.1
      omega
  · have hd : drawnOf X e (min (on + 1) 100000) X.has (-1) [⟨e, on, T⟩] = .ok (X.has, -1) := by
      unfold drawnOf
      rw [if_pos (by simp; omega)]
      rfl
    have hc := filled_is hok hok.has (d := min (on + 1) 100000 - 1 - -1) (by omega)
    rw [hval, hd]
    simp only
    refine ⟨_, _, rfl, hc.low, ?_, fun h => absurd h hlt⟩
    have := hc.top
    have := hc.ord
    omega
theorem oneOf_any (lo hi n : Int) (w : World) (h0 : 0 ≤ lo) (h1 : lo ≤ hi) (h2 : hi ≤ 100000) (hn : 0 ≤ n ∧ n ≤ 4294967295) : Calls Try.prog 18 #[.agg #[.int .i64 lo, .int .i64 hi], .int .u32 n] w fun e w' => ∃ v, e = .returned (.int .i64 v) ∧ lo ≤ v ∧ v ≤ hi ∧ Ext w w' := by
  have hx0 : Ext w (w.alloc (.cells #[.int .i64 lo, .int .i64 hi] 23)) := (Ext.refl w).alloc _
  have hb0 := heap_alloc_new w (.cells #[.int .i64 lo, .int .i64 hi] 23)
  obtain ⟨W0, hW0⟩ : ∃ W0, w.alloc (.cells #[.int .i64 lo, .int .i64 hi] 23) = W0 := ⟨_, rfl⟩
  rw [hW0] at hx0 hb0
  obtain ⟨R, hR⟩ : ∃ R, n.tmod (hi - lo + 1) = R := ⟨_, rfl⟩
  have hR0 : 0 ≤ R ∧ R ≤ hi - lo := by
    rw [← hR, Int.tmod_eq_emod_of_nonneg hn.1]
    have := Int.emod_nonneg n (show hi - lo + 1 ≠ 0 by omega)
    have := Int.emod_lt_of_pos n (show 0 < hi - lo + 1 by omega)
    omega
  have hnz : (hi - lo + 1 == 0) = false := by simp; omega
  have hnz' : hi - lo + 1 ≠ 0 := by omega
  have Hx0 := Lib.hid hx0
  have Hb0 := Lib.hid hb0
  clear hx0 hb0
  go_enter Try.func18, Try.ntmps18
  go_upto_region 1 with fail
  refine wp_region_ext (by kernel_rfl) (by kernel_rfl) (fun f hf hs => ?_)
  have f0 := fun q => ((hf q).box Hb0.out).1
  clear hf hs
  repeat (go_big_quiet_step (fail))
  refine wpQuiet_nil ?_
  intro W1 hW1
  clear f0
  go_wp2_with fail
  go_ret
  exact ⟨_, rfl, by omega, by omega, Hx0.out.trans hW1⟩
end Go.Proofs.Ytcoelhpmkhimpaa

namespace Go.Proofs.Ytcoelhpmkhimpaa
open Go.RowKit
set_option linter.unusedVariables false
set_option linter.unusedSimpArgs false
theorem draws_none (W : World) : DrawsAt W none 0 [] := ⟨rfl, fun h => absurd h (Nat.lt_irrefl _)⟩
theorem wrap_u32 (n : Int) : 0 ≤ IntKind.u32.wrap n ∧ IntKind.u32.wrap n ≤ 4294967295 := by
  have e : IntKind.u32.wrap n = n % 4294967296 := by
    unfold IntKind.wrap
    simp [IntKind.signed, IntKind.bits]
  rw [e]
  omega
theorem draws_one {W : World} {b : Nat} {t : TypeId} {x y z : Int} (hb : W.heap[b]? = some (.cells #[.int .i64 x, .int .i64 y, .int .i64 z] t (0, 0))) : DrawsAt W (some ⟨b, 0, none⟩) 1 [⟨x, y, z⟩] := by
  refine ⟨rfl, fun _ => ⟨b, 0, rfl, fun k hk j v hv => ?_⟩⟩
  obtain rfl : k = 0 := by omega
  rw [((Ext.refl W).box hb).1]
  simpa [Draw.cells] using hv
set_option maxRecDepth 100000 in
set_option maxHeartbeats 8000000 in
theorem laterTail {w W2 : World} (l : Land) (bt T0 T1 : Int) {wa la sa : Option Addr} {wn wc ln lc gn sc p21 : Nat} {p : Span} (ss : List Stop)
    (hx : Ext w W2) (hl : W2.heap[w.heap.size]? = some (.cells #[.slice wa wn wc, .slice la ln lc] 33 (0, 0))) (ht : W2.heap[p21]? = some (.cells #[.int .i64 T0, .int .i64 T1] 23 (0, 0)))
    (hL : ∀ W, Ext w W → LandAt W wa wn wc la ln lc l) (hst : StopsAt W2 sa gn ss) (hsc : gn ≤ sc) (hsm : sc ≤ maxLen) (hgn : gn ≤ 24) (hlo : landOk l = true) (hS : ∀ x ∈ ss, StopOk l p x) (hT : 0 ≤ T1 ∧ T1 ≤ 30000000) (hbt : 0 ≤ bt ∧ bt ≤ 4294967295)
    {u0 u1 u2 u3 u4 u5 u6 u9 u10 u12 u13 u14 u15 u16 u19 u20 u22 u23 u24 u25 u26 u27 u28 u29 u30 u31 u32 u33 u34 u35 u36 u37 u38 u39 u40 u41 u42 u43 u44 u45 u46 u47 u48 u49 u50 u51 u52 u53 u54 u55 u56 u57 u58 u59 u60 u61 u62 u63 u64 u65 u66 u67 u68 u69 u70 u71 u72 u73 u74 u75 u76 u77 u78 u79 u80 u81 u82 u83 u84 u85 u86 u87 u88 u89 u90 u91 u92 u93 u94 u95 u96 u97 u98 u99 u100 u101 u102 u103 u104 u105 u106 u107 u108 u109 u110 u111 u112 u113 u114 u115 u116 u117 u118 u119 u120 u121 u122 u123 u124 u125 u126 u127 u128 u129 u130 u131 u132 u133 u134 u135 u136 u137 u138 u139 u140 u141 u142 u143 u144 u145 u146 u147 u148 u149 u150 u151 u152 u153 u154 u155 u156 u157 u158 u159 u160 u161 u162 u163 u164 u165 u166 u167 u168 u169 u170 u171 u172 u173 u174 u175 u176 u177 u178 u179 u180 u181 u182 u183 u184 u185 u186 u187 u188 u189 u190 u191 u192 : Value} :
    (restFrom Try.f4 10).wp Try.prog (bodyPost Try.prog Try.f4 fun e w' => e = .returned (.bool true) ∧ Ext w w')
      ⟨#[u0, u1, u2, u3, u4, u5, u6, .int .u32 bt, .pointer (some ⟨w.heap.size, 0, none⟩), u9, u10, .pointer (some ⟨w.heap.size + 1, 0, none⟩), u12, u13, u14, u15, u16, .bool true, .slice sa gn sc, u19, u20, .pointer (some ⟨p21, 0, none⟩), u22, u23, u24, u25, u26, u27, u28, u29, u30, u31, u32, u33, u34, u35, u36, u37, u38, u39, u40, u41, u42, u43, u44, u45, u46, u47, u48, u49, u50, u51, u52, u53, u54, u55, u56, u57, u58, u59, u60, u61, u62, u63, u64, u65, u66, u67, u68, u69, u70, u71, u72, u73, u74, u75, u76, u77, u78, u79, u80, u81, u82, u83, u84, u85, u86, u87, u88, u89, u90, u91, u92, u93, u94, u95, u96, u97, u98, u99, u100, u101, u102, u103, u104, u105, u106, u107, u108, u109, u110, u111, u112, u113, u114, u115, u116, u117, u118, u119, u120, u121, u122, u123, u124, u125, u126, u127, u128, u129, u130, u131, u132, u133, u134, u135, u136, u137, u138, u139, u140, u141, u142, u143, u144, u145, u146, u147, u148, u149, u150, u151, u152, u153, u154, u155, u156, u157, u158, u159, u160, u161, u162, u163, u164, u165, u166, u167, u168, u169, u170, u171, u172, u173, u174, u175, u176, u177, u178, u179, u180, u181, u182, u183, u184, u185, u186, u187, u188, u189, u190, u191, u192], []⟩ W2 := by
  have hwt := fun W (hW : Ext w W) (e d : Int) (da : Option Addr) (dn : Nat) (ds : List Draw) (hd : DrawsAt W da dn ds) (hn : dn ≤ maxLen) => water_any wa wn wc la ln lc l e d da dn dn ds W (hL W hW) hd (Nat.le_refl _) hn
  unfold WaterPost waterVal at hwt
  unfold maxLen at hsm
  have Hx := Lib.hid hx
  have Hl := Lib.hid hl
  have Ht := Lib.hid ht
  have HL := Lib.hid hL
  have Hst := Lib.hid hst
  have Hlo := Lib.hid hlo
  have HS := Lib.hid hS
  have Hwt := Lib.hid hwt
  clear hx hl ht hL hst hlo hS hwt
  conv => arg 2; whnf
  go_wp2_with fail
  go_loopw [76] (fun i wr => ∃ (k : Nat), i = .int .i64 k ∧ k ≤ gn ∧ Ext W2 wr) (fun i _ => gn - (intOf i).toNat)
  case atStart => exact ⟨0, rfl, by omega, Ext.refl _⟩
  case round =>
    obtain ⟨k, rfl, hk, hxw⟩ := hrel
    by_cases hlt : k < gn
    · have hltB : decide ((k : Int) < (gn : Int)) = true := by simp; omega
      obtain ⟨sb, so, x, rfl, hxk, hsb, c0, c1, c2, c3, c4, c5⟩ := (Hst.out.ext hxw).get k hlt
      have hSx := HS.out x (List.mem_of_getElem? hxk)
      have hz0 := hSx.zero
      have hz1 := hSx.ord
      have hz2 := hSx.top
      have hwe := hSx.well
      obtain ⟨g, e, ⟨l0, l1⟩, ⟨a0, a1⟩⟩ := x
      simp only at hz0 hz1 hz2 hwe c0 c1 c2 c3 c4 c5
      have hk24 : k ≤ 24 := by omega
      have hl1 := hxw.heap Hl.out
      have ht1 := hxw.heap Ht.out
      have hx1 := Hx.out.trans hxw
      have Hl1 := Lib.hid hl1
      have Ht1 := Lib.hid ht1
      have Hx1 := Lib.hid hx1
      have Hxw := Lib.hid hxw
      clear hl1 ht1 hx1 hxw
      clear hSx hxk
      go_upto_region 13 with fail
      have hv1 := (Ext.refl wr).alloc (.cells #[.int .i64 g, .int .i64 e, .int .i64 l0, .int .i64 l1, .int .i64 a0, .int .i64 a1] 44)
      have hp24 := heap_alloc_new wr (.cells #[.int .i64 g, .int .i64 e, .int .i64 l0, .int .i64 l1, .int .i64 a0, .int .i64 a1] 44)
      generalize wr.alloc (.cells #[.int .i64 g, .int .i64 e, .int .i64 l0, .int .i64 l1, .int .i64 a0, .int .i64 a1] 44) = V1 at *
      generalize wr.heap.size = p24 at *
      have hl2 := hv1.heap Hl1.out
      have ht2 := hv1.heap Ht1.out
      have hx2 := Hx1.out.trans hv1
      obtain ⟨z24, _⟩ := (Ext.refl V1).box hp24
      have ha0B : decide (a0 < 0) = false := by simp; omega
      have ha1B : decide (a1 < a0) = false := by simp; omega
      have ha2B : decide (100000 < a1) = false := by simp; omega
      have hxv := Hxw.out.trans hv1
      have Hp24 := Lib.hid hp24
      have Hl2 := Lib.hid hl2
      have Ht2 := Lib.hid ht2
      have Hx2 := Lib.hid hx2
      have Hxv := Lib.hid hxv
      clear hp24 hl2 ht2 hx2 hxv
      clear Hl1 Ht1 Hx1 Hxw hv1 c0 c1 c2 c3 c4 c5
      go_upto_region 16 with (go_at_call 18; refine (oneOf_any a0 a1 _ _ hz0 hz1 hz2 (by first | exact wrap_u32 _ | (constructor <;> omega))).mono ?_; rintro er v3 ⟨on, rfl, ho0, ho1, hx3⟩)
      obtain ⟨A0, A1, B0, B1, hA, hB, hq0, hq1, hq2, hq3, hq4, hq5, hq6⟩ := later_law (T := T1) Hlo.out hwe hz0 ho0 (show on ≤ 100000 by omega) hT.1
      have hwA := fun W hW => Hwt.out W hW e a0 none 0 [] (draws_none W) (by decide)
      have hwB := fun W hW => Hwt.out W hW e on none 0 [] (draws_none W) (by decide)
      rw [hA] at hwA
      rw [hB] at hwB
      simp only at hwA hwB
      have hl3 := hx3.heap Hl2.out
      have ht3 := hx3.heap Ht2.out
      have hp3 := hx3.heap Hp24.out
      have hx4 := Hx2.out.trans hx3
      have hxv3 := Hxv.out.trans hx3
      obtain ⟨z24', _⟩ := (Ext.refl v3).box hp3
      have Hl3 := Lib.hid hl3
      have Ht3 := Lib.hid ht3
      have Hp3 := Lib.hid hp3
      have Hx4 := Lib.hid hx4
      have HwA := Lib.hid hwA
      have HwB := Lib.hid hwB
      have Hxv3 := Lib.hid hxv3
      clear hl3 ht3 hp3 hx4 hwA hwB hxv3
      clear z24 Hl2 Ht2 Hp24 Hx2 hx3 hA hB Hxv
      go_upto_region 17 with (first | (refine wpList_load_row rfl 33 (.tmp 8) rfl w.heap.size rfl 33 _ (0, 0) _ Hl3.out Try.underlying33 rfl (by kernel_rfl) ?_) | (go_at_call 19; refine (HwA.out _ Hx4.out).mono ?_; rintro er v5 ⟨rfl, hx5⟩))
      have hv5 := hx5.alloc (.cells #[.int .i64 A0, .int .i64 A1] 23)
      have hp26 := heap_alloc_new v5 (.cells #[.int .i64 A0, .int .i64 A1] 23)
      generalize v5.alloc (.cells #[.int .i64 A0, .int .i64 A1] 23) = V5 at *
      generalize v5.heap.size = p26 at *
      have hl5 := hv5.heap Hl3.out
      have ht5 := hv5.heap Ht3.out
      have hp5 := hv5.heap Hp3.out
      have hx6 := Hx4.out.trans hv5
      have hxv5 := Hxv3.out.trans hv5
      obtain ⟨z24, _⟩ := (Ext.refl V5).box hp5
      have Hl5 := Lib.hid hl5
      have Ht5 := Lib.hid ht5
      have Hp5 := Lib.hid hp5
      have Hx6 := Lib.hid hx6
      have Hp26 := Lib.hid hp26
      have Hxv5 := Lib.hid hxv5
      clear hl5 ht5 hp5 hx6 hp26 hxv5
      clear z24' Hl3 Ht3 Hp3 Hx4 hx5 hv5 Hxv3
      go_upto_region 18 with (first | (refine wpList_load_row rfl 33 (.tmp 8) rfl w.heap.size rfl 33 _ (0, 0) _ Hl5.out Try.underlying33 rfl (by kernel_rfl) ?_) | (go_at_call 19; refine (HwB.out _ Hx6.out).mono ?_; rintro er v7 ⟨rfl, hx7⟩))
      have hv7 := hx7.alloc (.cells #[.int .i64 B0, .int .i64 B1] 23)
      have hp29 := heap_alloc_new v7 (.cells #[.int .i64 B0, .int .i64 B1] 23)
      generalize v7.alloc (.cells #[.int .i64 B0, .int .i64 B1] 23) = V7 at *
      generalize v7.heap.size = p29 at *
      have hl7 := hv7.heap Hl5.out
      have ht7 := hv7.heap Ht5.out
      have hp7 := hv7.heap Hp5.out
      have hq26 := hv7.heap Hp26.out
      have hx8 := Hx6.out.trans hv7
      have hxv7 := Hxv5.out.trans hv7
      obtain ⟨y24, _⟩ := (Ext.refl V7).box hp7
      obtain ⟨y26, _⟩ := (Ext.refl V7).box hq26
      obtain ⟨y29, _⟩ := (Ext.refl V7).box hp29
      obtain ⟨y21, _⟩ := (Ext.refl V7).box ht7
      have hb0B : decide (B0 < A0) = false := by simp; omega
      have hb1B : decide (B1 < A1) = false := by simp; omega
      have Hl7 := Lib.hid hl7
      have Ht7 := Lib.hid ht7
      have Hp7 := Lib.hid hp7
      have Hq26 := Lib.hid hq26
      have Hx8 := Lib.hid hx8
      have Hp29 := Lib.hid hp29
      have Hxv7 := Lib.hid hxv7
      clear hl7 ht7 hp7 hq26 hx8 hp29 hxv7
      clear z24 Hl5 Ht5 Hp5 Hx6 hx7 hv7 Hxv5 Hp26
      go_upto_region 20 with fail
      by_cases hTA : A0 < T1
      · have hTB : decide (A0 < T1) = true := decide_eq_true hTA
        clear hq6
        go_wp2_with fail
        go_roundw
        case rel => exact ⟨k + 1, by go_num, by omega, Hxv7.out⟩
        case measure => simp [intOf]; omega
      · have hTB : decide (A0 < T1) = false := decide_eq_false hTA
        obtain ⟨C0, C1, hC, hc0, hc1, hc2⟩ := hq6 (by omega)
        obtain ⟨D, hD⟩ : ∃ D, (if 100000 < on + 1 then 100000 else on + 1) = D := ⟨_, rfl⟩
        have hD2 : (if 100000 ≤ on then 100000 else on + 1) = D := by rw [← hD]; split <;> split <;> omega
        rw [show min (on + 1) 100000 = D by rw [← hD]; split <;> omega] at hC
        have hwC := fun W (hW : Ext w W) b t (hb : W.heap[b]? = some (.cells #[.int .i64 e, .int .i64 on, .int .i64 T1] t (0, 0))) => Hwt.out W hW e D (some ⟨b, 0, none⟩) 1 [⟨e, on, T1⟩] (draws_one hb) (by decide)
        rw [hC] at hwC
        simp only at hwC
        have hc0B : decide (C0 < 0) = false := by simp; omega
        have HwC := Lib.hid hwC
        clear hwC
        clear hC
        go_upto_region 22 with (first | (refine wpList_load_row rfl 33 (.tmp 8) rfl w.heap.size rfl 33 _ (0, 0) _ Hl7.out Try.underlying33 rfl (by kernel_rfl) ?_) | (go_at_call 19; refine (HwC.out _ (Hx8.out.alloc _) _ _ (heap_alloc_new V7 _)).mono ?_; rintro er v9 ⟨rfl, hx9⟩))
        have hv9 := (((Ext.refl V7).alloc (.cells #[.int .i64 e, .int .i64 on, .int .i64 T1] 60)).trans hx9).alloc (.cells #[.int .i64 C0, .int .i64 C1] 23)
        have hp32 := heap_alloc_new v9 (.cells #[.int .i64 C0, .int .i64 C1] 23)
        generalize v9.alloc (.cells #[.int .i64 C0, .int .i64 C1] 23) = V9 at *
        generalize v9.heap.size = p32 at *
        have ht9 := hv9.heap Ht7.out
        have hp9 := hv9.heap Hp29.out
        have hxv9 := Hxv7.out.trans hv9
        clear y24 y26 y29 y21
        obtain ⟨x21, _⟩ := (Ext.refl V9).box ht9
        obtain ⟨x29, _⟩ := (Ext.refl V9).box hp9
        obtain ⟨x32, _⟩ := (Ext.refl V9).box hp32
        have Hxv9 := Lib.hid hxv9
        clear hxv9
        clear hv9 hx9 ht9 hp9 hp32
        by_cases hon : on < 100000
        · have honB : decide (on < 100000) = true := decide_eq_true hon
          have hc2B : decide (C0 < B0 - T1) = false := by have := hc2 hon; simp; omega
          clear hc2
          go_wp2_with fail
          go_roundw
          case rel => exact ⟨k + 1, by go_num, by omega, Hxv9.out⟩
          case measure => simp [intOf]; omega
        · have honB : decide (on < 100000) = false := decide_eq_false hon
          clear hc2
          go_wp2_with fail
          go_roundw
          case rel => exact ⟨k + 1, by go_num, by omega, Hxv9.out⟩
          case measure => simp [intOf]; omega
    · have hltB : decide ((k : Int) < (gn : Int)) = false := by simp; omega
      have hxz := Hx.out.trans hxw
      have Hxz := Lib.hid hxz
      have Hxw := Lib.hid hxw
      clear hxz hxw
      go_wp2_with fail
      go_ret
      exact ⟨rfl, Hxz.out⟩
end Go.Proofs.Ytcoelhpmkhimpaa

namespace Go.Proofs.Ytcoelhpmkhimpaa
open Go.RowKit
set_option linter.unusedVariables false
set_option linter.unusedSimpArgs false
theorem breedErr_zero {s : Breed} (h : breedErr s = 0) : BreedOk s := breedIs (by
  unfold breedErr at h
  split at h
  · assumption
  · omega)
/-- what a thirst is, if there is one -/
theorem thirst_bd {s : Breed} {l : List Camel} {r : Span × Int} (h : thirstVal s l = r) (h0 : r.2 = 0) : 0 ≤ r.1.hi ∧ r.1.hi ≤ 30000000 := by
  unfold thirstVal at h
  by_cases h1 : breedErr s ≠ 0
  · rw [if_pos h1] at h
    rw [← h] at h0
    exact absurd h0 h1
  rw [if_neg h1] at h
  by_cases h2 : 30 < l.length
  · rw [if_pos h2] at h
    rw [← h] at h0
    cases h0
  rw [if_neg h2] at h
  cases h3 : thirstOf s ⟨0, 0⟩ l with
  | none =>
    rw [h3] at h
    rw [← h] at h0
    cases h0
  | some b =>
    rw [h3] at h
    rw [← h]
    have := thirst_is (breedErr_zero (by omega)) h3 (Int.le_refl 0) (Int.le_refl 0)
    simp only at this ⊢
    omega
theorem open_land {l : Land} {p : Span} (h : openErr l p = 0) : landOk l = true := by
  unfold openErr at h
  split at h
  · assumption
  · omega
set_option maxRecDepth 100000 in
set_option maxHeartbeats 8000000 in
theorem lawLater_any (wa : Option Addr) (wn wc : Nat) (la : Option Addr) (ln lc : Nat) (ws : List Well) (ls : List Leg) (frw day : Int) (p : Span) (ga : Option Addr) (gn gc : Nat) (gs : List Int) (s : Breed) (ca : Option Addr) (cn cc : Nat) (cs : List Camel) (bt : Int) (w : World) (hws : WellsAt w wa wn ws) (hwc : wn ≤ wc) (hwm : wc ≤ maxLen) (hls : LegsAt w la ln ls) (hlc : ln ≤ lc) (hlm : lc ≤ maxLen) (hlb : ∀ x, la = some x → x.block < w.heap.size) (hg : IntsAt .i64 w ga gn gs) (hgc : gn ≤ gc) (hgm : gc ≤ maxLen) (hgb : ∀ x, ga = some x → x.block < w.heap.size) (hcs : CamelsAt w ca cn cs) (hcc : cn ≤ cc) (hcm : cc ≤ maxLen) (hbt0 : 0 ≤ bt) (hbt1 : bt ≤ 4294967295) :
    Calls Try.prog 4 #[.agg #[.slice wa wn wc, .slice la ln lc], .int .i64 frw, .int .i64 day, p.val, .slice ga gn gc, s.val, .slice ca cn cc, .int .u32 bt] w fun e w' => e = .returned (.bool true) ∧ Ext w w' := by
  have hgr := fun W (hW : Ext w W) => rgreat_any wa wn wc la ln lc ⟨ws, ls⟩ W hws.1 hwc hwm (hls.ext hW) hlc hlm
  have hth := fun W (hW : Ext w W) => thirst_any s ca cn cc cs W (hcs.ext hW) hcc hcm
  have hgl := hg.1
  have hwl := hws.1
  have hll := hls.1
  unfold maxLen at hgm hcm
  have hsm := fun h => @great_small ⟨ws, ls⟩ h
  have hwk := fun (W : World) (hW : Ext w W) (h : greatB ⟨ws, ls⟩ = false) => walk_any wa wn wc la ln lc ⟨ws, ls⟩ p frw day ga gn gc gs W ⟨hws.ext hW, hls.ext hW, hwc, hwm, hlc, hlm, by have := hsm h; simp only at this; omega, by have := hsm h; simp only at this; omega⟩ (hg.ext hW) hgc (by unfold maxLen; exact hgm) (fun x hx => Nat.lt_of_lt_of_le (hlb x hx) hW.size) (fun x hx => Nat.lt_of_lt_of_le (hgb x hx) hW.size)
  have hla := fun (h : greatB ⟨ws, ls⟩ = false) (W : World) (hW : Ext w W) => (⟨hws.ext hW, hls.ext hW, hwc, hwm, hlc, hlm, by have := hsm h; simp only at this; omega, by have := hsm h; simp only at this; omega⟩ : LandAt W wa wn wc la ln lc ⟨ws, ls⟩)
  have hcas := walk_cases ⟨ws, ls⟩ p frw day gs
  obtain ⟨G, hG⟩ : ∃ G, greatB ⟨ws, ls⟩ = G := ⟨_, rfl⟩
  rw [hG] at hgr hwk hla hsm
  obtain ⟨TV, hTV⟩ : ∃ TV, thirstVal s cs = TV := ⟨_, rfl⟩
  have htb := fun h => thirst_bd hTV h
  simp only [hTV] at hth
  unfold thirstRes at hth
  obtain ⟨⟨T0, T1⟩, TE⟩ := TV
  simp only at htb hth
  obtain ⟨W0, hW0⟩ : ∃ W0, ((w.alloc (.cells #[.slice wa wn wc, .slice la ln lc] 33)).alloc (.cells #[.int .i64 p.lo, .int .i64 p.hi] 23)).alloc (.cells s.cells.toArray 25) = W0 := ⟨_, rfl⟩
  have hx0 : Ext w W0 := by rw [← hW0]; exact (((Ext.refl w).alloc _).alloc _).alloc _
  have hl0 : W0.heap[w.heap.size]? = some (.cells #[.slice wa wn wc, .slice la ln lc] 33 (0, 0)) := by rw [← hW0]; exact alloc_heap (alloc_heap (heap_alloc_new w _) _) _
  have hp0 : W0.heap[w.heap.size + 1]? = some (.cells #[.int .i64 p.lo, .int .i64 p.hi] 23 (0, 0)) := by rw [← hW0]; exact alloc_heap (alloc_at _ _ _ (by simp)) _
  have hb0 : W0.heap[w.heap.size + 1 + 1]? = some (.cells s.cells.toArray 25 (0, 0)) := by rw [← hW0]; exact alloc_at _ _ _ (by simp)
  obtain ⟨p0, p1⟩ := p
  simp only at hp0 hW0
  obtain ⟨fu, fe, ⟨r0, r1⟩, ⟨h0, h1⟩, ⟨t0, t1⟩, ⟨b0, b1⟩, ⟨u0, u1⟩, ⟨m0, m1⟩, hz, ⟨s0, s1⟩⟩ := s
  unfold Breed.val at hth ⊢
  unfold Span.val at hwk ⊢
  unfold Breed.cells at hb0 hW0
  simp only at hth hwk hb0 hW0 ⊢
  have Hgr := Lib.hid hgr
  have Hth := Lib.hid hth
  have Hwk := Lib.hid hwk
  have Hcas := Lib.hid hcas
  have Hla := Lib.hid hla
  have Hx0 := Lib.hid hx0
  have Hl0 := Lib.hid hl0
  have Hp0 := Lib.hid hp0
  have Hb0 := Lib.hid hb0
  have Hsm := Lib.hid hsm
  have HG := Lib.hid hG
  have Hg := Lib.hid hg
  have HTV := Lib.hid hTV
  have Htb := Lib.hid htb
  clear hgr hth hwk hcas hla hx0 hl0 hp0 hb0 hsm hG hg hTV htb
  clear hws hls hlb hgb hcs
  cases G
  rotate_left
  · skip
    go_enter Try.func4, Try.ntmps4
    go_wp2_with (first
    | (go_at_call 8; refine (alive03_any _).mono ?_; rintro e v1 ⟨rfl, hx1⟩; have hl1 := hx1.heap Hl0.out; have hp1 := hx1.heap Hp0.out; have hb1 := hx1.heap Hb0.out; have hy1 := Hx0.out.trans hx1; have Hb1 := Lib.hid hb1; have Hl1 := Lib.hid hl1; have Hp1 := Lib.hid hp1; have Hy1 := Lib.hid hy1; clear hb1 hl1 hp1 hy1)
    | (refine wpList_load_row rfl 33 (.tmp 8) rfl w.heap.size rfl 33 _ (0, 0) _ (by first | exact Hl2.out | exact Hl1.out) Try.underlying33 rfl (by kernel_rfl) ?_)
    | (go_at_call 11; refine (Hgr.out _ Hy1.out).mono ?_; rintro e v2 ⟨rfl, hx2⟩; have hl2 := hx2.heap Hl1.out; have hp2 := hx2.heap Hp1.out; have hb2 := hx2.heap Hb1.out; have hy2 := Hy1.out.trans hx2; have Hb2 := Lib.hid hb2; have Hl2 := Lib.hid hl2; have Hp2 := Lib.hid hp2; have Hy2 := Lib.hid hy2; clear hb2 hl2 hp2 hy2))
    go_ret
    exact ⟨rfl, Hy2.out⟩
  by_cases hlen : 24 < gn
  · have hlB : decide (24 < (gn : Int)) = true := by simp; omega
    go_enter Try.func4, Try.ntmps4
    go_wp2_with (first
    | (go_at_call 8; refine (alive03_any _).mono ?_; rintro e v1 ⟨rfl, hx1⟩; have hl1 := hx1.heap Hl0.out; have hp1 := hx1.heap Hp0.out; have hb1 := hx1.heap Hb0.out; have hy1 := Hx0.out.trans hx1; have Hb1 := Lib.hid hb1; have Hl1 := Lib.hid hl1; have Hp1 := Lib.hid hp1; have Hy1 := Lib.hid hy1; clear hb1 hl1 hp1 hy1)
    | (refine wpList_load_row rfl 33 (.tmp 8) rfl w.heap.size rfl 33 _ (0, 0) _ (by first | exact Hl2.out | exact Hl1.out) Try.underlying33 rfl (by kernel_rfl) ?_)
    | (go_at_call 11; refine (Hgr.out _ Hy1.out).mono ?_; rintro e v2 ⟨rfl, hx2⟩; have hl2 := hx2.heap Hl1.out; have hp2 := hx2.heap Hp1.out; have hb2 := hx2.heap Hb1.out; have hy2 := Hy1.out.trans hx2; have Hb2 := Lib.hid hb2; have Hl2 := Lib.hid hl2; have Hp2 := Lib.hid hp2; have Hy2 := Lib.hid hy2; clear hb2 hl2 hp2 hy2))
    go_ret
    exact ⟨rfl, Hy2.out⟩
  have hlB : decide (24 < (gn : Int)) = false := by simp; omega
  have hgn : gn ≤ 24 := by omega
  clear hlen
  by_cases hlen : 30 < cn
  · have hlC : decide (30 < (cn : Int)) = true := by simp; omega
    go_enter Try.func4, Try.ntmps4
    go_wp2_with (first
    | (go_at_call 8; refine (alive03_any _).mono ?_; rintro e v1 ⟨rfl, hx1⟩; have hl1 := hx1.heap Hl0.out; have hp1 := hx1.heap Hp0.out; have hb1 := hx1.heap Hb0.out; have hy1 := Hx0.out.trans hx1; have Hb1 := Lib.hid hb1; have Hl1 := Lib.hid hl1; have Hp1 := Lib.hid hp1; have Hy1 := Lib.hid hy1; clear hb1 hl1 hp1 hy1)
    | (refine wpList_load_row rfl 33 (.tmp 8) rfl w.heap.size rfl 33 _ (0, 0) _ (by first | exact Hl2.out | exact Hl1.out) Try.underlying33 rfl (by kernel_rfl) ?_)
    | (go_at_call 11; refine (Hgr.out _ Hy1.out).mono ?_; rintro e v2 ⟨rfl, hx2⟩; have hl2 := hx2.heap Hl1.out; have hp2 := hx2.heap Hp1.out; have hb2 := hx2.heap Hb1.out; have hy2 := Hy1.out.trans hx2; have Hb2 := Lib.hid hb2; have Hl2 := Lib.hid hl2; have Hp2 := Lib.hid hp2; have Hy2 := Lib.hid hy2; clear hb2 hl2 hp2 hy2))
    go_ret
    exact ⟨rfl, Hy2.out⟩
  have hlC : decide (30 < (cn : Int)) = false := by simp; omega
  clear hlen
  have hwk' := fun W hW => Hwk.out W hW rfl
  have hcs' := Hcas.out
  unfold WalkPost at hwk'
  obtain ⟨R, hR⟩ : ∃ R, walkOf ⟨ws, ls⟩ ⟨p0, p1⟩ frw day gs = R := ⟨_, rfl⟩
  rw [hR] at hcs'
  simp only [hR] at hwk'
  clear hR Hwk Hcas
  obtain ⟨ss, ia, er⟩ := R
  simp only at hcs' hwk'
  by_cases her : er ≠ 0
  · have hrB : (er != 0) = true := by simpa using her
    clear her hcs'
    have Hwk' := Lib.hid hwk'
    clear hwk'
    go_enter Try.func4, Try.ntmps4
    go_wp2_with (first
    | (go_at_call 8; refine (alive03_any _).mono ?_; rintro e v1 ⟨rfl, hx1⟩; have hl1 := hx1.heap Hl0.out; have hp1 := hx1.heap Hp0.out; have hb1 := hx1.heap Hb0.out; have hy1 := Hx0.out.trans hx1; have Hb1 := Lib.hid hb1; have Hl1 := Lib.hid hl1; have Hp1 := Lib.hid hp1; have Hy1 := Lib.hid hy1; clear hb1 hl1 hp1 hy1)
    | (refine wpList_load_row rfl 33 (.tmp 8) rfl w.heap.size rfl 33 _ (0, 0) _ (by first | exact Hl2.out | exact Hl1.out) Try.underlying33 rfl (by kernel_rfl) ?_)
    | (go_at_call 11; refine (Hgr.out _ Hy1.out).mono ?_; rintro e v2 ⟨rfl, hx2⟩; have hl2 := hx2.heap Hl1.out; have hp2 := hx2.heap Hp1.out; have hb2 := hx2.heap Hb1.out; have hy2 := Hy1.out.trans hx2; have Hb2 := Lib.hid hb2; have Hl2 := Lib.hid hl2; have Hp2 := Lib.hid hp2; have Hy2 := Lib.hid hy2; clear hb2 hl2 hp2 hy2)
    | (refine wpList_load_row rfl 23 (.tmp 11) rfl (w.heap.size + 1) rfl 23 _ (0, 0) _ Hp2.out Try.underlying23 rfl (by kernel_rfl) ?_)
    | (go_at_call 12; refine (Hwk'.out _ Hy2.out).mono ?_; rintro e v5 ⟨sa, sc, rfl, hsf, hsc, hsm, hst, hx5⟩; have hy5 := Hy2.out.trans hx5; have hb5 := hx5.heap Hb2.out; have Hy5 := Lib.hid hy5; have Hb5 := Lib.hid hb5; clear hy5 hb5)
    | (refine wpList_load_row rfl 25 (.tmp 13) rfl (w.heap.size + 1 + 1) rfl 25 _ (0, 0) _ Hb5.out Try.underlying25 rfl (by kernel_rfl) ?_)
    | (go_at_call 17; refine (Hth.out _ Hy5.out).mono ?_; rintro e v6 ⟨rfl, hx6⟩))
    go_ret
    exact ⟨rfl, (Hy5.out.trans hx6).alloc _⟩
  have hrB : (er != 0) = false := by simpa using her
  rcases hcs' with ⟨hr1, hr2⟩ | ⟨hr1, hr2, hr3, hr4⟩
  · exact absurd hr1 her
  rw [hgl] at hr3
  rw [hr3] at hwk'
  by_cases hte : TE ≠ 0
  · have htB : (TE != 0) = true := by simpa using hte
    clear hte her
    have Hwk' := Lib.hid hwk'
    have Hr1 := Lib.hid hr1
    have Hr2 := Lib.hid hr2
    have Hr4 := Lib.hid hr4
    clear hwk' hr1 hr2 hr4
    go_enter Try.func4, Try.ntmps4
    go_wp2_with (first
    | (go_at_call 8; refine (alive03_any _).mono ?_; rintro e v1 ⟨rfl, hx1⟩; have hl1 := hx1.heap Hl0.out; have hp1 := hx1.heap Hp0.out; have hb1 := hx1.heap Hb0.out; have hy1 := Hx0.out.trans hx1; have Hb1 := Lib.hid hb1; have Hl1 := Lib.hid hl1; have Hp1 := Lib.hid hp1; have Hy1 := Lib.hid hy1; clear hb1 hl1 hp1 hy1)
    | (refine wpList_load_row rfl 33 (.tmp 8) rfl w.heap.size rfl 33 _ (0, 0) _ (by first | exact Hl2.out | exact Hl1.out) Try.underlying33 rfl (by kernel_rfl) ?_)
    | (go_at_call 11; refine (Hgr.out _ Hy1.out).mono ?_; rintro e v2 ⟨rfl, hx2⟩; have hl2 := hx2.heap Hl1.out; have hp2 := hx2.heap Hp1.out; have hb2 := hx2.heap Hb1.out; have hy2 := Hy1.out.trans hx2; have Hb2 := Lib.hid hb2; have Hl2 := Lib.hid hl2; have Hp2 := Lib.hid hp2; have Hy2 := Lib.hid hy2; clear hb2 hl2 hp2 hy2)
    | (refine wpList_load_row rfl 23 (.tmp 11) rfl (w.heap.size + 1) rfl 23 _ (0, 0) _ Hp2.out Try.underlying23 rfl (by kernel_rfl) ?_)
    | (go_at_call 12; refine (Hwk'.out _ Hy2.out).mono ?_; rintro e v5 ⟨sa, sc, rfl, hsf, hsc, hsm, hst, hx5⟩; have hy5 := Hy2.out.trans hx5; have hb5 := hx5.heap Hb2.out; have Hy5 := Lib.hid hy5; have Hb5 := Lib.hid hb5; clear hy5 hb5)
    | (refine wpList_load_row rfl 25 (.tmp 13) rfl (w.heap.size + 1 + 1) rfl 25 _ (0, 0) _ Hb5.out Try.underlying25 rfl (by kernel_rfl) ?_)
    | (go_at_call 17; refine (Hth.out _ Hy5.out).mono ?_; rintro e v6 ⟨rfl, hx6⟩))
    go_ret
    exact ⟨rfl, (Hy5.out.trans hx6).alloc _⟩
  have htB : (TE != 0) = false := by simpa using hte
  have htbd := Htb.out (by omega)
  clear hte her
  have Hwk' := Lib.hid hwk'
  have Hr1 := Lib.hid hr1
  have Hr2 := Lib.hid hr2
  have Hr4 := Lib.hid hr4
  have Htbd := Lib.hid htbd
  clear hwk' hr1 hr2 hr4 htbd
  go_enter Try.func4, Try.ntmps4
  go_upto_if 72 with (first
    | (go_at_call 8; refine (alive03_any _).mono ?_; rintro e v1 ⟨rfl, hx1⟩; have hl1 := hx1.heap Hl0.out; have hp1 := hx1.heap Hp0.out; have hb1 := hx1.heap Hb0.out; have hy1 := Hx0.out.trans hx1; have Hb1 := Lib.hid hb1; have Hl1 := Lib.hid hl1; have Hp1 := Lib.hid hp1; have Hy1 := Lib.hid hy1; clear hb1 hl1 hp1 hy1)
    | (refine wpList_load_row rfl 33 (.tmp 8) rfl w.heap.size rfl 33 _ (0, 0) _ (by first | exact Hl2.out | exact Hl1.out) Try.underlying33 rfl (by kernel_rfl) ?_)
    | (go_at_call 11; refine (Hgr.out _ Hy1.out).mono ?_; rintro e v2 ⟨rfl, hx2⟩; have hl2 := hx2.heap Hl1.out; have hp2 := hx2.heap Hp1.out; have hb2 := hx2.heap Hb1.out; have hy2 := Hy1.out.trans hx2; have Hb2 := Lib.hid hb2; have Hl2 := Lib.hid hl2; have Hp2 := Lib.hid hp2; have Hy2 := Lib.hid hy2; clear hb2 hl2 hp2 hy2)
    | (refine wpList_load_row rfl 23 (.tmp 11) rfl (w.heap.size + 1) rfl 23 _ (0, 0) _ Hp2.out Try.underlying23 rfl (by kernel_rfl) ?_)
    | (go_at_call 12; refine (Hwk'.out _ Hy2.out).mono ?_; rintro e v5 ⟨sa, sc, rfl, hsf, hsc, hsm, hst, hx5⟩; have hy5 := Hy2.out.trans hx5; have hb5 := hx5.heap Hb2.out; have Hy5 := Lib.hid hy5; have Hb5 := Lib.hid hb5; clear hy5 hb5)
    | (refine wpList_load_row rfl 25 (.tmp 13) rfl (w.heap.size + 1 + 1) rfl 25 _ (0, 0) _ Hb5.out Try.underlying25 rfl (by kernel_rfl) ?_)
    | (go_at_call 17; refine (Hth.out _ Hy5.out).mono ?_; rintro e v6 ⟨rfl, hx6⟩))
  have hv6 := hx6.alloc (.cells #[.int .i64 T0, .int .i64 T1] 23)
  have hp21 := heap_alloc_new v6 (.cells #[.int .i64 T0, .int .i64 T1] 23)
  generalize v6.alloc (.cells #[.int .i64 T0, .int .i64 T1] 23) = V6 at *
  generalize v6.heap.size = p21 at *
  have hl6 := hv6.heap (hx5.heap Hl2.out)
  have hst6 := hst.ext hv6
  have hy6 := Hy5.out.trans hv6
  have hLA := fun W (hW : Ext w W) => Hla.out (by first | rfl | trivial) W hW
  have Hp21 := Lib.hid hp21
  have Hl6 := Lib.hid hl6
  have Hst6 := Lib.hid hst6
  have Hy6 := Lib.hid hy6
  have HLA := Lib.hid hLA
  clear hp21 hl6 hst6 hy6 hLA
  clear hx1 hx2 hx5 hx6 hv6 hst hsf Hb0 Hl0 Hp0 Hx0 Hb1 Hl1 Hp1 Hy1 Hb2 Hl2 Hp2 Hy2 Hy5 Hb5 Hgr Hth Hla hW0
  iterate 4 go_step
  exact laterTail ⟨ws, ls⟩ bt T0 T1 ss Hy6.out Hl6.out Hp21.out HLA.out Hst6.out hsc hsm hgn (open_land Hr2.out) Hr4.out Htbd.out ⟨hbt0, hbt1⟩
end Go.Proofs.Ytcoelhpmkhimpaa

namespace Go.Proofs.Ytcoelhpmkhimpaa.topLaterDone
open Go.ChangeShapes Go.WideShapes Go.ChangeAt Go.RowKit
open Go.ChangeMaps (open_string shut_string)
set_option linter.unusedVariables false

theorem own : ownKnob Try.prog.godebug = none := by kernel_rfl
theorem laidOut : laidOutB Try.prog = true := by kernel_rfl

set_option maxRecDepth 100000 in
theorem lifted (os : Os) (started : os.Started) (H : Type) (enc : TypeId × Value → H) :
    ReturnsInHanded {} Try.checked os 4 .any (Rows.topLaterSpec.pre6 enc Try.prog Try.f4 Rows.topLaterRow.domain false) (Rows.topLaterSpec.post enc Try.prog Try.f4 false true false false) := by
  refine returnsInHanded_of_change (C := Try.checked) own started (by kernel_rfl) Try.func4
    (ChangeSpec.witness6 (enc := enc) (C := Try.checked) false ⟨#[], #[.agg #[.slice none 0 0, .slice none 0 0], .int .i64 0, .int .i64 0, .agg #[.int .i64 0, .int .i64 0], .slice none 0 0, .agg #[.int .i64 0, .int .i64 0, .int .i64 0, .int .i64 0, .int .i64 0, .int .i64 0, .int .i64 0, .int .i64 0, .int .i64 0, .int .i64 0, .int .i64 0, .int .i64 0, .int .i64 0, .int .i64 0, .int .i64 0, .int .i64 0, .int .i64 0], .slice none 0 0, .int .u32 0], []⟩ 8 (by kernel_rfl) (by kernel_rfl) (by kernel_rfl) (by kernel_rfl)) ?_
  intro W base args ds gs before hval0 hW hcnd _
  have hval : ∀ (j : Nat) t v, Try.f4.params[j]? = some t → args[j]? = some v → Value.okWide Try.prog W .any base t v := hval0
  have hW' := hW
  obtain ⟨p, q, hA0, hV, rfl, hfz, hnd⟩ := hW
  have hA : DataW.TrodAll enc Try.prog W 0 (fun _ => true) true Try.f4.params.toList args.toList ds p := hA0
  rw [Try.params4] at hA hval
  obtain ⟨v0, vs0, d0, ds0, p0, q0, hargs, rfl, rfl, h0, r0⟩ := trodAll_cons hA
  obtain ⟨v1, vs1, d1, ds1, p1, q1, rfl, rfl, rfl, h1, r1⟩ := trodAll_cons r0
  obtain ⟨v2, vs2, d2, ds2, p2, q2, rfl, rfl, rfl, h2, r2⟩ := trodAll_cons r1
  obtain ⟨v3, vs3, d3, ds3, p3, q3, rfl, rfl, rfl, h3, r3⟩ := trodAll_cons r2
  obtain ⟨v4, vs4, d4, ds4, p4, q4, rfl, rfl, rfl, h4, r4⟩ := trodAll_cons r3
  obtain ⟨v5, vs5, d5, ds5, p5, q5, rfl, rfl, rfl, h5, r5⟩ := trodAll_cons r4
  obtain ⟨v6, vs6, d6, ds6, p6, q6, rfl, rfl, rfl, h6, r6⟩ := trodAll_cons r5
  obtain ⟨v7, vs7, d7, ds7, p7, q7, rfl, rfl, rfl, h7, r7⟩ := trodAll_cons r6
  obtain ⟨rfl, rfl, rfl⟩ := trodAll_nil r7
  obtain rfl : args = #[v0, v1, v2, v3, v4, v5, v6, v7] := by cases args; simp_all
  obtain ⟨rfl, rfl⟩ := trodVars_none hV
  obtain ⟨cs0, rfl, hz0⟩ := okWide_struct Try.underlying33 (hval 0 33 v0 rfl rfl)
  have k0 := h0
  have lt0 : ∀ x ∈ p0, x.block < W.heap.size := by obtain ⟨m, hm⟩ := k0; exact DataW.trod_lt m _ _ _ hm
  obtain ⟨wa0, wn0, wc0, la0, ln0, lc0, ws0, ls0, rfl, y10, y20, y30, y40, y50, y60⟩ : ∃ a n c a' n' c' ws ls, cs0 = #[.slice a n c, .slice a' n' c'] ∧ n ≤ c ∧ c ≤ maxLen ∧ WellsAt W a n ws ∧ n' ≤ c' ∧ c' ≤ maxLen ∧ LegsAt W a' n' ls := by
    obtain ⟨fuel, hf⟩ := h0
    exact take_land (hz0.trans (by kernel_rfl)) hf
  have y70 := land_lt (hval 0 33 _ rfl rfl)
  obtain ⟨a1, rfl, rfl, rfl, w1⟩ := open_int Try.underlying3 (hval 1 3 v1 rfl rfl) h1
  obtain ⟨a2, rfl, rfl, rfl, w2⟩ := open_int Try.underlying3 (hval 2 3 v2 rfl rfl) h2
  obtain ⟨cs3, rfl, hz3⟩ := okWide_struct Try.underlying23 (hval 3 23 v3 rfl rfl)
  have k3 := h3
  have lt3 : ∀ x ∈ p3, x.block < W.heap.size := by obtain ⟨m, hm⟩ := k3; exact DataW.trod_lt m _ _ _ hm
  obtain ⟨s3, e3⟩ : ∃ s : Span, s.cells = cs3.toList := by
    obtain ⟨fuel, hf⟩ := h3
    exact take_span (hz3.trans (by kernel_rfl)) hf
  obtain rfl : cs3 = s3.cells.toArray := by rw [e3]
  obtain ⟨a4, len4, cap4, rfl⟩ := okWide_slice Try.underlying34 (hval 4 34 v4 rfl rfl)
  have k4 := h4
  have lt4 : ∀ x ∈ p4, x.block < W.heap.size := by obtain ⟨m, hm⟩ := k4; exact DataW.trod_lt m _ _ _ hm
  obtain ⟨lc4, cm4, l4, w4⟩ : len4 ≤ cap4 ∧ cap4 ≤ maxLen ∧ ∃ l, IntsAt .i64 W a4 len4 l ∧ ∀ i ∈ l, (Lit.int .i64 i).wf = true := by
    obtain ⟨fuel, hf⟩ := h4
    exact take_ints Try.underlying34 Try.underlying3 (by kernel_rfl) hf
  have y74 := wide_lt Try.underlying34 (hval 4 34 _ rfl rfl)
  obtain ⟨cs5, rfl, hz5⟩ := okWide_struct Try.underlying25 (hval 5 25 v5 rfl rfl)
  have k5 := h5
  have lt5 : ∀ x ∈ p5, x.block < W.heap.size := by obtain ⟨m, hm⟩ := k5; exact DataW.trod_lt m _ _ _ hm
  obtain ⟨s5, e5⟩ : ∃ s : Breed, s.cells = cs5.toList := by
    obtain ⟨fuel, hf⟩ := h5
    exact take_breed (hz5.trans (by kernel_rfl)) hf
  obtain rfl : cs5 = s5.cells.toArray := by rw [e5]
  obtain ⟨a6, len6, cap6, rfl⟩ := okWide_slice Try.underlying49 (hval 6 49 v6 rfl rfl)
  have k6 := h6
  have lt6 : ∀ x ∈ p6, x.block < W.heap.size := by obtain ⟨m, hm⟩ := k6; exact DataW.trod_lt m _ _ _ hm
  obtain ⟨lc6, cm6, l6, w6⟩ : len6 ≤ cap6 ∧ cap6 ≤ maxLen ∧ ∃ l, CamelsAt W a6 len6 l := by
    obtain ⟨fuel, hf⟩ := h6
    exact take_camels hf
  obtain ⟨a7, rfl, rfl, rfl, w7⟩ := open_int Try.underlying54 (hval 7 54 v7 rfl rfl) h7
  clear hA0 hval0
  refine (lawLater_any wa0 wn0 wc0 la0 ln0 lc0 ws0 ls0 a1 a2 s3 a4 len4 cap4 l4 s5 a6 len6 cap6 l6 a7 W y30 y10 y20 y60 y40 y50 y70 w4.1 lc4 cm4 y74 w6 lc6 cm6 (wf_u32 w7).1 (wf_u32 w7).2).mono fun e W' ⟨he, bel⟩ => ?_
  subst he
  exact ⟨_, rfl, _, _, _, [], _, [], hW', trodAll_mk1 (shut_bool Try.underlying4 _), (trodAll_cons_mk (Below.trod laidOut (by kernel_rfl) (of_decide_eq_true (by kernel_rfl)) k0 bel lt0) (trodAll_cons_mk (shut_int Try.underlying3 w1) (trodAll_cons_mk (shut_int Try.underlying3 w2) (trodAll_cons_mk (Below.trod laidOut (by kernel_rfl) (of_decide_eq_true (by kernel_rfl)) k3 bel lt3) (trodAll_cons_mk (Below.trod laidOut (by kernel_rfl) (of_decide_eq_true (by kernel_rfl)) k4 bel lt4) (trodAll_cons_mk (Below.trod laidOut (by kernel_rfl) (of_decide_eq_true (by kernel_rfl)) k5 bel lt5) (trodAll_cons_mk (Below.trod laidOut (by kernel_rfl) (of_decide_eq_true (by kernel_rfl)) k6 bel lt6) (trodAll_cons_mk (shut_int Try.underlying54 w7) trodAll_mk0)))))))), rfl, bel.frame _, fun h => by cases h⟩

theorem over : Rows.topLaterRow.holds Try.pinned (OpenSpec.ofChange Rows.topLaterSpec) :=
  OpenClaim.holds_of_wide 4 Try.f4 rfl rfl rfl rfl rfl rfl rfl ⟨rfl, rfl, rfl, rfl, rfl⟩ rfl rfl rfl rfl rfl (by kernel_rfl) Try.func4 (by kernel_rfl)
    (of_decide_eq_true (by kernel_rfl)) (by unfold Func.isWrapper; first | (rw [if_pos (by decide +kernel)]; kernel_rfl) | (rw [if_neg (by decide +kernel)]; exact ⟨rfl, rfl⟩))
    (fun os started H enc _ => lifted os started H enc)

theorem proved : Rows.TopLaterSaid := over
#print axioms proved
end Go.Proofs.Ytcoelhpmkhimpaa.topLaterDone
