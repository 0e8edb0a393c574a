/- Contract of layer 1: Thirst; and a number of a span. -/
import Derived.Test.YtcoelhpmkhimpaaRefD
import Derived.Test.YtcoelhpmkhimpaaArith
import Derived.Test.YtcoelhpmkhimpaaFlow
import Derived.Test.YtcoelhpmkhimpaaWaterP
namespace Go.Proofs.Ytcoelhpmkhimpaa
open Go.RowKit
set_option linter.unusedVariables false
set_option linter.unusedSimpArgs false
def thirstAdd (s : Breed) (a : Span) (c : Camel) : Span := ⟨a.lo + (s.full - c.water.hi), a.hi + (s.full - c.water.lo)⟩
def thirstOf (s : Breed) : Span → List Camel → Option Span
  | a, [] => some a
  | a, c :: l => if camelOk s c then thirstOf s (thirstAdd s a c) l else none
def thirstVal (s : Breed) (l : List Camel) : Span × Int := if breedErr s ≠ 0 then (⟨0, 0⟩, breedErr s) else if 30 < l.length then (⟨0, 0⟩, 4) else match thirstOf s ⟨0, 0⟩ l with
  | none => (⟨0, 0⟩, 11)
  | some a => (a, 0)
theorem thirst_step {s : Breed} {a : Span} {l : List Camel} {k : Nat} {c : Camel} (h : l[k]? = some c) : thirstOf s a (l.drop k) = if camelOk s c then thirstOf s (thirstAdd s a c) (l.drop (k + 1)) else none := by
  rw [drop_at h]
  rfl
/-- what is known of the sum -/
theorem thirst_is {s : Breed} (hb : BreedOk s) : ∀ {l : List Camel} {a b : Span}, thirstOf s a l = some b → 0 ≤ a.lo → a.lo ≤ a.hi → 0 ≤ b.lo ∧ b.lo ≤ b.hi ∧ b.hi ≤ a.hi + l.length * 1000000
  | [], a, b, h, h0, h1 => by
    cases h
    simp
    omega
  | c :: l, a, b, h, h0, h1 => by
    unfold thirstOf at h
    cases hc : camelOk s c with
    | false => rw [hc] at h; simp at h
    | true =>
      rw [hc, if_pos rfl] at h
      have hw := (camelIs.1 hc).water
      have h2 := hw.low
      have h3 := hw.ord
      have h4 := hw.top
      have h5 := hb.full
      have := thirst_is hb h (by unfold thirstAdd; simp only; omega) (by unfold thirstAdd; simp only; omega)
      unfold thirstAdd at this
      simp only at this
      simp only [List.length_cons]
      omega
def thirstRes (r : Span × Int) : Value := .tuple #[.agg #[.int .i64 r.1.lo, .int .i64 r.1.hi], .int .i64 r.2]
structure ThIn (w : World) (s : Breed) (p7 : Nat) (a : Span) (V : World) : Prop where
  ext : Ext w V
  br : V.heap[w.heap.size]? = some (.cells s.cells.toArray 25 (0, 0))
  rs : V.heap[w.heap.size + 1]? = some (.cells #[.int .i64 0, .int .i64 0] 23 (0, 0))
  su : V.heap[p7]? = some (.cells #[.int .i64 a.lo, .int .i64 a.hi] 23 (0, 0))
  m7 : w.heap.size + 1 < p7
theorem ThIn.next {w : World} {s : Breed} {p7 : Nat} {a : Span} {V V' : World} (k : ThIn w s p7 a V) (hx : Ext V V') : ThIn w s p7 a V' := ⟨k.ext.trans hx, hx.heap k.br, hx.heap k.rs, hx.heap k.su, k.m7⟩
theorem ThIn.put {w : World} {s : Breed} {p7 : Nat} {a : Span} {V : World} (k : ThIn w s p7 a V) (x y : Int) : ThIn w s p7 ⟨x, y⟩ ((V.setCell ⟨p7, 0, none⟩ (.int .i64 x)).setCell ⟨p7, 1, none⟩ (.int .i64 y)) := by
  have h1 := k.m7
  exact ⟨set2_ext k.ext (by omega) _ _, set2_other k.br (by omega) _ _, set2_other k.rs (by omega) _ _, set2_box k.su _ _, h1⟩
set_option maxRecDepth 100000 in
set_option maxHeartbeats 8000000 in
theorem thirst_any (s : Breed) (a : Option Addr) (n cap : Nat) (l : List Camel) (w : World) (hl : CamelsAt w a n l) (hn : n ≤ cap) (hm : cap ≤ maxLen) :
    Calls Try.prog 17 #[s.val, .slice a n cap] w fun e w' => e = .returned (thirstRes (thirstVal s l)) ∧ Ext w w' := by
  have hcb := fun W => checkBreed_any s W
  have hcc := fun c W => checkCamel_any s c W
  have hll := hl.1
  unfold maxLen at hm
  have hdef : thirstVal s l = if breedErr s ≠ 0 then (⟨0, 0⟩, breedErr s) else if 30 < l.length then (⟨0, 0⟩, 4) else match thirstOf s ⟨0, 0⟩ l with
    | none => (⟨0, 0⟩, 11)
    | some a => (a, 0) := rfl
  obtain ⟨Q, hQ⟩ : ∃ Q : Ending → World → Prop, (fun e w' => e = .returned (thirstRes (thirstVal s l)) ∧ Ext w w') = Q := ⟨_, rfl⟩
  have hfin : ∀ lo hi K, thirstVal s l = (⟨lo, hi⟩, K) → ∀ w', Ext w w' → Q (.returned (.tuple #[.agg #[.int .i64 lo, .int .i64 hi], .int .i64 K])) w' := fun lo hi K h w' hx => by
    rw [← hQ]
    simp only [h]
    exact ⟨rfl, hx⟩
  rw [hQ]
  clear hQ
  have hbz : breedErr s = 0 → BreedOk s := fun h => breedIs (by unfold breedErr at h; split at h; assumption; omega)
  obtain ⟨K, hK⟩ : ∃ K, breedErr s = K := ⟨_, rfl⟩
  have hz10 : (if breedOk s then (0 : Int) else 10) = K := hK
  rw [hK] at hcb hdef hbz
  rw [hll] at hdef
  obtain ⟨W0, hW0⟩ : ∃ W0, (w.alloc (.cells s.cells.toArray 25)).alloc (.cells #[.int .i64 0, .int .i64 0] 23) = W0 := ⟨_, rfl⟩
  have hx0 : Ext w W0 := by rw [← hW0]; exact ((Ext.refl w).alloc _).alloc _
  have hb0 : W0.heap[w.heap.size]? = some (.cells s.cells.toArray 25 (0, 0)) := by rw [← hW0]; exact alloc_heap (heap_alloc_new w _) _
  have hr0 : W0.heap[w.heap.size + 1]? = some (.cells #[.int .i64 0, .int .i64 0] 23 (0, 0)) := by rw [← hW0]; exact alloc_at _ _ _ (by simp)
  generalize thirstVal s l = TV at *
  obtain ⟨S, hS⟩ : ∃ S, S = s := ⟨_, rfl⟩

  rw [← hS] at hb0 hbz hcc hdef hz10
  simp only [Breed.val_eq, Camel.val_eq] at hcc
  obtain ⟨fu, fe, ⟨r0, r1⟩, ⟨h0, h1⟩, ⟨t0, t1⟩, ⟨b0, b1⟩, ⟨u0, u1⟩, ⟨m0, m1⟩, hz, ⟨s0, s1⟩⟩ := s
  unfold Breed.val at hcb ⊢
  simp only at hcb hW0 ⊢
  unfold Breed.cells at hW0
  simp only at hW0
  have hb1 : W0.heap[w.heap.size]? = some (.cells #[.int .i64 fu, .int .i64 fe, .int .i64 r0, .int .i64 r1, .int .i64 h0, .int .i64 h1, .int .i64 t0, .int .i64 t1, .int .i64 b0, .int .i64 b1, .int .i64 u0, .int .i64 u1, .int .i64 m0, .int .i64 m1, .int .i64 hz, .int .i64 s0, .int .i64 s1] 25 (0, 0)) := by rw [hS] at hb0; exact hb0
  have Hz10 := Lib.hid hz10
  have Hcb := Lib.hid hcb
  have Hcc := Lib.hid hcc
  have Hx0 := Lib.hid hx0
  have Hb0 := Lib.hid hb0
  have Hb1 := Lib.hid hb1
  have Hr0 := Lib.hid hr0
  have Hfin := Lib.hid hfin
  have Hdef := Lib.hid hdef
  have Hl := Lib.hid hl
  have Hbz := Lib.hid hbz
  have HS := Lib.hid hS
  clear hz10 hcb hcc hx0 hb0 hb1 hr0 hfin hdef hl hbz hS
  by_cases hk : K ≠ 0
  · have hkB : (K != 0) = true := by simpa using hk
    have hf := Hfin.out 0 0 K (by rw [Hdef.out, if_pos hk])
    have Hf := Lib.hid hf
    clear hf
    clear hk
    go_enter Try.func17, Try.ntmps17
    go_wp2_with (first | (refine wpList_load_row rfl 25 (.tmp 2) rfl w.heap.size rfl 25 _ (0, 0) _ Hb1.out Try.underlying25 rfl (by kernel_rfl) ?_) | (go_at_call 54; refine (Hcb.out _).mono ?_; rintro e v1 ⟨rfl, hx1⟩; have hr1 := hx1.heap Hr0.out; obtain ⟨z0, z1⟩ := (Ext.refl v1).box hr1; have hrl := heap_lt hr1))
    refine bodyPost_ret (results_cell_tmp (P := Try.prog) (fn := Try.f17) rfl _ _ (w.heap.size + 1) 23 #[.int .i64 0, .int .i64 0] (0, 0) _ rfl (set2_box hr1 _ _) Try.underlying23 rfl (by kernel_rfl)) rfl ?_
    exact Hf.out _ (set2_ext (Hx0.out.trans hx1) (by omega) _ _)
  obtain rfl : K = 0 := by omega
  have hdf := Hdef.out
  rw [if_neg (by simp)] at hdf
  have hkB : ((0 : Int) != 0) = false := by decide
  have hbo := Hbz.out rfl
  clear Hbz
  by_cases h30 : 30 < n
  · rw [if_pos h30] at hdf
    have hnB : decide (30 < (n : Int)) = true := by simp; omega
    have hf := Hfin.out 0 0 4 hdf
    have Hf := Lib.hid hf
    have Hbo := Lib.hid hbo
    clear hf hbo
    clear h30 hdf
    go_enter Try.func17, Try.ntmps17
    go_wp2_with (first | (refine wpList_load_row rfl 25 (.tmp 2) rfl w.heap.size rfl 25 _ (0, 0) _ Hb1.out Try.underlying25 rfl (by kernel_rfl) ?_) | (go_at_call 54; refine (Hcb.out _).mono ?_; rintro e v1 ⟨rfl, hx1⟩; have hr1 := hx1.heap Hr0.out; obtain ⟨z0, z1⟩ := (Ext.refl v1).box hr1; have hrl := heap_lt hr1))
    refine bodyPost_ret (results_cell_tmp (P := Try.prog) (fn := Try.f17) rfl _ _ (w.heap.size + 1) 23 #[.int .i64 0, .int .i64 0] (0, 0) _ rfl (set2_box hr1 _ _) Try.underlying23 rfl (by kernel_rfl)) rfl ?_
    exact Hf.out _ (set2_ext (Hx0.out.trans hx1) (by omega) _ _)
  rw [if_neg h30] at hdf
  have hnB : decide (30 < (n : Int)) = false := by simp; omega
  have hn30 : n ≤ 30 := by omega
  have Hdf := Lib.hid hdf
  have Hbo := Lib.hid hbo
  clear hdf hbo
  clear h30
  go_enter Try.func17, Try.ntmps17
  go_upto_region 7 with (first | (refine wpList_load_row rfl 25 (.tmp 2) rfl w.heap.size rfl 25 _ (0, 0) _ Hb1.out Try.underlying25 rfl (by kernel_rfl) ?_) | (go_at_call 54; refine (Hcb.out _).mono ?_; rintro e v1 ⟨rfl, hx1⟩))
  have hD0 : ThIn w S v1.heap.size ⟨0, 0⟩ (v1.alloc (.cells #[.int .i64 0, .int .i64 0] 23)) := ⟨(Hx0.out.trans hx1).alloc _, alloc_heap (hx1.heap Hb0.out) _, alloc_heap (hx1.heap Hr0.out) _, heap_alloc_new v1 _, heap_lt (hx1.heap Hr0.out)⟩
  generalize v1.alloc (.cells #[.int .i64 0, .int .i64 0] 23) = W1 at *
  generalize v1.heap.size = p7 at *
  have HD0 := Lib.hid hD0
  clear hD0
  clear hx1 Hb0 Hb1 Hr0 Hx0 hW0 Hcb
  go_wp2_with fail
  go_loopw [23] (fun i wr => ∃ (k : Nat) (A : Span), i = .int .i64 k ∧ k ≤ n ∧ ThIn w S p7 A wr ∧ 0 ≤ A.lo ∧ A.lo ≤ A.hi ∧ A.hi ≤ k * 1000000 ∧ thirstOf S A (l.drop k) = thirstOf S ⟨0, 0⟩ l) (fun i _ => n - (intOf i).toNat)
  case atStart => exact ⟨0, ⟨0, 0⟩, rfl, by omega, HD0.out, by simp, by simp, by simp, rfl⟩
  case round =>
    clear HD0
    obtain ⟨k, A, rfl, hk, hD, hA0, hA1, hA2, hth⟩ := hrel
    by_cases hlt : k < n
    · have hltB : decide ((k : Int) < (n : Int)) = true := by simp; omega
      obtain ⟨b, off, x, rfl, hxk, hb, c0, c1, c2, c3, c4, c5, c6⟩ := (Hl.out.ext hD.ext).get k hlt
      rw [thirst_step hxk] at hth
      have hcx := fun W => Hcc.out x W
      have hce : camelErr S x = if breedOk S then (if camelOk S x then 0 else 11) else 10 := rfl
      rw [if_pos (show breedOk S = true from by
        cases hq : breedOk S
        · have hbz2 := Hz10.out
          rw [hq] at hbz2
          cases hbz2
        · rfl)] at hce
      obtain ⟨C, hC⟩ : ∃ C, camelOk S x = C := ⟨_, rfl⟩
      have hcw := fun (h : C = true) => (camelIs.1 (hC.trans h)).water
      rw [hC] at hth hce
      rw [hce] at hcx
      obtain ⟨⟨w0, w1⟩, ⟨k0, k1⟩, ⟨o0, o1⟩, mk⟩ := x
      unfold Camel.cells at hcx
      simp only at hcx c0 c1 c2 c3 c4 c5 c6 hcw
      have hx5 := (Ext.refl wr).alloc (.cells #[.int .i64 w0, .int .i64 w1, .int .i64 k0, .int .i64 k1, .int .i64 o0, .int .i64 o1, .bool mk] 27)
      have hD5 := hD.next hx5
      have hbx := heap_alloc_new wr (.cells #[.int .i64 w0, .int .i64 w1, .int .i64 k0, .int .i64 k1, .int .i64 o0, .int .i64 o1, .bool mk] 27)
      have hbr := hD5.br
      have hm7 := hD5.m7
      have h7l := heap_lt hD.su
      have Hcx := Lib.hid hcx
      have HD5 := Lib.hid hD5
      have Hbx := Lib.hid hbx
      have Hbr := Lib.hid hbr
      have Hcw := Lib.hid hcw
      have Hx5 := Lib.hid hx5
      clear hcx hD5 hbx hbr hcw hx5
      clear hC hD hxk hce
      cases C
      · rw [if_neg (by decide)] at hth
        have hdf := Hdf.out
        rw [← hth] at hdf
        have hf := Hfin.out 0 0 11 hdf
        have Hf := Lib.hid hf
        clear hf
        clear hth hdf Hcw Hdf Hdef
        go_wp2_with (first | (refine wpList_load_row rfl 25 (.tmp 2) rfl w.heap.size rfl 25 _ (0, 0) _ Hbr.out Try.underlying25 rfl (by kernel_rfl) ?_) | (refine wpList_load_row rfl 27 (.tmp 9) rfl wr.heap.size rfl 27 _ (0, 0) _ Hbx.out Try.underlying27 rfl (by kernel_rfl) ?_) | (go_at_call 55; refine (Hcx.out _).mono ?_; rintro e v6 ⟨rfl, hx6⟩; have hD6 := HD5.out.next hx6; have hr6 := hD6.rs; have he6 := hD6.ext; obtain ⟨y0, y1⟩ := (Ext.refl v6).box hr6; have hrl := heap_lt hr6; clear hD6))
        refine bodyPost_ret (results_cell_tmp (P := Try.prog) (fn := Try.f17) rfl _ _ (w.heap.size + 1) 23 #[.int .i64 0, .int .i64 0] (0, 0) _ rfl (set2_box hr6 _ _) Try.underlying23 rfl (by kernel_rfl)) rfl ?_
        exact Hf.out _ (set2_ext he6 (by omega) _ _)
      · rw [if_pos rfl] at hth
        have hw := Hcw.out rfl
        have hw0 := hw.low
        have hw1 := hw.ord
        have hw2 := hw.top
        have hfb := Hbo.out.full
        simp only at hw0 hw1 hw2
        have Hth := Lib.hid hth
        clear hth
        clear hw Hcw Hdf Hdef
        go_upto_region 13 with (first | (refine wpList_load_row rfl 25 (.tmp 2) rfl w.heap.size rfl 25 _ (0, 0) _ Hbr.out Try.underlying25 rfl (by kernel_rfl) ?_) | (refine wpList_load_row rfl 27 (.tmp 9) rfl wr.heap.size rfl 27 _ (0, 0) _ Hbx.out Try.underlying27 rfl (by kernel_rfl) ?_) | (go_at_call 55; refine (Hcx.out _).mono ?_; rintro e v6 ⟨rfl, hx6⟩; have hD6 := HD5.out.next hx6; have hbx6 := hx6.heap Hbx.out))
        have hsu6 := hD6.su
        have hfc6 : v6.cell? ⟨w.heap.size, 0, none⟩ = some (.int .i64 S.full) := ((Ext.refl v6).box hD6.br).1 0
        generalize wr.heap.size = px at *
        have hth' : thirstOf S ⟨A.lo + (S.full - w1), A.hi + (S.full - w0)⟩ (List.drop (k + 1) l) = thirstOf S ⟨0, 0⟩ l := Hth.out
        obtain ⟨A0, A1⟩ := A
        simp only at hA0 hA1 hA2 hsu6 hth'
        have hre := fun W => rest_any S.full ⟨w0, w1⟩ W (by omega) (by simp only; omega) (by simp only; omega)
        unfold Span.val at hre
        simp only at hre
        obtain ⟨R0, hR0⟩ : ∃ R, S.full - w1 = R := ⟨_, rfl⟩
        obtain ⟨R1, hR1⟩ : ∃ R, S.full - w0 = R := ⟨_, rfl⟩
        have hR2 : 0 ≤ R0 ∧ R0 ≤ R1 ∧ R1 ≤ 1000000 := by omega
        rw [hR0, hR1] at hre hth'
        have hpl := fun W b h => @plus2 A0 A1 R0 R1 W b h (by omega) (by omega) (by omega) (by omega)
        have HD6 := Lib.hid hD6
        have Hbx6 := Lib.hid hbx6
        have Hsu6 := Lib.hid hsu6
        have Hfc6 := Lib.hid hfc6
        have Hre := Lib.hid hre
        have Hpl := Lib.hid hpl
        have Hth' := Lib.hid hth'
        clear hD6 hbx6 hsu6 hfc6 hre hpl hth'
        clear hx6 HD5 Hbx Hbr Hcx Hx5 Hth hR0 hR1 c0 c1 c2 c3 c4 c5 c6
        refine wp_region_flow (.take [0, 1, 2, 3, 4] (.flow [5, 6, 7] [39, 40, 41] [[], [0], [1]] (.one 8 .done))) [8] (Ext v6) _ (by kernel_rfl) (by kernel_rfl) rfl (EC.ext v6) ((Ext.refl _).drew) ?_
        simp only [flowOf, treeOf, oneOp, twoOp, opsOf, consOp, callOF, List.getElem?_toArray, List.getElem?_cons_succ, List.getElem?_cons_zero]
        intro ι _ f hf
        have f0 := fun q => ((hf q).box Hsu6.out).1
        have f1 := fun q => (hf q).cell Hfc6.out
        have f2 := fun q => ((hf q).box Hbx6.out).1
        clear hf
        repeat (go_big_quiet_step (fail))
        refine wpQuiet_nil ?_
        clear f0 f1 f2
        refine wpOF_flow [IsV (.agg #[.int .i64 R0, .int .i64 R1]), IsSl 23 2 #[.int .i64 A0, .int .i64 A1, .int .i64 R0, .int .i64 R1], IsV (.agg #[.int .i64 (A0 + R0), .int .i64 (A1 + R1)])] rfl ⟨isV_ec (.agg #[.int .i64 R0, .int .i64 R1]), isSl_ec 23 2 #[.int .i64 A0, .int .i64 A1, .int .i64 R0, .int .i64 R1], isV_ec (.agg #[.int .i64 (A0 + R0), .int .i64 (A1 + R1)]), trivial⟩ (flowSteps_cons ?_ (flowSteps_cons ?_ (flowSteps_cons ?_ flowSteps_nil))) ?_
        · intro xs W hlen hS hn
          obtain ⟨x0, x1, x2, rfl⟩ := len3 hlen
          simp only [puts, Act.put, List.setIfInBounds_toArray, List.set_cons_succ, List.set_cons_zero]
          go_wp2_with (go_at_call 57; refine (Hre.out _).mono ?_; rintro e W5 ⟨rfl, hx5⟩)
          exact FlowPost.mk (.agg #[.int .i64 R0, .int .i64 R1]) rfl hx5 rfl
        · intro xs W hlen hS hn
          obtain ⟨x0, x1, x2, rfl⟩ := len3 hlen
          simp only [puts, Act.put, List.setIfInBounds_toArray, List.set_cons_succ, List.set_cons_zero]
          obtain rfl : x0 = .agg #[.int .i64 R0, .int .i64 R1] := hn.1
          go_wp2_with fail
          exact FlowPost.mk (.slice (some ⟨W.heap.size, 0, none⟩) 2 2) rfl ((Ext.refl _).alloc _) IsSl.new
        · intro xs W hlen hS hn
          obtain ⟨x0, x1, x2, rfl⟩ := len3 hlen
          simp only [puts, Act.put, List.setIfInBounds_toArray, List.set_cons_succ, List.set_cons_zero]
          obtain ⟨b, rfl, hbs⟩ : IsSl 23 2 #[.int .i64 A0, .int .i64 A1, .int .i64 R0, .int .i64 R1] x1 W := hn.1
          go_wp2_with (go_at_call 56; refine (Hpl.out W b hbs).mono ?_; rintro e W5 ⟨rfl, hx5⟩)
          exact FlowPost.mk (.agg #[.int .i64 (A0 + R0), .int .i64 (A1 + R1)]) rfl hx5 rfl
        intro xs W hlen hS hn
        obtain ⟨x0, x1, x2, rfl⟩ := len3 hlen
        simp only [puts, Act.put, List.setIfInBounds_toArray, List.set_cons_succ, List.set_cons_zero]
        obtain ⟨-, -, rfl, -⟩ := hn
        have hD8 := HD6.out.next hS
        have h7 := hD8.su
        simp only at h7
        obtain ⟨y0, y1⟩ := (Ext.refl W).box h7
        have h7l := heap_lt h7
        have hD9 := hD8.put (A0 + R0) (A1 + R1)
        have HD9 := Lib.hid hD9
        clear hD9
        clear hD8 h7 hS
        refine wpOT_one ?_
        go_wp2_with fail
        refine wpOT_done ?_
        clear y0 y1
        go_wp2_with fail
        go_roundw
        case rel => exact ⟨k + 1, ⟨A0 + R0, A1 + R1⟩, by go_num, by omega, HD9.out, by simp only; omega, by simp only; omega, by simp only; omega, Hth'.out⟩
        case measure => simp [intOf]; omega
    · have hltB : decide ((k : Int) < (n : Int)) = false := by simp; omega
      obtain rfl : k = n := by omega
      rw [List.drop_of_length_le (by omega)] at hth
      have hdf := Hdf.out
      rw [← hth] at hdf
      obtain ⟨A0, A1⟩ := A
      have hf := Hfin.out A0 A1 0 hdf
      have hrs := hD.rs
      have hsu := hD.su
      have hex := hD.ext
      have hm7 := hD.m7
      have hrl := heap_lt hrs
      simp only at hsu
      obtain ⟨y0, y1⟩ := (Ext.refl wr).box hrs
      obtain ⟨y2, _⟩ := (Ext.refl wr).box hsu
      have Hf := Lib.hid hf
      have Hrs := Lib.hid hrs
      have Hex := Lib.hid hex
      have Hsu := Lib.hid hsu
      clear hf hrs hex hsu
      clear hth hdf hD hlt hA0 hA1 hA2
      go_wp2_with fail
      refine bodyPost_ret (results_cell_tmp (P := Try.prog) (fn := Try.f17) rfl _ _ (w.heap.size + 1) 23 #[.int .i64 A0, .int .i64 A1] (0, 0) _ rfl (set2_box Hrs.out _ _) Try.underlying23 rfl (by kernel_rfl)) rfl ?_
      exact Hf.out _ (set2_ext Hex.out (by omega) _ _)
end Go.Proofs.Ytcoelhpmkhimpaa
