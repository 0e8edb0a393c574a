/- Contracts of small functions: floor, ceil, meet, corners within a half. -/
import Derived.Test.YtacdndehlkaaeaaSmall
namespace Go.Proofs.Ytacdndehlkaaeaa
open Go.RowKit
set_option linter.unusedVariables false
set_option linter.unusedSimpArgs false

theorem ediv_uniq {a b q : Int} (hb : 0 < b) (h1 : q * b ≤ a) (h2 : a < (q + 1) * b) : a / b = q := by
  have h3 := Int.ediv_mul_le a (show b ≠ 0 by omega)
  have h4 := Int.lt_ediv_add_one_mul_self a hb
  have e1 := Int.lt_of_mul_lt_mul_right (Int.lt_of_le_of_lt h1 h4) (Int.le_of_lt hb)
  have e2 := Int.lt_of_mul_lt_mul_right (Int.lt_of_le_of_lt h3 h2) (Int.le_of_lt hb)
  omega
theorem flo_neg {a b : Int} (hb : 0 < b) : flo a b = -((b - 1 - a) / b) := by
  have h3 := Int.ediv_mul_le (b - 1 - a) (show b ≠ 0 by omega)
  have h4 := Int.lt_ediv_add_one_mul_self (b - 1 - a) hb
  unfold flo
  generalize (b - 1 - a) / b = q at *
  refine ediv_uniq hb ?_ ?_
  · rw [Int.neg_mul]
    rw [Int.add_mul] at h4
    omega
  · rw [Int.add_mul, Int.neg_mul]
    omega
theorem flo_bd {a b M : Int} (hb : 0 < b) (h0 : -M ≤ a) (h1 : a ≤ M) : -M ≤ flo a b ∧ flo a b ≤ M := by
  have h2 := flo_le (a := a) hb
  obtain ⟨q, hq⟩ : ∃ q, flo a b = q := ⟨_, rfl⟩
  rw [hq] at h2 ⊢
  obtain ⟨l, h⟩ := h2
  have hM : 0 ≤ M := by omega
  constructor
  · rcases Int.le_total (-M) q with h' | h'
    · exact h'
    · rcases Int.lt_or_le q (-M) with h3 | h3
      · have e1 : (q + 1) * b ≤ -M * b := Int.mul_le_mul_of_nonneg_right (by omega) (by omega)
        have e2 : -M * b ≤ -M * 1 := Int.mul_le_mul_of_nonpos_left (by omega) (by omega)
        omega
      · exact h3
  · rcases Int.lt_or_le M q with h3 | h3
    · have e1 : M * 1 < q * b := by
        have e2 : M * b ≤ (q - 1) * b := Int.mul_le_mul_of_nonneg_right (by omega) (by omega)
        have e3 : M * 1 ≤ M * b := Int.mul_le_mul_of_nonneg_left (by omega) hM
        rw [Int.sub_mul] at e2
        omega
      omega
    · exact h3
theorem floor_any (a b : Int) (w : World) (ha0 : -1000000000000000 ≤ a) (ha1 : a ≤ 1000000000000000) (hb0 : 1 ≤ b) (hb1 : b ≤ 1000000000000000) :
    Calls Try.prog 83 #[.int .i64 a, .int .i64 b] w fun e w' => e = .returned (.int .i64 (flo a b)) ∧ w' = w := by
  have hbd := flo_bd (a := a) (b := b) (M := 1000000000000000) (by omega) ha0 ha1
  by_cases h : a < 0
  · have hB : decide (a < 0) = true := decide_eq_true h
    have he := flo_neg (a := a) (b := b) (by omega)
    obtain ⟨q, hq⟩ : ∃ q, flo a b = q := ⟨_, rfl⟩
    rw [hq] at he hbd ⊢
    have h0 : 0 ≤ b - 1 - a := by omega
    obtain ⟨r, hr⟩ : ∃ r, (b - 1 - a) / b = r := ⟨_, rfl⟩
    rw [hr] at he
    have htd : (b - 1 - a).tdiv b = r := by rw [Int.tdiv_eq_ediv_of_nonneg h0, hr]
    have hb2 : b ≠ 0 := by omega
    go_enter Try.func83, Try.ntmps83
    go_wp2_with fail
    go_ret
    exact ⟨ret_int (by omega), rfl⟩
  · have hB : decide (a < 0) = false := decide_eq_false h
    have htd : a.tdiv b = flo a b := by rw [Int.tdiv_eq_ediv_of_nonneg (by omega)]; rfl
    generalize flo a b = q at *
    have hb2 : b ≠ 0 := by omega
    go_enter Try.func83, Try.ntmps83
    go_wp2_with fail
    go_ret
    exact ⟨rfl, rfl⟩
theorem ceil_any (a b : Int) (w : World) (ha0 : -1000000000000000 ≤ a) (ha1 : a ≤ 1000000000000000) (hb0 : 1 ≤ b) (hb1 : b ≤ 1000000000000000) :
    Calls Try.prog 84 #[.int .i64 a, .int .i64 b] w fun e w' => e = .returned (.int .i64 (cei a b)) ∧ w' = w := by
  have hf := fun W => floor_any (-a) b W (by omega) (by omega) hb0 hb1
  have hbd := flo_bd (a := -a) (b := b) (M := 1000000000000000) (by omega) (by omega) (by omega)
  have he : cei a b = -flo (-a) b := rfl
  rw [he]
  generalize flo (-a) b = q at *
  have Hf := Lib.hid hf
  clear hf
  clear he
  go_enter Try.func84, Try.ntmps84
  go_wp2_with (go_at_call 83; refine (Hf.out _).mono ?_; rintro e w1 ⟨rfl, rfl⟩)
  go_ret
  exact ⟨rfl, rfl⟩
def CornerIn (c : Corner) : Prop := -200000000000000 ≤ c.x ∧ c.x ≤ 200000000000000 ∧ -200000000000000 ≤ c.y ∧ c.y ≤ 200000000000000 ∧ 0 ≤ c.d ∧ c.d ≤ 2000000
def Corner.val (c : Corner) : Value := .agg #[.int .i64 c.x, .int .i64 c.y, .int .i64 c.d]
theorem meet_bd {p q : Half} (hp : HalfIn p) (hq : HalfIn q) : CornerIn (meet p q) := by
  obtain ⟨a0, a1, b0, b1, _, c0, c1⟩ := hp
  obtain ⟨d0, d1, e0, e1, _, f0, f1⟩ := hq
  have m1 := mul_le (A := 100000000000) (B := 1000) c0 c1 e0 e1
  have m2 := mul_le (A := 100000000000) (B := 1000) f0 f1 b0 b1
  have m3 := mul_le (A := 1000) (B := 100000000000) a0 a1 f0 f1
  have m4 := mul_le (A := 1000) (B := 100000000000) d0 d1 c0 c1
  have m5 := mul_le (A := 1000) (B := 1000) a0 a1 e0 e1
  have m6 := mul_le (A := 1000) (B := 1000) d0 d1 b0 b1
  unfold CornerIn meet
  split
  · rename_i h
    simp only [meet0] at h ⊢
    omega
  · rename_i h
    simp only [meet0] at h ⊢
    omega
set_option maxRecDepth 100000 in
theorem meet_any (p q : Half) (w : World) (hp : HalfIn p) (hq : HalfIn q) : Calls Try.prog 104 #[p.val, q.val] w fun e w' => e = .returned (meet p q).val ∧ Ext w w' := by
  obtain ⟨pa, pb, pc⟩ := p
  obtain ⟨qa, qb, qc⟩ := q
  obtain ⟨a0, a1, b0, b1, _, c0, c1⟩ := hp
  obtain ⟨d0, d1, e0, e1, _, f0, f1⟩ := hq
  simp only at *
  have m1 := mul_le (A := 100000000000) (B := 1000) c0 c1 e0 e1
  have m2 := mul_le (A := 100000000000) (B := 1000) f0 f1 b0 b1
  have m3 := mul_le (A := 1000) (B := 100000000000) a0 a1 f0 f1
  have m4 := mul_le (A := 1000) (B := 100000000000) d0 d1 c0 c1
  have m5 := mul_le (A := 1000) (B := 1000) a0 a1 e0 e1
  have m6 := mul_le (A := 1000) (B := 1000) d0 d1 b0 b1
  simp only [Int.reduceMul, Int.reduceNeg] at m1 m2 m3 m4 m5 m6
  have hm : meet0 ⟨pa, pb, pc⟩ ⟨qa, qb, qc⟩ = ⟨pc * qb - qc * pb, pa * qc - qa * pc, pa * qb - qa * pb⟩ := rfl
  unfold meet
  rw [hm]
  clear hm
  unfold Half.val Corner.val
  simp only
  obtain ⟨P1, h1⟩ : ∃ P, pc * qb = P := ⟨_, rfl⟩
  obtain ⟨P2, h2⟩ : ∃ P, qc * pb = P := ⟨_, rfl⟩
  obtain ⟨P3, h3⟩ : ∃ P, pa * qc = P := ⟨_, rfl⟩
  obtain ⟨P4, h4⟩ : ∃ P, qa * pc = P := ⟨_, rfl⟩
  obtain ⟨P5, h5⟩ : ∃ P, pa * qb = P := ⟨_, rfl⟩
  obtain ⟨P6, h6⟩ : ∃ P, qa * pb = P := ⟨_, rfl⟩
  rw [h1] at m1 ⊢
  rw [h2] at m2 ⊢
  rw [h3] at m3 ⊢
  rw [h4] at m4 ⊢
  rw [h5] at m5 ⊢
  rw [h6] at m6 ⊢
  by_cases hd : P5 - P6 < 0
  · have hdB : decide (P5 - P6 < 0) = true := decide_eq_true hd
    rw [if_pos hd]
    go_enter Try.func104, Try.ntmps104
    go_wp2_with fail
    refine bodyPost_ret (by simp [results, Try.results104, asAddr, go_sem]; rfl) rfl ?_
    refine ⟨rfl, ?_⟩
    repeat (first | exact Ext.refl _ | refine Ext.alloc ?_ _ | refine Ext.setCell ?_ (by first | (simp; done) | (simp; omega)) _ | refine Ext.drew ?_)
  · have hdB : decide (P5 - P6 < 0) = false := decide_eq_false hd
    rw [if_neg hd]
    go_enter Try.func104, Try.ntmps104
    go_wp2_with fail
    refine bodyPost_ret (by simp [results, Try.results104, asAddr, go_sem]; rfl) rfl ?_
    refine ⟨rfl, ?_⟩
    repeat (first | exact Ext.refl _ | refine Ext.alloc ?_ _ | refine Ext.setCell ?_ (by first | (simp; done) | (simp; omega)) _ | refine Ext.drew ?_)
end Go.Proofs.Ytacdndehlkaaeaa
