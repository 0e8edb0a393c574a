/- TopKnown, plain: looks that are true (ported). -/
import Derived.Test.YtcoelhpmkhimpaaGreatVGs
import Derived.Test.YtcoelhpmkhimpaaGreatVBase
namespace Go.Proofs.YtcoelhpmkhimpaaGreat
open Go.RowKit
set_option linter.unusedVariables false
set_option linter.unusedSimpArgs false
theorem see_step {l : List Half} {s : Sight} (h : AreaOk l) (hs : sightOk s = true) (hl : l.length ≤ 36) :
    (seeOf l s = (l ++ halvesOf s, 0) ∧ AreaOk (l ++ halvesOf s) ∧ ∃ p, In (l ++ halvesOf s) p) ∨ (seeOf l s = ([], 43) ∧ ∀ p, ¬In (l ++ halvesOf s) p) := by
  have hm := (halves_len s).2
  have ha := h.more (halves_ok hs) (by omega)
  have hb := h.bounded (halvesOf s)
  unfold seeOf
  rw [if_neg (by rw [areaOk_iff.2 h]; simp), if_neg (by rw [hs]; simp), if_neg (by omega)]
  cases h2 : someB (l ++ halvesOf s) with
  | false =>
    rw [if_pos rfl]
    exact .inr ⟨rfl, (someB_false hb).1 h2⟩
  | true =>
    rw [if_neg (by simp)]
    exact .inl ⟨rfl, ha, (someB_iff hb).1 h2⟩
theorem bounds_step {l : List Half} (h : AreaOk l) : (∃ E N, boundsOf l = (E, N, 0) ∧ IsB (In l) E N ∧ ∃ p, In l p) ∨ (boundsOf l = (zs, zs, 43) ∧ ∀ p, ¬In l p) := by
  have ht := bounds_told h
  obtain ⟨E, N, k, hk⟩ : ∃ E N k, boundsOf l = (E, N, k) := ⟨_, _, _, rfl⟩
  rw [hk] at ht ⊢
  obtain ⟨e1, e2, e3, e4⟩ := ht
  simp only at e1 e2 e3 e4
  rcases e1 with rfl | rfl
  · exact .inl ⟨E, N, rfl, e3 rfl, e2.1 rfl⟩
  · obtain ⟨rfl, rfl⟩ := e4 rfl
    exact .inr ⟨rfl, fun p hp => by have := e2.2 ⟨p, hp⟩; omega⟩
theorem In.left {l m : List Half} {p : Corner} (h : In (l ++ m) p) : In l p := (In.append.1 h).1
theorem see_true {l : List Half} {s : Sight} {x y : Int} (ha : AreaOk l) (h : In l (pt x y)) (ho : sightOk s = true) (hs : seenB s x y = true) : (seeOf l s = (l ++ halvesOf s, 0) ∧ AreaOk (l ++ halvesOf s) ∧ In (l ++ halvesOf s) (pt x y)) ∨ seeOf l s = ([], 9) := by
  have hi : In (l ++ halvesOf s) (pt x y) := In.append.2 ⟨h, seen_in hs⟩
  by_cases hl : 40 < l.length + (halvesOf s).length
  · refine .inr ?_
    unfold seeOf
    rw [if_neg (by rw [areaOk_iff.2 ha]; simp), if_neg (by rw [ho]; simp), if_pos hl]
  · refine .inl ⟨?_, ha.more (halves_ok ho) (by omega), hi⟩
    unfold seeOf
    rw [if_neg (by rw [areaOk_iff.2 ha]; simp), if_neg (by rw [ho]; simp), if_neg hl, if_neg]
    rw [(someB_iff (ha.bounded _)).2 ⟨_, hi⟩]
    simp
theorem bounds_true {l : List Half} {x y : Int} (ha : AreaOk l) (h : In l (pt x y)) : ∃ e0 e1 n0 n1, boundsOf l = (⟨e0, e1⟩, ⟨n0, n1⟩, 0) ∧ e0 ≤ x ∧ x ≤ e1 ∧ n0 ≤ y ∧ y ≤ n1 := by
  rcases bounds_step ha with ⟨⟨e0, e1⟩, ⟨n0, n1⟩, hb, hB, _⟩ | ⟨_, hno⟩
  · have h1 := hB.xl _ h
    have h2 := hB.xh _ h
    have h3 := hB.yl _ h
    have h4 := hB.yh _ h
    simp only [pt, Int.mul_one] at h1 h2 h3 h4
    exact ⟨e0, e1, n0, n1, hb, h1, h2, h3, h4⟩
  · exact absurd h (hno _)
theorem near_true {l : List Half} {x y px py far : Int} (ha : AreaOk l) (h : In l (pt x y)) (hp : (placeOk px && placeOk py && inB far 0 10000000) = true) :
    ∃ k, nearOf l px py far = (k, 0) ∧ (k = 0 ∧ far < max (max (px - x) (x - px)) (max (py - y) (y - py)) ∨ k = 1 ∨ k = 2 ∧ max (max (px - x) (x - px)) (max (py - y) (y - py)) ≤ far) := by
  have hs : someB l = true := (someB_iff ha.bnd).2 ⟨_, h⟩
  have hk := known_of ha.bounded px py far
  refine ⟨knownOf l px py far, ?_, ?_⟩
  · have ha' : askedOf l px py far = 0 := by
      unfold askedOf
      rw [if_neg (by rw [areaOk_iff.2 ha]; simp), if_neg (by rw [hp]; simp), if_neg (by rw [hs]; simp)]
    unfold nearOf
    rw [ha']
    simp
  · rcases hk.range with e | e | e
    · refine .inl ⟨e, ?_⟩
      have := hk.no.1 e _ h
      rw [around_pt] at this
      omega
    · exact .inr (.inl e)
    · refine .inr (.inr ⟨e, ?_⟩)
      exact around_pt.1 ((hk.yes.1 e).2 _ h)
theorem lt_of_mul {a b d : Int} (hd : 0 < d) (h : a * d < b * d) : a < b := Int.lt_of_mul_lt_mul_right h (Int.le_of_lt hd)
theorem near_inside {l : List Half} {E N : Span} {x y far : Int} (h : AreaOk l) (hb : boundsOf l = (E, N, 0)) : knownOf l x y far = 2 ↔ (x - far ≤ E.lo ∧ E.hi ≤ x + far ∧ y - far ≤ N.lo ∧ N.hi ≤ y + far) := by
  have ht := bounds_told h
  rw [hb] at ht
  have hs := ht.sem rfl
  have hp := ht.is.1 rfl
  have hk := (known_of h.bounded x y far).yes
  rw [hk]
  have e : around x y far = box ⟨x - far, x + far⟩ ⟨y - far, y + far⟩ := rfl
  rw [e]
  simp only at hs
  constructor
  · rintro ⟨_, hall⟩
    obtain ⟨p1, a1, b1⟩ := hs.xl'
    obtain ⟨p2, a2, b2⟩ := hs.xh'
    obtain ⟨p3, a3, b3⟩ := hs.yl'
    obtain ⟨p4, a4, b4⟩ := hs.yh'
    have c1 := lt_of_mul a1.1 (Int.lt_of_le_of_lt (box_iff.1 (hall p1 a1)).2.1 b1)
    have c2 := lt_of_mul a2.1 (Int.lt_of_lt_of_le b2 (box_iff.1 (hall p2 a2)).2.2.1)
    have c3 := lt_of_mul a3.1 (Int.lt_of_le_of_lt (box_iff.1 (hall p3 a3)).2.2.2.1 b3)
    have c4 := lt_of_mul a4.1 (Int.lt_of_lt_of_le b4 (box_iff.1 (hall p4 a4)).2.2.2.2)
    simp only at c1 c2 c3 c4
    omega
  · rintro ⟨c1, c2, c3, c4⟩
    refine ⟨hp, fun p hp => box_iff.2 ⟨hp.1, ?_, ?_, ?_, ?_⟩⟩
    · exact Int.le_trans (Int.mul_le_mul_of_nonneg_right c1 (Int.le_of_lt hp.1)) (hs.xl p hp)
    · exact Int.le_trans (hs.xh p hp) (Int.mul_le_mul_of_nonneg_right c2 (Int.le_of_lt hp.1))
    · exact Int.le_trans (Int.mul_le_mul_of_nonneg_right c3 (Int.le_of_lt hp.1)) (hs.yl p hp)
    · exact Int.le_trans (hs.yh p hp) (Int.mul_le_mul_of_nonneg_right c4 (Int.le_of_lt hp.1))
end Go.Proofs.YtcoelhpmkhimpaaGreat

/- TopKnown, plain: a look at another well tells an area in which this one is. -/
namespace Go.Proofs.YtcoelhpmkhimpaaGreat
set_option linter.unusedVariables false
/-- the look from a well to another one, with what is somewhat to the right and to the left -/
def lookOf (ox oy dx dy t : Int) : Sight := ⟨1, ox, oy, 2 * dx + (dy * t).tdiv 2, 2 * dy - (dx * t).tdiv 2, 2 * dx - (dy * t).tdiv 2, 2 * dy + (dx * t).tdiv 2, 0, 0, 0⟩
theorem look_ok {wx wy ox oy fx fy tx ty : Int} (hx : -10000000 ≤ ox ∧ ox ≤ 10000000) (hy : -10000000 ≤ oy ∧ oy ≤ 10000000)
    (h1 : -1000 ≤ fx ∧ fx ≤ 1000) (h2 : -1000 ≤ fy ∧ fy ≤ 1000) (h3 : -1000 ≤ tx ∧ tx ≤ 1000) (h4 : -1000 ≤ ty ∧ ty ≤ 1000)
    (hc : ¬fx * ty - fy * tx ≤ 0) (hl : ¬fx * (oy - wy) - fy * (ox - wx) < 0) (hr : ¬(ox - wx) * ty - (oy - wy) * tx < 0) :
    sightOk ⟨1, ox, oy, fx, fy, tx, ty, 0, 0, 0⟩ = true ∧ seenB ⟨1, ox, oy, fx, fy, tx, ty, 0, 0, 0⟩ wx wy = true := by
  constructor
  · simp only [sightOk, pointedB, placeOk, partOk, inB, if_true, Bool.and_eq_true, decide_eq_true_eq]
    omega
  · simp only [seenB, if_true, Bool.and_eq_true, decide_eq_true_eq]
    omega
/-- where all looks tell one place, it is that well's -/
theorem known_one {l : List Half} {E N : Span} {x y : Int} (h : AreaOk l) (hb : boundsOf l = (E, N, 0)) (e0 : E.lo ≤ x) (e1 : x ≤ E.hi) (n0 : N.lo ≤ y) (n1 : y ≤ N.hi) : knownOf l x y 0 = 2 ↔ (E = ⟨x, x⟩ ∧ N = ⟨y, y⟩) := by
  rw [near_inside h hb]
  obtain ⟨a, b⟩ := E
  obtain ⟨c, d⟩ := N
  simp only at e0 e1 n0 n1
  simp only [Span.mk.injEq]
  omega
/-- the place of a well is in the area from which the looks begin -/
theorem start_in {x y : Int} (hx : -10000000 ≤ x ∧ x ≤ 10000000) (hy : -10000000 ≤ y ∧ y ≤ 10000000) {e n : Span} (h0 : e.lo ≤ x) (h1 : x ≤ e.hi) (h2 : n.lo ≤ y) (h3 : y ≤ n.hi) (he : -10000000 ≤ e.lo ∧ e.hi ≤ 10000000) (hn : -10000000 ≤ n.lo ∧ n.hi ≤ 10000000) :
    startOf e n = (box e n, 0) ∧ AreaOk (box e n) ∧ In (box e n) (pt x y) := by
  refine ⟨?_, ?_, ?_⟩
  · unfold startOf
    rw [if_pos (by simp only [spanOk, Bool.and_eq_true, decide_eq_true_eq]; omega)]
  · refine ⟨by simp [box], by simp [box, head4, isAB], fun k hk => ?_⟩
    simp only [box, List.mem_cons, List.not_mem_nil, or_false] at hk
    rcases hk with rfl | rfl | rfl | rfl <;> simp only <;> omega
  · rw [box_iff]
    simp only [pt, Int.mul_one]
    omega
end Go.Proofs.YtcoelhpmkhimpaaGreat

/- A region in the order of its text, whose operations only read, walked as one that draws its order: the frame is never looked into, so a large one costs no more than a small one. No function of the program is named here. -/
namespace Go.Proofs.YtcoelhpmkhimpaaGreat
open Go.RowKit
set_option linter.unusedVariables false
theorem wpList_of_quiet {P : Program} {ops : Array Oper} {C : World → Prop} {Q' : Act → Prop} {Q : Exit → Act → World → Prop} (hQ : ∀ a w, C w → Q' a → Q .normal a w) : ∀ (l : List Oper) (a : Act) (w : World), C w → wpQuiet P ops C Q' l a → wpList P ops Q l a w
  | [], a, w, hC, h => hQ a w hC h
  | o :: rest, a, w, hC, h => by
    unfold wpQuiet at h
    unfold wpList
    split
    · rename_i hw
      rw [if_pos hw] at h
      exact .inl (Oper.wp_of_quiet hC (fun a w' hw' hk => wpList_of_quiet hQ rest a w' hw' hk) h)
    · rename_i hw
      rw [if_neg hw] at h
      exact wpList_of_quiet hQ rest _ w hC h
theorem wp_region_seq {P : Program} {id : Nat} {Q : Exit → Act → World → Prop} {a : Act} {w : World} {l : List Oper}
    (h : ∀ f : Regrown → World, (∀ p, Ext w (f p)) → (∀ W, Ext w W → ∃ p, W = f p) → wpQuiet P l.toArray (fun w' => ∃ p, w' = f p) (fun a' => ∀ W, Ext w W → Q .normal a' W) l a) : (Code.region id l.toArray false).wp P Q a w := by
  have hb : ∀ p : Regrown, Ext w (Sort.grow (redrawn w p.d) p.os) := fun p => below_regrown w p.d p.os
  have h' := h (fun p => Sort.grow (redrawn w p.d) p.os) hb (fun W hW => regrown_of_below hW)
  refine wp_region_lit (wpList_of_quiet (C := fun w' => ∃ p : Regrown, w' = Sort.grow (redrawn w p.d) p.os) ?_ l a w (regrown_of_below (Ext.refl w)) h')
  rintro a' W ⟨p, rfl⟩ hq
  exact hq _ (hb p)
end Go.Proofs.YtcoelhpmkhimpaaGreat
