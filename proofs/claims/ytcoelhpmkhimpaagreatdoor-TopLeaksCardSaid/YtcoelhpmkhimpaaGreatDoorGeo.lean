/- Places in halves: plain words. A list of halves that holds the four of a box has a corner as far in any direction as any of its places. -/
namespace Go.Proofs.YtcoelhpmkhimpaaGreatDoor
set_option linter.unusedVariables false

structure Half where
  a : Int
  b : Int
  c : Int
  deriving DecidableEq
structure Corner where
  x : Int
  y : Int
  d : Int
  deriving DecidableEq
def Half.at (h : Half) (x y : Int) : Int := h.a * x + h.b * y
/-- a place x / d, y / d is in a half -/
def inH (h : Half) (c : Corner) : Bool := decide (h.a * c.x + h.b * c.y ≤ h.c * c.d)
def meet0 (p q : Half) : Corner := ⟨p.c * q.b - q.c * p.b, p.a * q.c - q.a * p.c, p.a * q.b - q.a * p.b⟩
def meet (p q : Half) : Corner := if (meet0 p q).d < 0 then ⟨-(meet0 p q).x, -(meet0 p q).y, -(meet0 p q).d⟩ else meet0 p q
def okC (l : List Half) (c : Corner) : Bool := c.d != 0 && l.all (fun h => inH h c)
/-- a place, in all halves -/
def In (l : List Half) (p : Corner) : Prop := 0 < p.d ∧ ∀ h ∈ l, h.a * p.x + h.b * p.y ≤ h.c * p.d
/-- as far as p, or farther, in the direction u, v -/
def Far (u v : Int) (p q : Corner) : Prop := (u * p.x + v * p.y) * q.d ≤ (u * q.x + v * q.y) * p.d
/-- the halves bound each direction -/
def Bounded (l : List Half) : Prop := ∀ x y : Int, (x ≠ 0 ∨ y ≠ 0) → ∃ h ∈ l, 0 < h.a * x + h.b * y

/-- the first half that is met on the way -/
theorem first_met (f g : Half → Int) : ∀ (l : List Half), (∀ h ∈ l, 0 ≤ f h) → (∃ h ∈ l, 0 < g h) → ∃ h ∈ l, 0 < g h ∧ ∀ k ∈ l, 0 < g k → f h * g k ≤ f k * g h
  | [], _, ⟨h, hh, _⟩ => by cases hh
  | m :: l, h0, he => by
    by_cases hl : ∃ h ∈ l, 0 < g h
    · obtain ⟨h, hh, hg, hm⟩ := first_met f g l (fun k hk => h0 k (List.mem_cons_of_mem _ hk)) hl
      by_cases hgm : 0 < g m
      · by_cases hc : f h * g m ≤ f m * g h
        · refine ⟨h, List.mem_cons_of_mem _ hh, hg, fun k hk hgk => ?_⟩
          rcases List.mem_cons.1 hk with rfl | hk
          · exact hc
          · exact hm k hk hgk
        · refine ⟨m, List.mem_cons_self .., hgm, fun k hk hgk => ?_⟩
          rcases List.mem_cons.1 hk with rfl | hk
          · exact Int.le_refl _
          · have h1 := hm k hk hgk
            have h2 : f m * g h ≤ f h * g m := by omega
            -- f m * g k * g h ≤ f h * g m * g k ≤ f k * g h * g m
            have h3 := Int.mul_le_mul_of_nonneg_right h2 (Int.le_of_lt hgk)
            have h4 := Int.mul_le_mul_of_nonneg_right h1 (Int.le_of_lt hgm)
            have h5 : f m * g k * g h ≤ f k * g m * g h := by
              have e1 : f m * g k * g h = f m * g h * g k := by rw [Int.mul_right_comm]
              have e2 : f h * g m * g k = f h * g k * g m := by rw [Int.mul_right_comm]
              have e3 : f k * g h * g m = f k * g m * g h := by rw [Int.mul_right_comm]
              omega
            exact Int.le_of_mul_le_mul_right h5 hg
      · refine ⟨h, List.mem_cons_of_mem _ hh, hg, fun k hk hgk => ?_⟩
        rcases List.mem_cons.1 hk with rfl | hk
        · exact absurd hgk hgm
        · exact hm k hk hgk
    · obtain ⟨h, hh, hg⟩ := he
      rcases List.mem_cons.1 hh with rfl | hh
      · refine ⟨h, List.mem_cons_self .., hg, fun k hk hgk => ?_⟩
        rcases List.mem_cons.1 hk with rfl | hk
        · exact Int.le_refl _
        · exact absurd ⟨k, hk, hgk⟩ hl
      · exact absurd ⟨h, hh, hg⟩ hl
/-- from a place on in a direction until a half is met -/
theorem ray {l : List Half} {p : Corner} (hp : In l p) (x y : Int) (hb : ∃ h ∈ l, 0 < h.a * x + h.b * y) :
    ∃ h ∈ l, 0 < h.a * x + h.b * y ∧ ∃ s : Int, 0 ≤ s ∧ In l ⟨p.x * (h.a * x + h.b * y) + s * x, p.y * (h.a * x + h.b * y) + s * y, p.d * (h.a * x + h.b * y)⟩ ∧
      h.a * (p.x * (h.a * x + h.b * y) + s * x) + h.b * (p.y * (h.a * x + h.b * y) + s * y) = h.c * (p.d * (h.a * x + h.b * y)) := by
  obtain ⟨hd, hin⟩ := hp
  obtain ⟨h, hh, hg, hm⟩ := first_met (fun h => h.c * p.d - (h.a * p.x + h.b * p.y)) (fun h => h.a * x + h.b * y) l (fun h hh => by have := hin h hh; omega) hb
  obtain ⟨s, hs⟩ : ∃ s, h.c * p.d - (h.a * p.x + h.b * p.y) = s := ⟨_, rfl⟩
  have hs0 : 0 ≤ s := by have := hin h hh; omega
  rw [hs] at hm
  refine ⟨h, hh, hg, s, hs0, ⟨Int.mul_pos hd hg, fun k hk => ?_⟩, ?_⟩
  · obtain ⟨G, hG⟩ : ∃ G, h.a * x + h.b * y = G := ⟨_, rfl⟩
    rw [hG] at hg hm ⊢
    have key : s * (k.a * x + k.b * y) ≤ (k.c * p.d - (k.a * p.x + k.b * p.y)) * G := by
      by_cases hk0 : 0 < k.a * x + k.b * y
      · exact hm k hk hk0
      · have h1 := Int.mul_nonneg hs0 (show 0 ≤ -(k.a * x + k.b * y) by omega)
        have h2 := Int.mul_nonneg (show 0 ≤ k.c * p.d - (k.a * p.x + k.b * p.y) by have := hin k hk; omega) (Int.le_of_lt hg)
        rw [Int.mul_neg] at h1
        omega
    simp only
    have e : k.c * (p.d * G) - (k.a * (p.x * G + s * x) + k.b * (p.y * G + s * y)) = (k.c * p.d - (k.a * p.x + k.b * p.y)) * G - s * (k.a * x + k.b * y) := by grind
    omega
  · grind
theorem Far.trans {u v : Int} {p q r : Corner} (hp : 0 < p.d) (hq : 0 < q.d) (hr : 0 < r.d) (h1 : Far u v p q) (h2 : Far u v q r) : Far u v p r := by
  unfold Far at *
  have e1 := Int.mul_le_mul_of_nonneg_right h1 (Int.le_of_lt hr)
  have e2 := Int.mul_le_mul_of_nonneg_right h2 (Int.le_of_lt hp)
  refine Int.le_of_mul_le_mul_right ?_ hq
  generalize u * p.x + v * p.y = P at *
  generalize u * q.x + v * q.y = Q at *
  generalize u * r.x + v * r.y = R at *
  have q1 : P * r.d * q.d = P * q.d * r.d := by grind
  have q2 : Q * p.d * r.d = Q * r.d * p.d := by grind
  have q3 : R * p.d * q.d = R * q.d * p.d := by grind
  omega
theorem meet_pos {p q : Half} (h : (meet0 p q).d ≠ 0) : 0 < (meet p q).d := by
  unfold meet
  split
  · simp only; omega
  · omega
/-- a place on the edges of two halves is where these meet -/
theorem meet_at {h k : Half} {p : Corner} (h0 : (meet0 h k).d ≠ 0) (h1 : h.a * p.x + h.b * p.y = h.c * p.d) (h2 : k.a * p.x + k.b * p.y = k.c * p.d) : (meet h k).d * p.x = p.d * (meet h k).x ∧ (meet h k).d * p.y = p.d * (meet h k).y := by
  have e1 : (meet0 h k).d * p.x = p.d * (meet0 h k).x := by simp only [meet0]; grind
  have e2 : (meet0 h k).d * p.y = p.d * (meet0 h k).y := by simp only [meet0]; grind
  unfold meet
  split
  · simp only [Int.neg_mul, Int.mul_neg, e1, e2, and_self]
  · exact ⟨e1, e2⟩
/-- two names of one place -/
theorem In.same {l : List Half} {p c : Corner} (hp : In l p) (hc : 0 < c.d) (ex : c.d * p.x = p.d * c.x) (ey : c.d * p.y = p.d * c.y) : In l c := by
  refine ⟨hc, fun m hm => ?_⟩
  have h1 := Int.mul_le_mul_of_nonneg_right (hp.2 m hm) (Int.le_of_lt hc)
  refine Int.le_of_mul_le_mul_right ?_ hp.1
  have e1 : (m.a * p.x + m.b * p.y) * c.d = (m.a * c.x + m.b * c.y) * p.d := by grind
  have e2 : m.c * p.d * c.d = m.c * c.d * p.d := by grind
  omega
theorem Far.same {u v : Int} {p c : Corner} (ex : c.d * p.x = p.d * c.x) (ey : c.d * p.y = p.d * c.y) : Far u v p c := by
  unfold Far
  have e : (u * p.x + v * p.y) * c.d = (u * c.x + v * c.y) * p.d := by grind
  omega
theorem on_way (a b x y X Y s G : Int) : a * (x * G + s * X) + b * (y * G + s * Y) = (a * x + b * y) * G + s * (a * X + b * Y) := by grind
/-- **a corner is as far as any place** -/
theorem corner_far {l : List Half} (hb : Bounded l) {p : Corner} (hp : In l p) (u v : Int) : ∃ h ∈ l, ∃ k ∈ l, (meet0 h k).d ≠ 0 ∧ In l (meet h k) ∧ Far u v p (meet h k) := by
  -- across the direction, to an edge
  obtain ⟨x, y, hxy, hx0⟩ : ∃ x y : Int, (x ≠ 0 ∨ y ≠ 0) ∧ u * x + v * y = 0 := by
    by_cases h : u = 0 ∧ v = 0
    · exact ⟨1, 0, .inl (by omega), by rw [h.1, h.2]; omega⟩
    · refine ⟨-v, u, by omega, ?_⟩
      grind
  obtain ⟨h, hh, hg, s, hs, hin, ht⟩ := ray hp x y (hb x y hxy)
  obtain ⟨G, hG⟩ : ∃ G, h.a * x + h.b * y = G := ⟨_, rfl⟩
  rw [hG] at hg hin ht
  obtain ⟨q, hq⟩ : ∃ q : Corner, (⟨p.x * G + s * x, p.y * G + s * y, p.d * G⟩ : Corner) = q := ⟨_, rfl⟩
  have hqx : q.x = p.x * G + s * x := by rw [← hq]
  have hqy : q.y = p.y * G + s * y := by rw [← hq]
  have hqd : q.d = p.d * G := by rw [← hq]
  rw [hq] at hin
  rw [← hqx, ← hqy, ← hqd] at ht
  have far1 : Far u v p q := by
    unfold Far
    have e : (u * q.x + v * q.y) * p.d = (u * p.x + v * p.y) * q.d := by
      rw [hqx, hqy, hqd, on_way u v p.x p.y x y s G, hx0, Int.mul_zero, Int.add_zero, Int.mul_assoc, Int.mul_comm G]
    omega
  have hab : h.a ≠ 0 ∨ h.b ≠ 0 := by
    by_cases ha : h.a = 0
    · by_cases hb' : h.b = 0
      · rw [ha, hb'] at hG; omega
      · exact .inr hb'
    · exact .inl ha
  -- along the edge, to a corner
  obtain ⟨x2, y2, hxy2, hu2, hh2, hdet⟩ : ∃ x2 y2 : Int, (x2 ≠ 0 ∨ y2 ≠ 0) ∧ 0 ≤ u * x2 + v * y2 ∧ h.a * x2 + h.b * y2 = 0 ∧ ∀ k : Half, 0 < k.a * x2 + k.b * y2 → (meet0 h k).d ≠ 0 := by
    by_cases hu : 0 ≤ u * (-h.b) + v * h.a
    · refine ⟨-h.b, h.a, by omega, hu, by grind, fun k hk => ?_⟩
      simp only [meet0]
      grind
    · refine ⟨h.b, -h.a, by omega, ?_, by grind, fun k hk => ?_⟩
      · have : u * h.b + v * -h.a = -(u * (-h.b) + v * h.a) := by grind
        omega
      · simp only [meet0]
        grind
  obtain ⟨k, hk, hg2, s2, hs2, hin2, ht2⟩ := ray hin x2 y2 (hb x2 y2 hxy2)
  have hd := hdet k hg2
  obtain ⟨G2, hG2⟩ : ∃ G, k.a * x2 + k.b * y2 = G := ⟨_, rfl⟩
  rw [hG2] at hg2 hin2 ht2
  obtain ⟨r, hr⟩ : ∃ q' : Corner, (⟨q.x * G2 + s2 * x2, q.y * G2 + s2 * y2, q.d * G2⟩ : Corner) = q' := ⟨_, rfl⟩
  have hrx : r.x = q.x * G2 + s2 * x2 := by rw [← hr]
  have hry : r.y = q.y * G2 + s2 * y2 := by rw [← hr]
  have hrd : r.d = q.d * G2 := by rw [← hr]
  rw [hr] at hin2
  rw [← hrx, ← hry, ← hrd] at ht2
  have ht1 : h.a * r.x + h.b * r.y = h.c * r.d := by
    rw [hrx, hry, hrd, on_way h.a h.b q.x q.y x2 y2 s2 G2, ht, hh2, Int.mul_zero, Int.add_zero, Int.mul_assoc]
  have far2 : Far u v q r := by
    unfold Far
    have h1 := Int.mul_nonneg (Int.mul_nonneg hs2 hu2) (Int.le_of_lt hin.1)
    have e : (u * r.x + v * r.y) * q.d = (u * q.x + v * q.y) * r.d + s2 * (u * x2 + v * y2) * q.d := by
      rw [hrx, hry, hrd, on_way u v q.x q.y x2 y2 s2 G2]
      rw [Int.add_mul, Int.mul_assoc _ G2, Int.mul_comm G2]
    omega
  have hpos := meet_pos hd
  obtain ⟨ex, ey⟩ := meet_at hd ht1 ht2
  exact ⟨h, hh, k, hk, hd, hin2.same hpos ex ey, (far1.trans hp.1 hin.1 hin2.1 far2).trans hp.1 hin2.1 hpos (Far.same ex ey)⟩
/-! ### lists of corners -/
def cornersAt (l : List Half) (i : Nat) : List Corner := ((l.take i).map (meet (l.getD i ⟨0, 0, 0⟩))).filter (okC l)
def cornersOf (l : List Half) : List Corner := (List.range l.length).flatMap (cornersAt l)
theorem okC_iff {l : List Half} {c : Corner} : okC l c = true ↔ c.d ≠ 0 ∧ ∀ h ∈ l, h.a * c.x + h.b * c.y ≤ h.c * c.d := by
  simp [okC, inH]
theorem meet_comm {p q : Half} (h : (meet0 p q).d ≠ 0) : meet q p = meet p q := by
  have e1 : (meet0 q p).x = -(meet0 p q).x := by simp only [meet0]; grind
  have e2 : (meet0 q p).y = -(meet0 p q).y := by simp only [meet0]; grind
  have e3 : (meet0 q p).d = -(meet0 p q).d := by simp only [meet0]; grind
  unfold meet
  by_cases h0 : (meet0 p q).d < 0
  · rw [if_pos h0, if_neg (by omega), ← e1, ← e2, ← e3]
  · rw [if_neg h0, if_pos (by omega), e1, e2, e3]
    simp
theorem meet_d {p q : Half} : (meet p q).d ≠ 0 ↔ (meet0 p q).d ≠ 0 := by
  unfold meet
  split
  · simp
  · exact Iff.rfl
theorem meet_self_d (p : Half) : (meet0 p p).d = 0 := by simp only [meet0]; grind
theorem corner_in {l : List Half} {c : Corner} (h : c ∈ cornersOf l) : In l c ∧ ∃ p ∈ l, ∃ q ∈ l, (meet0 p q).d ≠ 0 ∧ c = meet p q := by
  obtain ⟨i, hi, h⟩ := List.mem_flatMap.1 h
  obtain ⟨h1, h2⟩ := List.mem_filter.1 h
  obtain ⟨q, hq, rfl⟩ := List.mem_map.1 h1
  obtain ⟨h3, h4⟩ := okC_iff.1 h2
  have hi' := List.mem_range.1 hi
  have hp : l.getD i ⟨0, 0, 0⟩ ∈ l := by
    simp only [List.getD, List.getElem?_eq_getElem hi', Option.getD_some]
    exact List.getElem_mem _
  exact ⟨⟨meet_pos (meet_d.1 h3), h4⟩, _, hp, q, List.mem_of_mem_take hq, meet_d.1 h3, rfl⟩
theorem in_corners {l : List Half} {p q : Half} (hp : p ∈ l) (hq : q ∈ l) (hd : (meet0 p q).d ≠ 0) (hin : In l (meet p q)) : meet p q ∈ cornersOf l := by
  obtain ⟨i, hi, rfl⟩ := List.getElem_of_mem hp
  obtain ⟨j, hj, rfl⟩ := List.getElem_of_mem hq
  have hij : i ≠ j := fun e => by
    subst e
    exact hd (meet_self_d _)
  have hok : okC l (meet l[i] l[j]) = true := okC_iff.2 ⟨meet_d.2 hd, hin.2⟩
  have get : ∀ (i : Nat) (hi : i < l.length), l.getD i ⟨0, 0, 0⟩ = l[i] := fun i hi => by simp [List.getD, List.getElem?_eq_getElem hi]
  have mem : ∀ (i j : Nat) (hi : i < l.length) (hj : j < l.length), j < i → l[j] ∈ l.take i := fun i j hi hj h => by
    rw [List.mem_iff_getElem]
    exact ⟨j, by simp; omega, by simp⟩
  rcases Nat.lt_or_ge j i with h | h
  · refine List.mem_flatMap.2 ⟨i, List.mem_range.2 hi, List.mem_filter.2 ⟨List.mem_map.2 ⟨l[j], mem i j hi hj h, ?_⟩, hok⟩⟩
    rw [get i hi]
  · refine List.mem_flatMap.2 ⟨j, List.mem_range.2 hj, List.mem_filter.2 ⟨List.mem_map.2 ⟨l[i], mem j i hj hi (by omega), ?_⟩, hok⟩⟩
    rw [get j hj]
    exact meet_comm hd
/-- a corner as far as a place -/
theorem far_corner {l : List Half} (hb : Bounded l) {p : Corner} (hp : In l p) (u v : Int) : ∃ c ∈ cornersOf l, In l c ∧ Far u v p c := by
  obtain ⟨h, hh, k, hk, hd, hin, hf⟩ := corner_far hb hp u v
  exact ⟨_, in_corners hh hk hd hin, hin, hf⟩
theorem some_iff {l : List Half} (hb : Bounded l) : cornersOf l ≠ [] ↔ ∃ p, In l p := by
  constructor
  · intro h
    obtain ⟨c, hc⟩ := List.exists_mem_of_ne_nil _ h
    exact ⟨c, (corner_in hc).1⟩
  · rintro ⟨p, hp⟩ h
    obtain ⟨c, hc, _⟩ := far_corner hb hp 0 0
    rw [h] at hc
    cases hc
/-! ### bounds -/
structure Span where
  lo : Int
  hi : Int
  deriving DecidableEq
def flo (a b : Int) : Int := a / b
def cei (a b : Int) : Int := -((-a) / b)
theorem flo_le {a b : Int} (h : 0 < b) : flo a b * b ≤ a ∧ a < (flo a b + 1) * b := by
  unfold flo
  refine ⟨Int.ediv_mul_le _ (by omega), ?_⟩
  have := Int.lt_ediv_add_one_mul_self a h
  exact this
theorem cei_le {a b : Int} (h : 0 < b) : a ≤ cei a b * b ∧ (cei a b - 1) * b < a := by
  have h1 := flo_le (a := -a) h
  unfold flo at h1
  unfold cei
  obtain ⟨q, hq⟩ : ∃ q, -a / b = q := ⟨_, rfl⟩
  rw [hq] at h1 ⊢
  have e1 : -q * b = -(q * b) := Int.neg_mul ..
  have e2 : (-q - 1) * b = -((q + 1) * b) := by rw [← Int.neg_mul]; congr 1; omega
  rw [e1, e2]
  omega
theorem flo_cei {a b : Int} (h : 0 < b) : flo a b ≤ cei a b := by
  have h1 := (flo_le (a := a) h).1
  have h2 := (cei_le (a := a) h).1
  exact Int.le_of_mul_le_mul_right (Int.le_trans h1 h2) h
def spanX (c : Corner) : Span := ⟨flo c.x c.d, cei c.x c.d⟩
def spanY (c : Corner) : Span := ⟨flo c.y c.d, cei c.y c.d⟩
def Span.hull (s t : Span) : Span := ⟨min s.lo t.lo, max s.hi t.hi⟩
def bndStep (acc : Option (Span × Span)) (c : Corner) : Option (Span × Span) := match acc with
  | none => some (spanX c, spanY c)
  | some a => some (a.1.hull (spanX c), a.2.hull (spanY c))
def bndOf (cs : List Corner) : Option (Span × Span) := cs.foldl bndStep none
structure BInv (cs : List Corner) (E N : Span) : Prop where
  x : ∀ c ∈ cs, E.lo ≤ flo c.x c.d ∧ cei c.x c.d ≤ E.hi
  y : ∀ c ∈ cs, N.lo ≤ flo c.y c.d ∧ cei c.y c.d ≤ N.hi
  xl : ∃ c ∈ cs, flo c.x c.d = E.lo
  xh : ∃ c ∈ cs, cei c.x c.d = E.hi
  yl : ∃ c ∈ cs, flo c.y c.d = N.lo
  yh : ∃ c ∈ cs, cei c.y c.d = N.hi
theorem bndOf_snoc (cs : List Corner) (c : Corner) : bndOf (cs ++ [c]) = bndStep (bndOf cs) c := by simp [bndOf]
theorem BInv.one (c : Corner) : BInv [c] (spanX c) (spanY c) := by
  refine ⟨?_, ?_, ⟨c, by simp, rfl⟩, ⟨c, by simp, rfl⟩, ⟨c, by simp, rfl⟩, ⟨c, by simp, rfl⟩⟩
  · intro d hd; rw [List.mem_singleton.1 hd]; exact ⟨Int.le_refl _, Int.le_refl _⟩
  · intro d hd; rw [List.mem_singleton.1 hd]; exact ⟨Int.le_refl _, Int.le_refl _⟩
theorem BInv.snoc {cs : List Corner} {E N : Span} (h : BInv cs E N) (c : Corner) : BInv (cs ++ [c]) (E.hull (spanX c)) (N.hull (spanY c)) := by
  obtain ⟨x, y, xl, xh, yl, yh⟩ := h
  have pick : ∀ (f : Corner → Int) (a b : Int), (∃ c ∈ cs, f c = a) → f c = b → ∀ m, m = a ∨ m = b → ∃ d ∈ cs ++ [c], f d = m := fun f a b h1 h2 m hm => by
    rcases hm with rfl | rfl
    · obtain ⟨d, hd, e⟩ := h1
      exact ⟨d, by simp [hd], e⟩
    · exact ⟨c, by simp, h2⟩
  refine ⟨fun d hd => ?_, fun d hd => ?_, ?_, ?_, ?_, ?_⟩
  · simp only [Span.hull, spanX]
    rcases List.mem_append.1 hd with hd | hd
    · have := x d hd; omega
    · rw [List.mem_singleton.1 hd]; omega
  · simp only [Span.hull, spanY]
    rcases List.mem_append.1 hd with hd | hd
    · have := y d hd; omega
    · rw [List.mem_singleton.1 hd]; omega
  · exact pick (fun c => flo c.x c.d) _ _ xl rfl _ (by simp only [Span.hull, spanX]; omega)
  · exact pick (fun c => cei c.x c.d) _ _ xh rfl _ (by simp only [Span.hull, spanX]; omega)
  · exact pick (fun c => flo c.y c.d) _ _ yl rfl _ (by simp only [Span.hull, spanY]; omega)
  · exact pick (fun c => cei c.y c.d) _ _ yh rfl _ (by simp only [Span.hull, spanY]; omega)
theorem bndOf_inv : ∀ (cs : List Corner), match bndOf cs with | none => cs = [] | some a => BInv cs a.1 a.2 := by
  intro cs
  rw [← List.reverse_reverse cs]
  generalize cs.reverse = r
  induction r with
  | nil => rfl
  | cons c r ih =>
    rw [List.reverse_cons, bndOf_snoc]
    cases hb : bndOf r.reverse with
    | none =>
      rw [hb] at ih
      simp only at ih
      rw [ih]
      exact BInv.one c
    | some a =>
      rw [hb] at ih
      exact BInv.snoc ih c
/-- the least whole spans of a set of places -/
structure IsB (S : Corner → Prop) (E N : Span) : Prop where
  xl : ∀ p, S p → E.lo * p.d ≤ p.x
  xh : ∀ p, S p → p.x ≤ E.hi * p.d
  yl : ∀ p, S p → N.lo * p.d ≤ p.y
  yh : ∀ p, S p → p.y ≤ N.hi * p.d
  xl' : ∃ p, S p ∧ p.x < (E.lo + 1) * p.d
  xh' : ∃ p, S p ∧ (E.hi - 1) * p.d < p.x
  yl' : ∃ p, S p ∧ p.y < (N.lo + 1) * p.d
  yh' : ∃ p, S p ∧ (N.hi - 1) * p.d < p.y
/-- further than a place there is a corner -/
theorem far_le {l : List Half} (hb : Bounded l) {p : Corner} (hp : In l p) (u v M : Int) (h : ∀ c ∈ cornersOf l, u * c.x + v * c.y ≤ M * c.d) : u * p.x + v * p.y ≤ M * p.d := by
  obtain ⟨c, hc, hcin, hf⟩ := far_corner hb hp u v
  have h1 := h c hc
  unfold Far at hf
  have h2 := Int.mul_le_mul_of_nonneg_right h1 (Int.le_of_lt hp.1)
  refine Int.le_of_mul_le_mul_right ?_ hcin.1
  rw [Int.mul_right_comm M p.d c.d]
  exact Int.le_trans hf h2
theorem bnd_sem {l : List Half} (hb : Bounded l) {E N : Span} (h : bndOf (cornersOf l) = some (E, N)) : IsB (In l) E N := by
  have inv := bndOf_inv (cornersOf l)
  rw [h] at inv
  simp only at inv
  obtain ⟨x, y, xl, xh, yl, yh⟩ := inv
  have pos : ∀ c ∈ cornersOf l, 0 < c.d := fun c hc => (corner_in hc).1.1
  refine ⟨fun p hp => ?_, fun p hp => ?_, fun p hp => ?_, fun p hp => ?_, ?_, ?_, ?_, ?_⟩
  · have := far_le hb hp (-1) 0 (-E.lo) (fun c hc => by
      have e := Int.neg_mul E.lo c.d
      have h1 := (flo_le (a := c.x) (pos c hc)).1
      have h2 := Int.mul_le_mul_of_nonneg_right (x c hc).1 (Int.le_of_lt (pos c hc))
      omega)
    have e := Int.neg_mul E.lo p.d
    omega
  · have := far_le hb hp 1 0 E.hi (fun c hc => by
      have h1 := (cei_le (a := c.x) (pos c hc)).1
      have h2 := Int.mul_le_mul_of_nonneg_right (x c hc).2 (Int.le_of_lt (pos c hc))
      omega)
    omega
  · have := far_le hb hp 0 (-1) (-N.lo) (fun c hc => by
      have e := Int.neg_mul N.lo c.d
      have h1 := (flo_le (a := c.y) (pos c hc)).1
      have h2 := Int.mul_le_mul_of_nonneg_right (y c hc).1 (Int.le_of_lt (pos c hc))
      omega)
    have e := Int.neg_mul N.lo p.d
    omega
  · have := far_le hb hp 0 1 N.hi (fun c hc => by
      have h1 := (cei_le (a := c.y) (pos c hc)).1
      have h2 := Int.mul_le_mul_of_nonneg_right (y c hc).2 (Int.le_of_lt (pos c hc))
      omega)
    omega
  · obtain ⟨c, hc, e⟩ := xl
    exact ⟨c, (corner_in hc).1, by rw [← e]; exact (flo_le (pos c hc)).2⟩
  · obtain ⟨c, hc, e⟩ := xh
    exact ⟨c, (corner_in hc).1, by rw [← e]; exact (cei_le (pos c hc)).2⟩
  · obtain ⟨c, hc, e⟩ := yl
    exact ⟨c, (corner_in hc).1, by rw [← e]; exact (flo_le (pos c hc)).2⟩
  · obtain ⟨c, hc, e⟩ := yh
    exact ⟨c, (corner_in hc).1, by rw [← e]; exact (cei_le (pos c hc)).2⟩
def Span.inner (a b : Span) : Prop := b.lo ≤ a.lo ∧ a.hi ≤ b.hi
theorem IsB.mono {S T : Corner → Prop} {E N E' N' : Span} (h : IsB S E N) (h' : IsB T E' N') (hd : ∀ p, S p → 0 < p.d) (hs : ∀ p, S p → T p) : E.inner E' ∧ N.inner N' := by
  have low : ∀ (a b x d : Int), 0 < d → b * d ≤ x → x < (a + 1) * d → b ≤ a := fun a b x d h1 h2 h3 => by
    have := Int.lt_of_mul_lt_mul_right (Int.lt_of_le_of_lt h2 h3) (Int.le_of_lt h1)
    omega
  have high : ∀ (a b x d : Int), 0 < d → x ≤ b * d → (a - 1) * d < x → a ≤ b := fun a b x d h1 h2 h3 => by
    have := Int.lt_of_mul_lt_mul_right (Int.lt_of_lt_of_le h3 h2) (Int.le_of_lt h1)
    omega
  obtain ⟨p, hp, e⟩ := h.xl'
  obtain ⟨q, hq, f⟩ := h.xh'
  obtain ⟨r, hr, g⟩ := h.yl'
  obtain ⟨s, hs', k⟩ := h.yh'
  exact ⟨⟨low _ _ _ _ (hd p hp) (h'.xl p (hs p hp)) e, high _ _ _ _ (hd q hq) (h'.xh q (hs q hq)) f⟩, low _ _ _ _ (hd r hr) (h'.yl r (hs r hr)) g, high _ _ _ _ (hd s hs') (h'.yh s (hs s hs')) k⟩
theorem IsB.uniq {S T : Corner → Prop} {E N E' N' : Span} (h : IsB S E N) (h' : IsB T E' N') (hd : ∀ p, S p → 0 < p.d) (hs : ∀ p, S p ↔ T p) : E = E' ∧ N = N' := by
  obtain ⟨⟨a1, a2⟩, b1, b2⟩ := h.mono h' hd fun p => (hs p).1
  obtain ⟨⟨c1, c2⟩, d1, d2⟩ := h'.mono h (fun p hp => hd p ((hs p).2 hp)) fun p => (hs p).2
  cases E; cases E'; cases N; cases N'
  simp only [Span.mk.injEq] at *
  omega
theorem bnd_none {l : List Half} : bndOf (cornersOf l) = none ↔ cornersOf l = [] := by
  have inv := bndOf_inv (cornersOf l)
  constructor
  · intro h
    rw [h] at inv
    exact inv
  · intro h
    rw [h]
    rfl
/-! ### what the guide tells -/
def inB (n lo hi : Int) : Bool := decide (lo ≤ n) && decide (n ≤ hi)
def partOk (n : Int) : Bool := inB n (-1000) 1000
def edgeOk (n : Int) : Bool := inB n (-100000000000) 100000000000
def placeOk (n : Int) : Bool := inB n (-10000000) 10000000
def spanOk (s : Span) (lo hi : Int) : Bool := decide (lo ≤ s.lo) && decide (s.lo ≤ s.hi) && decide (s.hi ≤ hi)
def halfOk (h : Half) : Bool := partOk h.a && partOk h.b && (h.a != 0 || h.b != 0) && edgeOk h.c
def zh : Half := ⟨0, 0, 0⟩
def zs : Span := ⟨0, 0⟩
def isAB (l : List Half) (i : Nat) (a b : Int) : Bool := (l.getD i zh).a == a && (l.getD i zh).b == b
def head4 (l : List Half) : Bool := isAB l 0 1 0 && isAB l 1 (-1) 0 && isAB l 2 0 1 && isAB l 3 0 (-1)
def areaOk (l : List Half) : Bool := decide (4 ≤ l.length) && decide (l.length ≤ 40) && head4 l && l.all halfOk
def box (e n : Span) : List Half := [⟨1, 0, e.hi⟩, ⟨-1, 0, -e.lo⟩, ⟨0, 1, n.hi⟩, ⟨0, -1, -n.lo⟩]
def around (x y far : Int) : List Half := box ⟨x - far, x + far⟩ ⟨y - far, y + far⟩
structure Sight where
  kind : Int
  x : Int
  y : Int
  fx : Int
  fy : Int
  tx : Int
  ty : Int
  nl : Int
  nh : Int
  far : Int
  deriving DecidableEq
def pointedB (s : Sight) : Bool := placeOk s.x && placeOk s.y && (partOk s.fx && partOk s.fy && partOk s.tx && partOk s.ty) && decide (s.fy * s.tx < s.fx * s.ty)
def risenB (s : Sight) : Bool := spanOk ⟨s.nl, s.nh⟩ (-10000000) 10000000
def closeB (s : Sight) : Bool := placeOk s.x && placeOk s.y && inB s.far 0 10000000
def sightOk (s : Sight) : Bool := if s.kind = 1 then pointedB s else if s.kind = 2 then risenB s else if s.kind = 3 then closeB s else false
def wedge (s : Sight) : List Half := [⟨-s.fy, s.fx, s.fx * s.y - s.fy * s.x⟩, ⟨s.ty, -s.tx, s.ty * s.x - s.tx * s.y⟩]
def strip (s : Sight) : List Half := [⟨0, 1, s.nh⟩, ⟨0, -1, -s.nl⟩]
def halvesOf (s : Sight) : List Half := if s.kind = 1 then wedge s else if s.kind = 2 then strip s else around s.x s.y s.far
structure Trek where
  d : Span
  e : Span
  n : Span
  deriving DecidableEq
def trekOk (t : Trek) : Bool := spanOk t.d 0 60 && spanOk t.e (-100000) 100000 && spanOk t.n (-100000) 100000
def times (a b : Span) : Span := ⟨min (min (a.lo * b.lo) (a.lo * b.hi)) (min (a.hi * b.lo) (a.hi * b.hi)), max (max (a.lo * b.lo) (a.lo * b.hi)) (max (a.hi * b.lo) (a.hi * b.hi))⟩
def movedH (X Y : Span) (h : Half) : Half := ⟨h.a, h.b, h.c + (max (h.a * X.lo) (h.a * X.hi) + max (h.b * Y.lo) (h.b * Y.hi))⟩
def movedOf (l : List Half) (t : Trek) : List Half := l.map (movedH (times t.d t.e) (times t.d t.n))
def fitB (l : List Half) : Bool := l.all fun h => edgeOk h.c
def someB (l : List Half) : Bool := !(cornersOf l).isEmpty
def checkOf (l : List Half) : Int := if areaOk l then 0 else 40
def startOf (e n : Span) : List Half × Int := if spanOk e (-10000000) 10000000 && spanOk n (-10000000) 10000000 then (box e n, 0) else ([], 2)
def boundsOf (l : List Half) : Span × Span × Int := if areaOk l then (match bndOf (cornersOf l) with | some a => (a.1, a.2, 0) | none => (zs, zs, 43)) else (zs, zs, 40)
def seeOf (l : List Half) (s : Sight) : List Half × Int :=
  if areaOk l = false then ([], 40) else if sightOk s = false then ([], 41) else if 40 < l.length + (halvesOf s).length then ([], 9) else
  if someB (l ++ halvesOf s) = false then ([], 43) else (l ++ halvesOf s, 0)
def marchOf (l : List Half) (t : Trek) : List Half × Int :=
  if areaOk l = false then ([], 40) else if trekOk t = false then ([], 42) else if fitB (movedOf l t) = false then ([], 9) else
  if someB l = false then ([], 43) else (movedOf l t, 0)
def askedOf (l : List Half) (x y far : Int) : Int :=
  if areaOk l = false then 40 else if (placeOk x && placeOk y && inB far 0 10000000) = false then 2 else if someB l = false then 43 else 0
def knownOf (l : List Half) (x y far : Int) : Int :=
  if someB (l ++ around x y far) = false then 0 else if (cornersOf l).all (fun c => (around x y far).all fun h => inH h c) then 2 else 1
def nearOf (l : List Half) (x y far : Int) : Int × Int := if askedOf l x y far ≠ 0 then (0, askedOf l x y far) else (knownOf l x y far, 0)
/-- halves on the way, by treks -/
def wayTo (l : List Half) (ts : List Trek) (n : Nat) : List Half := (ts.take n).foldl movedOf l
def noteMay (v k : Int) (n : Nat) : Int := if 0 < k ∧ v < 0 then n else v
def noteSure (v k : Int) (n : Nat) : Int := if k = 2 ∧ v < 0 then n else v
def findTo (l : List Half) (ts : List Trek) (x y far : Int) : Nat → Option (Int × Int)
  | 0 => some (noteMay (-1) (knownOf l x y far) 0, noteSure (-1) (knownOf l x y far) 0)
  | n + 1 => match findTo l ts x y far n with
    | none => none
    | some a => if fitB (wayTo l ts (n + 1)) then some (noteMay a.1 (knownOf (wayTo l ts (n + 1)) x y far) (n + 1), noteSure a.2 (knownOf (wayTo l ts (n + 1)) x y far) (n + 1)) else none
def findsOf (l : List Half) (ts : List Trek) (x y far : Int) : Int × Int × Int :=
  if askedOf l x y far ≠ 0 then (0, 0, askedOf l x y far) else if 60 < ts.length then (0, 0, 4) else if ts.all trekOk = false then (0, 0, 42) else
  match findTo l ts x y far ts.length with
  | none => (0, 0, 9)
  | some a => (a.1, a.2, 0)
/-- the halves of all looks but some -/
def allBut (l : List Half) (looks : List Sight) (out : Nat → Bool) : List Half := l ++ (List.range looks.length).flatMap fun i => if out i then [] else halvesOf (looks.getD i ⟨0, 0, 0, 0, 0, 0, 0, 0, 0, 0⟩)
/-- which looks have been left out, when the first n have been tried -/
def outTo (l : List Half) (looks : List Sight) : Nat → Nat → Bool
  | 0 => fun _ => false
  | n + 1 => fun i => if i = n then !someB (allBut l looks fun j => j == n || outTo l looks n j) else outTo l looks n i
def clashOf (l : List Half) (looks : List Sight) : List Int × Int :=
  if areaOk l = false then ([], 40) else if 10 < looks.length then ([], 4) else if looks.all sightOk = false then ([], 41) else
  if someB (allBut l looks fun _ => false) then ([], 6) else
  (((List.range looks.length).filter fun i => !outTo l looks looks.length i).map fun i : Nat => (i : Int), 0)

/-! ### what it means -/
theorem In.append {l m : List Half} {p : Corner} : In (l ++ m) p ↔ In l p ∧ In m p := by
  unfold In
  simp only [List.mem_append]
  constructor
  · rintro ⟨h1, h2⟩
    exact ⟨⟨h1, fun h hh => h2 h (.inl hh)⟩, h1, fun h hh => h2 h (.inr hh)⟩
  · rintro ⟨⟨h1, h2⟩, _, h3⟩
    exact ⟨h1, fun h hh => hh.elim (h2 h) (h3 h)⟩
theorem isAB_mem {l : List Half} {i : Nat} {a b : Int} (hi : i < l.length) (h : isAB l i a b = true) : ∃ k ∈ l, k.a = a ∧ k.b = b := by
  simp only [isAB, Bool.and_eq_true, beq_iff_eq] at h
  refine ⟨l.getD i zh, ?_, h⟩
  simp only [List.getD, List.getElem?_eq_getElem hi, Option.getD_some]
  exact List.getElem_mem _
structure AreaOk (l : List Half) : Prop where
  len : 4 ≤ l.length ∧ l.length ≤ 40
  ab : head4 l = true
  each : ∀ h ∈ l, -1000 ≤ h.a ∧ h.a ≤ 1000 ∧ -1000 ≤ h.b ∧ h.b ≤ 1000 ∧ (h.a ≠ 0 ∨ h.b ≠ 0) ∧ -100000000000 ≤ h.c ∧ h.c ≤ 100000000000
theorem halfOk_iff {h : Half} : halfOk h = true ↔ -1000 ≤ h.a ∧ h.a ≤ 1000 ∧ -1000 ≤ h.b ∧ h.b ≤ 1000 ∧ (h.a ≠ 0 ∨ h.b ≠ 0) ∧ -100000000000 ≤ h.c ∧ h.c ≤ 100000000000 := by
  simp [halfOk, partOk, edgeOk, inB]
  omega
theorem areaOk_iff {l : List Half} : areaOk l = true ↔ AreaOk l := by
  simp only [areaOk, Bool.and_eq_true, decide_eq_true_eq, List.all_eq_true]
  constructor
  · rintro ⟨⟨⟨h1, h2⟩, h3⟩, h4⟩
    exact ⟨⟨h1, h2⟩, h3, fun h hh => halfOk_iff.1 (h4 h hh)⟩
  · rintro ⟨⟨h1, h2⟩, h3, h4⟩
    exact ⟨⟨⟨h1, h2⟩, h3⟩, fun h hh => halfOk_iff.2 (h4 h hh)⟩
theorem bounded_of {l : List Half} (h4 : head4 l = true) (h : 4 ≤ l.length) (m : List Half) : Bounded (l ++ m) := by
  simp only [head4, Bool.and_eq_true] at h4
  obtain ⟨⟨⟨e0, e1⟩, e2⟩, e3⟩ := h4
  intro x y hxy
  have get : ∀ i a b, i < 4 → isAB l i a b = true → 0 < a * x + b * y → ∃ h ∈ l ++ m, 0 < h.a * x + h.b * y := fun i a b hi e hp => by
    obtain ⟨k, hk, ka, kb⟩ := isAB_mem (by omega) e
    exact ⟨k, List.mem_append_left _ hk, by rw [ka, kb]; exact hp⟩
  by_cases hx : 0 < x
  · exact get 0 1 0 (by omega) e0 (by omega)
  · by_cases hx2 : x < 0
    · exact get 1 (-1) 0 (by omega) e1 (by omega)
    · by_cases hy : 0 < y
      · exact get 2 0 1 (by omega) e2 (by omega)
      · exact get 3 0 (-1) (by omega) e3 (by omega)
theorem AreaOk.bounded {l : List Half} (h : AreaOk l) (m : List Half) : Bounded (l ++ m) := bounded_of h.ab h.len.1 m
theorem AreaOk.bnd {l : List Half} (h : AreaOk l) : Bounded l := by have := h.bounded []; rwa [List.append_nil] at this
theorem someB_iff {l : List Half} (h : Bounded l) : someB l = true ↔ ∃ p, In l p := by
  rw [← some_iff h]
  unfold someB
  cases cornersOf l <;> simp
theorem someB_false {l : List Half} (h : Bounded l) : someB l = false ↔ ∀ p, ¬In l p := by
  have := someB_iff h
  cases hs : someB l with
  | true =>
    rw [hs] at this
    obtain ⟨p, hp⟩ := this.1 rfl
    constructor
    · intro e; cases e
    · intro e; exact absurd hp (e p)
  | false =>
    rw [hs] at this
    constructor
    · intro _ p hp
      cases this.2 ⟨p, hp⟩
    · intro _; rfl
theorem box_iff {e n : Span} {p : Corner} : In (box e n) p ↔ 0 < p.d ∧ e.lo * p.d ≤ p.x ∧ p.x ≤ e.hi * p.d ∧ n.lo * p.d ≤ p.y ∧ p.y ≤ n.hi * p.d := by
  unfold In box
  simp only [List.mem_cons, List.not_mem_nil, or_false, forall_eq_or_imp, forall_eq]
  have e1 := Int.neg_mul e.lo p.d
  have e2 := Int.neg_mul n.lo p.d
  omega
/-- a place is known to be near: all places of an area are near it -/
theorem known_two {l : List Half} (hb : Bounded l) {x y far : Int} (h : (cornersOf l).all (fun c => (around x y far).all fun h => inH h c) = true) : ∀ p, In l p → In (around x y far) p := by
  intro p hp
  refine ⟨hp.1, fun k hk => ?_⟩
  exact far_le hb hp k.a k.b k.c fun c hc => by
    have := List.all_eq_true.1 (List.all_eq_true.1 h c hc) k hk
    simpa [inH] using this
theorem known_two' {l : List Half} {x y far : Int} (h : ∀ p, In l p → In (around x y far) p) : (cornersOf l).all (fun c => (around x y far).all fun h => inH h c) = true := by
  refine List.all_eq_true.2 fun c hc => List.all_eq_true.2 fun k hk => ?_
  have := (h c (corner_in hc).1).2 k hk
  simpa [inH] using this
structure Known (l : List Half) (x y far k : Int) : Prop where
  range : k = 0 ∨ k = 1 ∨ k = 2
  no : k = 0 ↔ ∀ p, In l p → ¬In (around x y far) p
  yes : k = 2 ↔ (∃ p, In l p) ∧ ∀ p, In l p → In (around x y far) p
theorem known_of {l : List Half} (hb : ∀ m, Bounded (l ++ m)) (x y far : Int) : Known l x y far (knownOf l x y far) := by
  have hb0 : Bounded l := by have := hb []; rwa [List.append_nil] at this
  unfold knownOf
  by_cases h0 : someB (l ++ around x y far) = false
  · rw [if_pos h0]
    have h1 := (someB_false (hb _)).1 h0
    refine ⟨.inl rfl, ⟨fun _ p hp hq => h1 p (In.append.2 ⟨hp, hq⟩), fun _ => rfl⟩, ⟨fun e => by omega, fun ⟨⟨p, hp⟩, e⟩ => absurd (In.append.2 ⟨hp, e p hp⟩) (h1 p)⟩⟩
  · rw [if_neg h0]
    have h1 : someB (l ++ around x y far) = true := by simpa using h0
    obtain ⟨p, hp⟩ := (someB_iff (hb _)).1 h1
    obtain ⟨hp1, hp2⟩ := In.append.1 hp
    by_cases h2 : (cornersOf l).all (fun c => (around x y far).all fun h => inH h c) = true
    · rw [if_pos h2]
      refine ⟨.inr (.inr rfl), ⟨fun e => by omega, fun e => absurd hp2 (e p hp1)⟩, ⟨fun _ => ⟨⟨p, hp1⟩, known_two hb0 h2⟩, fun _ => rfl⟩⟩
    · rw [if_neg h2]
      exact ⟨.inr (.inl rfl), ⟨fun e => by omega, fun e => absurd hp2 (e p hp1)⟩, ⟨fun e => by omega, fun e => absurd (known_two' e.2) h2⟩⟩
/-! ### looks -/
def seenB (s : Sight) (x y : Int) : Bool :=
  if s.kind = 1 then decide (0 ≤ s.fx * (s.y - y) - s.fy * (s.x - x)) && decide (0 ≤ (s.x - x) * s.ty - (s.y - y) * s.tx) else
  if s.kind = 2 then decide (s.nl ≤ y) && decide (y ≤ s.nh) else decide (s.x - x ≤ s.far) && decide (x - s.x ≤ s.far) && decide (s.y - y ≤ s.far) && decide (y - s.y ≤ s.far)
def pt (x y : Int) : Corner := ⟨x, y, 1⟩
theorem pt_in {l : List Half} {x y : Int} : In l (pt x y) ↔ ∀ h ∈ l, h.a * x + h.b * y ≤ h.c := by
  unfold In pt
  simp
theorem seen_in {s : Sight} {x y : Int} (h : seenB s x y = true) : In (halvesOf s) (pt x y) := by
  rw [pt_in]
  unfold seenB at h
  unfold halvesOf
  split at h
  · rename_i h1
    rw [if_pos h1]
    simp only [Bool.and_eq_true, decide_eq_true_eq] at h
    obtain ⟨e1, e2⟩ := h
    rw [Int.mul_sub, Int.mul_sub] at e1
    rw [Int.sub_mul, Int.sub_mul] at e2
    intro k hk
    simp only [wedge, List.mem_cons, List.not_mem_nil, or_false] at hk
    rcases hk with rfl | rfl
    · simp only [Int.neg_mul]
      omega
    · simp only [Int.neg_mul]
      rw [Int.mul_comm s.x s.ty, Int.mul_comm x s.ty, Int.mul_comm s.y s.tx, Int.mul_comm y s.tx] at e2
      omega
  · rename_i h1
    rw [if_neg h1]
    split at h
    · rename_i h2
      rw [if_pos h2]
      simp only [Bool.and_eq_true, decide_eq_true_eq] at h
      intro k hk
      simp only [strip, List.mem_cons, List.not_mem_nil, or_false] at hk
      rcases hk with rfl | rfl <;> simp only <;> omega
    · rename_i h2
      rw [if_neg h2]
      simp only [Bool.and_eq_true, decide_eq_true_eq] at h
      intro k hk
      simp only [around, box, List.mem_cons, List.not_mem_nil, or_false] at hk
      rcases hk with rfl | rfl | rfl | rfl <;> simp only <;> omega
theorem mul_le {a b A B : Int} (h0 : -A ≤ a) (h1 : a ≤ A) (k0 : -B ≤ b) (k1 : b ≤ B) : -(A * B) ≤ a * b ∧ a * b ≤ A * B := by
  have hA : 0 ≤ A := by omega
  have hB : 0 ≤ B := by omega
  have e1 := Int.mul_nonneg (show 0 ≤ A - a by omega) (show 0 ≤ B - b by omega)
  have e2 := Int.mul_nonneg (show 0 ≤ A + a by omega) (show 0 ≤ B + b by omega)
  have e3 := Int.mul_nonneg (show 0 ≤ A - a by omega) (show 0 ≤ B + b by omega)
  have e4 := Int.mul_nonneg (show 0 ≤ A + a by omega) (show 0 ≤ B - b by omega)
  rw [Int.sub_mul, Int.mul_sub, Int.mul_sub] at e1
  rw [Int.add_mul, Int.mul_add, Int.mul_add] at e2
  rw [Int.sub_mul, Int.mul_add, Int.mul_add] at e3
  rw [Int.add_mul, Int.mul_sub, Int.mul_sub] at e4
  omega
/-- the numbers of a half that a look may tell -/
def HalfIn (h : Half) : Prop := -1000 ≤ h.a ∧ h.a ≤ 1000 ∧ -1000 ≤ h.b ∧ h.b ≤ 1000 ∧ (h.a ≠ 0 ∨ h.b ≠ 0) ∧ -100000000000 ≤ h.c ∧ h.c ≤ 100000000000
theorem around_ok {x y far : Int} (h : (placeOk x && placeOk y && inB far 0 10000000) = true) : ∀ k ∈ around x y far, HalfIn k := by
  simp only [placeOk, inB, Bool.and_eq_true, decide_eq_true_eq] at h
  intro k hk
  simp only [around, box, List.mem_cons, List.not_mem_nil, or_false] at hk
  unfold HalfIn
  rcases hk with rfl | rfl | rfl | rfl <;> simp only <;> omega
theorem halves_ok {s : Sight} (h : sightOk s = true) : ∀ k ∈ halvesOf s, HalfIn k := by
  unfold sightOk at h
  unfold halvesOf
  split at h
  · rename_i h1
    rw [if_pos h1]
    simp only [pointedB, placeOk, partOk, inB, Bool.and_eq_true, decide_eq_true_eq] at h
    obtain ⟨⟨⟨⟨x0, x1⟩, y0, y1⟩, ⟨⟨⟨a0, a1⟩, b0, b1⟩, c0, c1⟩, d0, d1⟩, hx⟩ := h
    have m1 := mul_le a0 a1 y0 y1
    have m2 := mul_le b0 b1 x0 x1
    have m3 := mul_le d0 d1 x0 x1
    have m4 := mul_le c0 c1 y0 y1
    simp only [Int.reduceMul, Int.reduceNeg] at m1 m2 m3 m4
    have hf : s.fx ≠ 0 ∨ s.fy ≠ 0 := by
      by_cases e : s.fx = 0
      · by_cases e2 : s.fy = 0
        · rw [e, e2] at hx; omega
        · exact .inr e2
      · exact .inl e
    have ht : s.tx ≠ 0 ∨ s.ty ≠ 0 := by
      by_cases e : s.tx = 0
      · by_cases e2 : s.ty = 0
        · rw [e, e2] at hx; omega
        · exact .inr e2
      · exact .inl e
    intro k hk
    simp only [wedge, List.mem_cons, List.not_mem_nil, or_false] at hk
    unfold HalfIn
    rcases hk with rfl | rfl <;> simp only <;> omega
  · rename_i h1
    rw [if_neg h1]
    split at h
    · rename_i h2
      rw [if_pos h2]
      simp only [risenB, spanOk, Bool.and_eq_true, decide_eq_true_eq] at h
      intro k hk
      simp only [strip, List.mem_cons, List.not_mem_nil, or_false] at hk
      unfold HalfIn
      rcases hk with rfl | rfl <;> simp only <;> omega
    · rename_i h2
      rw [if_neg h2]
      split at h
      · exact around_ok h
      · cases h
theorem head4_app {l : List Half} (h : 4 ≤ l.length) (m : List Half) : head4 (l ++ m) = head4 l := by
  have get : ∀ i, i < 4 → (l ++ m).getD i zh = l.getD i zh := fun i hi => by
    simp only [List.getD]
    rw [List.getElem?_append_left (by omega)]
  simp only [head4, isAB, get 0 (by omega), get 1 (by omega), get 2 (by omega), get 3 (by omega)]
theorem AreaOk.more {l m : List Half} (h : AreaOk l) (hm : ∀ k ∈ m, HalfIn k) (hl : l.length + m.length ≤ 40) : AreaOk (l ++ m) := by
  refine ⟨by simp only [List.length_append]; have := h.len.1; omega, by rw [head4_app h.len.1]; exact h.ab, fun k hk => ?_⟩
  rcases List.mem_append.1 hk with hk | hk
  · exact h.each k hk
  · exact hm k hk
theorem halves_len (s : Sight) : 2 ≤ (halvesOf s).length ∧ (halvesOf s).length ≤ 4 := by
  unfold halvesOf
  split
  · simp [wedge]
  · split
    · simp [strip]
    · simp [around, box]
structure See (l : List Half) (s : Sight) : Prop where
  fits : l.length + (halvesOf s).length ≤ 40
  some : ∃ p, In (l ++ halvesOf s) p
  ok : AreaOk (l ++ halvesOf s)
theorem see_zero {l : List Half} {s : Sight} (h : AreaOk l) (hs : sightOk s = true) : (seeOf l s).2 = 0 ∨ (seeOf l s).2 = 9 ∨ (seeOf l s).2 = 43 := by
  unfold seeOf
  rw [if_neg (by rw [areaOk_iff.2 h]; simp), if_neg (by rw [hs]; simp)]
  split
  · exact .inr (.inl rfl)
  · split
    · exact .inr (.inr rfl)
    · exact .inl rfl
theorem see_ok {l : List Half} {s : Sight} (h : AreaOk l) (hs : sightOk s = true) : ((seeOf l s).2 = 0 ↔ l.length + (halvesOf s).length ≤ 40 ∧ ∃ p, In (l ++ halvesOf s) p) ∧ ((seeOf l s).2 = 9 ↔ 40 < l.length + (halvesOf s).length) ∧ ((seeOf l s).2 = 0 → seeOf l s = (l ++ halvesOf s, 0)) ∧ ((seeOf l s).2 ≠ 0 → (seeOf l s).1 = []) := by
  unfold seeOf
  rw [if_neg (by rw [areaOk_iff.2 h]; simp), if_neg (by rw [hs]; simp)]
  have hb := h.bounded (halvesOf s)
  by_cases h1 : 40 < l.length + (halvesOf s).length
  · rw [if_pos h1]
    simp only
    exact ⟨⟨fun e => by omega, fun e => by omega⟩, ⟨fun _ => h1, fun _ => by trivial⟩, fun e => by omega, fun _ => by trivial⟩
  · rw [if_neg h1]
    by_cases h2 : someB (l ++ halvesOf s) = false
    · rw [if_pos h2]
      have h3 := (someB_false hb).1 h2
      simp only
      refine ⟨⟨fun e => by omega, fun ⟨_, p, hp⟩ => absurd hp (h3 p)⟩, ⟨fun e => by omega, fun e => absurd e h1⟩, fun e => by omega, fun _ => by trivial⟩
    · rw [if_neg h2]
      have h3 := (someB_iff hb).1 (by simpa using h2)
      simp only
      exact ⟨⟨fun _ => ⟨by omega, h3⟩, fun _ => by trivial⟩, ⟨fun e => by omega, fun e => absurd e h1⟩, fun _ => by trivial, fun e => absurd rfl e⟩
/-! ### bounds of an area -/
structure Told (l : List Half) (r : Span × Span × Int) : Prop where
  err : r.2.2 = 0 ∨ r.2.2 = 43
  is : r.2.2 = 0 ↔ ∃ p, In l p
  sem : r.2.2 = 0 → IsB (In l) r.1 r.2.1
  none : r.2.2 = 43 → r.1 = zs ∧ r.2.1 = zs
theorem bounds_told {l : List Half} (h : AreaOk l) : Told l (boundsOf l) := by
  unfold boundsOf
  rw [if_pos (areaOk_iff.2 h)]
  have hs := some_iff h.bnd
  cases hb : bndOf (cornersOf l) with
  | none =>
    have h0 := bnd_none.1 hb
    refine ⟨.inr rfl, ⟨fun e => by simp at e, fun e => absurd h0 (hs.2 e)⟩, fun e => by simp at e, fun _ => ⟨rfl, rfl⟩⟩
  | some a =>
    exact ⟨.inl rfl, ⟨fun _ => hs.1 (fun e => by rw [bnd_none.2 e] at hb; cases hb), fun _ => rfl⟩, fun _ => bnd_sem h.bnd hb, fun e => by simp at e⟩
/-! ### treks -/
theorem lin_max {a b t e : Int} (h1 : a ≤ t) (h2 : t ≤ b) : t * e ≤ max (a * e) (b * e) ∧ min (a * e) (b * e) ≤ t * e := by
  rcases Int.le_total 0 e with h | h
  · have e1 := Int.mul_le_mul_of_nonneg_right h1 h
    have e2 := Int.mul_le_mul_of_nonneg_right h2 h
    omega
  · have e1 := Int.mul_le_mul_of_nonpos_right h1 h
    have e2 := Int.mul_le_mul_of_nonpos_right h2 h
    omega
theorem lin_max' {a b t e : Int} (h1 : a ≤ t) (h2 : t ≤ b) : e * t ≤ max (e * a) (e * b) ∧ min (e * a) (e * b) ≤ e * t := by
  rw [Int.mul_comm e t, Int.mul_comm e a, Int.mul_comm e b]
  exact lin_max h1 h2
theorem times_mem {D E : Span} {d e : Int} (d0 : D.lo ≤ d) (d1 : d ≤ D.hi) (e0 : E.lo ≤ e) (e1 : e ≤ E.hi) : (times D E).lo ≤ d * e ∧ d * e ≤ (times D E).hi := by
  have h1 := lin_max (e := e) d0 d1
  have h2 := lin_max' (e := D.lo) e0 e1
  have h3 := lin_max' (e := D.hi) e0 e1
  simp only [times]
  omega
theorem times_mono {D E D' E' : Span} (hd : D'.inner D) (he : E'.inner E) (h1 : D'.lo ≤ D'.hi) (h2 : E'.lo ≤ E'.hi) : (times D' E').inner (times D E) := by
  obtain ⟨a1, a2⟩ := hd
  obtain ⟨b1, b2⟩ := he
  have m1 := times_mem (D := D) (E := E) (d := D'.lo) (e := E'.lo) a1 (by omega) b1 (by omega)
  have m2 := times_mem (D := D) (E := E) (d := D'.lo) (e := E'.hi) a1 (by omega) (by omega) b2
  have m3 := times_mem (D := D) (E := E) (d := D'.hi) (e := E'.lo) (by omega) a2 b1 (by omega)
  have m4 := times_mem (D := D) (E := E) (d := D'.hi) (e := E'.hi) (by omega) a2 (by omega) b2
  generalize times D E = T at *
  unfold Span.inner
  simp only [times]
  omega
theorem times_le (D E : Span) : (times D E).lo ≤ (times D E).hi := by
  simp only [times]
  omega
/-- a place that is moved within what is known -/
theorem moved_in {l : List Half} {X Y : Span} {p : Corner} {u v : Int} (hp : In l p) (u0 : X.lo ≤ u) (u1 : u ≤ X.hi) (v0 : Y.lo ≤ v) (v1 : v ≤ Y.hi) : In (l.map (movedH X Y)) ⟨p.x + u * p.d, p.y + v * p.d, p.d⟩ := by
  refine ⟨hp.1, fun k hk => ?_⟩
  obtain ⟨h, hh, rfl⟩ := List.mem_map.1 hk
  have h0 := hp.2 h hh
  have h1 := (lin_max' (e := h.a) u0 u1).1
  have h2 := (lin_max' (e := h.b) v0 v1).1
  have hd := Int.le_of_lt hp.1
  have g1 := Int.mul_le_mul_of_nonneg_right h1 hd
  have g2 := Int.mul_le_mul_of_nonneg_right h2 hd
  simp only [movedH]
  generalize max (h.a * X.lo) (h.a * X.hi) = M at *
  generalize max (h.b * Y.lo) (h.b * Y.hi) = N at *
  rw [Int.mul_add, Int.mul_add, Int.add_mul, Int.add_mul, ← Int.mul_assoc, ← Int.mul_assoc]
  omega
theorem shift_mono {X X' : Span} {a : Int} (h : X'.inner X) (h1 : X'.lo ≤ X'.hi) : max (a * X'.lo) (a * X'.hi) ≤ max (a * X.lo) (a * X.hi) := by
  obtain ⟨a1, a2⟩ := h
  have e1 := (lin_max' (e := a) a1 (show X'.lo ≤ X.hi by omega)).1
  have e2 := (lin_max' (e := a) (show X.lo ≤ X'.hi by omega) a2).1
  omega
theorem moved_mono {l : List Half} {X Y X' Y' : Span} (hx : X'.inner X) (hy : Y'.inner Y) (h1 : X'.lo ≤ X'.hi) (h2 : Y'.lo ≤ Y'.hi) {p : Corner} (hp : In (l.map (movedH X' Y')) p) : In (l.map (movedH X Y)) p := by
  refine ⟨hp.1, fun k hk => ?_⟩
  obtain ⟨h, hh, rfl⟩ := List.mem_map.1 hk
  have h0 := hp.2 _ (List.mem_map.2 ⟨h, hh, rfl⟩)
  simp only [movedH] at h0 ⊢
  have s1 := shift_mono (a := h.a) hx h1
  have s2 := shift_mono (a := h.b) hy h2
  have := Int.mul_le_mul_of_nonneg_right (show h.c + (max (h.a * X'.lo) (h.a * X'.hi) + max (h.b * Y'.lo) (h.b * Y'.hi)) ≤ h.c + (max (h.a * X.lo) (h.a * X.hi) + max (h.b * Y.lo) (h.b * Y.hi)) by omega) (Int.le_of_lt hp.1)
  omega
theorem times_add {D D' E : Span} (h0 : 0 ≤ D.lo) (h1 : D.lo ≤ D.hi) (k0 : 0 ≤ D'.lo) (k1 : D'.lo ≤ D'.hi) (he : E.lo ≤ E.hi) : times ⟨D.lo + D'.lo, D.hi + D'.hi⟩ E = ⟨(times D E).lo + (times D' E).lo, (times D E).hi + (times D' E).hi⟩ := by
  have a1 := Int.mul_le_mul_of_nonneg_left he h0
  have a2 := Int.mul_le_mul_of_nonneg_left he (show 0 ≤ D.hi by omega)
  have b1 := Int.mul_le_mul_of_nonneg_left he k0
  have b2 := Int.mul_le_mul_of_nonneg_left he (show 0 ≤ D'.hi by omega)
  simp only [times, Span.mk.injEq, Int.add_mul]
  have key : ∀ e : Int, (0 ≤ e → D.lo * e ≤ D.hi * e ∧ D'.lo * e ≤ D'.hi * e) ∧ (e ≤ 0 → D.hi * e ≤ D.lo * e ∧ D'.hi * e ≤ D'.lo * e) := fun e =>
    ⟨fun h => ⟨Int.mul_le_mul_of_nonneg_right h1 h, Int.mul_le_mul_of_nonneg_right k1 h⟩, fun h => ⟨Int.mul_le_mul_of_nonpos_right h1 h, Int.mul_le_mul_of_nonpos_right k1 h⟩⟩
  have c1 := key E.lo
  have c2 := key E.hi
  rcases Int.le_total 0 E.lo with hl | hl
  · have c1 := c1.1 hl
    rcases Int.le_total 0 E.hi with hh | hh
    · have c2 := c2.1 hh
      omega
    · have c2 := c2.2 hh
      omega
  · have c1 := c1.2 hl
    rcases Int.le_total 0 E.hi with hh | hh
    · have c2 := c2.1 hh
      omega
    · have c2 := c2.2 hh
      omega
theorem shift_add {X X' : Span} {a : Int} (h : X.lo ≤ X.hi) (h' : X'.lo ≤ X'.hi) : max (a * (X.lo + X'.lo)) (a * (X.hi + X'.hi)) = max (a * X.lo) (a * X.hi) + max (a * X'.lo) (a * X'.hi) := by
  rw [Int.mul_add, Int.mul_add]
  rcases Int.le_total 0 a with h0 | h0
  · have e1 := Int.mul_le_mul_of_nonneg_left h h0
    have e2 := Int.mul_le_mul_of_nonneg_left h' h0
    omega
  · have e1 := Int.mul_le_mul_of_nonpos_left h0 h
    have e2 := Int.mul_le_mul_of_nonpos_left h0 h'
    omega
/-- **a trek is its parts** -/
theorem moved_parts {l : List Half} {t : Trek} {m : Span} (ht : trekOk t = true) (m0 : 0 ≤ m.lo) (m1 : m.lo ≤ m.hi) : movedOf (movedOf l t) ⟨m, t.e, t.n⟩ = movedOf l ⟨⟨t.d.lo + m.lo, t.d.hi + m.hi⟩, t.e, t.n⟩ := by
  simp only [trekOk, spanOk, Bool.and_eq_true, decide_eq_true_eq] at ht
  obtain ⟨⟨⟨⟨d0, d1⟩, d2⟩, ⟨e0, e1⟩, e2⟩, ⟨n0, n1⟩, n2⟩ := ht
  unfold movedOf
  rw [List.map_map]
  refine List.map_congr_left fun h _ => ?_
  simp only [Function.comp, movedH, Half.mk.injEq, true_and]
  rw [times_add d0 d1 m0 m1 e1, times_add d0 d1 m0 m1 n1]
  simp only
  rw [shift_add (times_le _ _) (times_le _ _), shift_add (times_le _ _) (times_le _ _)]
  omega
theorem moved_len (l : List Half) (t : Trek) : (movedOf l t).length = l.length := by simp [movedOf]
theorem AreaOk.moved {l : List Half} {t : Trek} (h : AreaOk l) (hf : fitB (movedOf l t) = true) : AreaOk (movedOf l t) := by
  refine ⟨by rw [moved_len]; exact h.len, ?_, fun k hk => ?_⟩
  · have get : ∀ i a b, isAB (movedOf l t) i a b = isAB l i a b := fun i a b => by
      simp only [isAB, movedOf, List.getD, List.getElem?_map]
      cases l[i]? <;> rfl
    have := h.ab
    simp only [head4, get] at this ⊢
    exact this
  · have hc := List.all_eq_true.1 hf k hk
    simp only [edgeOk, inB, Bool.and_eq_true, decide_eq_true_eq] at hc
    obtain ⟨q, hq, rfl⟩ := List.mem_map.1 hk
    have := h.each q hq
    simp only [movedH] at hc ⊢
    omega
theorem march_ok {l : List Half} {t : Trek} (h : AreaOk l) (ht : trekOk t = true) : ((marchOf l t).2 = 0 ∨ (marchOf l t).2 = 9 ∨ (marchOf l t).2 = 43) ∧ ((marchOf l t).2 = 9 ↔ fitB (movedOf l t) = false) ∧ ((marchOf l t).2 = 43 ↔ fitB (movedOf l t) = true ∧ ∀ p, ¬In l p) ∧ ((marchOf l t).2 = 0 → marchOf l t = (movedOf l t, 0) ∧ AreaOk (movedOf l t) ∧ ∃ p, In l p) := by
  unfold marchOf
  rw [if_neg (by rw [areaOk_iff.2 h]; simp), if_neg (by rw [ht]; simp)]
  by_cases h1 : fitB (movedOf l t) = false
  · rw [if_pos h1]
    simp [h1]
  · rw [if_neg h1]
    have h1 : fitB (movedOf l t) = true := by simpa using h1
    by_cases h2 : someB l = false
    · rw [if_pos h2]
      have := (someB_false h.bnd).1 h2
      simp [h1, this]
    · rw [if_neg h2]
      have h3 := (someB_iff h.bnd).1 (by simpa using h2)
      simp [h1, h3, h.moved h1]
/-- a look may lie in what was seen; a march keeps the caravan in -/
theorem march_in {l : List Half} {t : Trek} {x y d e n : Int} (hp : In l (pt x y)) (d0 : t.d.lo ≤ d) (d1 : d ≤ t.d.hi) (e0 : t.e.lo ≤ e) (e1 : e ≤ t.e.hi) (n0 : t.n.lo ≤ n) (n1 : n ≤ t.n.hi) : In (movedOf l t) (pt (x + d * e) (y + d * n)) := by
  obtain ⟨u0, u1⟩ := times_mem d0 d1 e0 e1
  obtain ⟨v0, v1⟩ := times_mem d0 d1 n0 n1
  have := moved_in hp u0 u1 v0 v1
  simp only [pt, Int.mul_one] at this
  exact this
end Go.Proofs.YtcoelhpmkhimpaaGreatDoor
