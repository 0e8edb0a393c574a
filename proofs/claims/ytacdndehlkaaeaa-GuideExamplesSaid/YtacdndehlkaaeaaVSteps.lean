/- Calls of the package whose answers are known beforehand; what a march may answer. -/
import Derived.Test.YtacdndehlkaaeaaVOrderP
import Derived.Test.YtacdndehlkaaeaaVGr4
import Derived.Test.YtacdndehlkaaeaaVLawNear
namespace Go.Proofs.Ytacdndehlkaaeaa
open Go.RowKit
set_option linter.unusedVariables false
set_option linter.unusedSimpArgs false
theorem boundsK_any {l : List Half} {n : Nat} {e0 e1 n0 n1 k : Int} (hb : boundsOf l = (⟨e0, e1⟩, ⟨n0, n1⟩, k)) (a : Option Addr) (c : Nat) (w : World) (hl : HalvesAt w a n l) (hc : n ≤ c) (hm : c ≤ maxLen) : Calls Try.prog 24 #[.agg #[.slice a n c]] w fun e w' => e = .returned (.tuple #[.agg #[.int .i64 e0, .int .i64 e1], .agg #[.int .i64 n0, .int .i64 n1], .int .i64 k]) ∧ Ext w w' :=
  (boundsF_any a n c l w hl hc hm).mono fun e w' h => by
    unfold BoundsPost at h
    rw [hb] at h
    exact h
def NoPost (k : Int) (w : World) (e : Ending) (w' : World) : Prop := ∃ b c, e = .returned (.tuple #[.agg #[.slice b 0 c], .int .i64 k]) ∧ Ext w w'
theorem seeNo_any {l : List Half} {s : Sight} {n : Nat} {k : Int} (hs : seeOf l s = ([], k)) (a : Option Addr) (c : Nat) (w : World) (hl : HalvesAt w a n l) (hc : n ≤ c) (hm : c ≤ maxLen) (h0 : 0 ≤ s.kind) (h1 : s.kind ≤ 255) : Calls Try.prog 16 #[.agg #[.slice a n c], s.val] w (NoPost k w) :=
  (see_any a n c l s w hl hc hm h0 h1).mono fun e w' h => by
    obtain ⟨b, d, rfl, h1, h2, h3, h4, h5⟩ := h
    rw [hs]
    exact ⟨b, d, rfl, h3⟩
theorem marchOk_any {l m : List Half} {t : Trek} {n k : Nat} (hs : marchOf l t = (m, 0)) (hk : m.length = k) (a : Option Addr) (c : Nat) (w : World) (hl : HalvesAt w a n l) (hc : n ≤ c) (hm : c ≤ maxLen) : Calls Try.prog 30 #[.agg #[.slice a n c], t.val] w (AreaPost k m w) :=
  (march_any a n c l t w hl hc hm).mono fun _ _ h => area_of_own hs hk h
theorem marchNo_any {l : List Half} {t : Trek} {n : Nat} {k : Int} (hs : marchOf l t = ([], k)) (a : Option Addr) (c : Nat) (w : World) (hl : HalvesAt w a n l) (hc : n ≤ c) (hm : c ≤ maxLen) : Calls Try.prog 30 #[.agg #[.slice a n c], t.val] w (NoPost k w) :=
  (march_any a n c l t w hl hc hm).mono fun _ _ h => by
    obtain ⟨v, rfl, hx, ho⟩ := h
    rw [hs] at ho ⊢
    obtain ⟨b, d, rfl, h1, h2, h3, h4⟩ := halves_of_owns ho
    exact ⟨b, d, rfl, hx⟩
theorem innerYes_any {s t : Span} (h : s.inner t) (w : World) : Calls Try.prog 47 #[.agg #[.int .i64 s.lo, .int .i64 s.hi], .agg #[.int .i64 t.lo, .int .i64 t.hi]] w fun e w' => e = .returned (.bool true) ∧ Ext w w' :=
  (inner_any s t w).mono fun e w' h' => by
    obtain ⟨rfl, h'⟩ := h'
    refine ⟨ret_bool ?_, h'⟩
    obtain ⟨h1, h2⟩ := h
    simp [h1, h2]
theorem march_step {l : List Half} {t : Trek} (h : AreaOk l) (ht : trekOk t = true) : (marchOf l t = (movedOf l t, 0) ∧ AreaOk (movedOf l t) ∧ ∃ p, In l p) ∨ marchOf l t = ([], 9) ∨ (marchOf l t = ([], 43) ∧ ∀ p, ¬In l p) := by
  obtain ⟨h1, h2, h3, h4⟩ := march_ok h ht
  rcases h1 with e | e | e
  · exact .inl (h4 e)
  · refine .inr (.inl ?_)
    unfold marchOf
    rw [if_neg (by rw [areaOk_iff.2 h]; simp), if_neg (by rw [ht]; simp), if_pos (h2.1 e)]
  · refine .inr (.inr ⟨?_, (h3.1 e).2⟩)
    unfold marchOf
    rw [if_neg (by rw [areaOk_iff.2 h]; simp), if_neg (by rw [ht]; simp), if_neg (by rw [(h3.1 e).1]; simp), if_pos ((someB_false h.bnd).2 (h3.1 e).2)]
/-- some place is there behind a march -/
theorem moved_some {l : List Half} {t : Trek} (ht : trekOk t = true) {p : Corner} (hp : In l p) : ∃ q, In (movedOf l t) q :=
  ⟨_, moved_in hp (Int.le_refl _) (times_le _ _) (Int.le_refl _) (times_le _ _)⟩
def drawOk (by' : List Int) : Prop := ∀ k, 0 ≤ drawAt by' k ∧ drawAt by' k ≤ 4294967295
theorem part_in {s : Span} {k k' : Int} (h : s.lo ≤ s.hi) (k0 : 0 ≤ k) (k1 : 0 ≤ k') : (partOf s k k').inner s ∧ (partOf s k k').lo ≤ (partOf s k k').hi := by
  have h1 := pick_in h k0
  have h2 := pick_in (s := ⟨pickOf s k, s.hi⟩) h1.2 k1
  unfold partOf Span.inner
  simp only at h2 ⊢
  omega
theorem trek_of {t : Trek} (h : trekOk t = true) : (0 ≤ t.d.lo ∧ t.d.lo ≤ t.d.hi ∧ t.d.hi ≤ 60) ∧ (-100000 ≤ t.e.lo ∧ t.e.lo ≤ t.e.hi ∧ t.e.hi ≤ 100000) ∧ (-100000 ≤ t.n.lo ∧ t.n.lo ≤ t.n.hi ∧ t.n.hi ≤ 100000) := by
  simp only [trekOk, spanOk, Bool.and_eq_true, decide_eq_true_eq] at h
  omega
theorem of_trek {t : Trek} (h : (0 ≤ t.d.lo ∧ t.d.lo ≤ t.d.hi ∧ t.d.hi ≤ 60) ∧ (-100000 ≤ t.e.lo ∧ t.e.lo ≤ t.e.hi ∧ t.e.hi ≤ 100000) ∧ (-100000 ≤ t.n.lo ∧ t.n.lo ≤ t.n.hi ∧ t.n.hi ≤ 100000)) : trekOk t = true := by
  simp only [trekOk, spanOk, Bool.and_eq_true, decide_eq_true_eq]
  omega
/-- the first march, and what is known better -/
inductive KnownIs (l : List Half) (t k : Trek) : Prop where
  | none (c : Int) (hc : c = 9 ∨ c = 43) (h : marchOf l t = ([], c))
  | full (h : marchOf l t = (movedOf l t, 0)) (h2 : marchOf l k = ([], 9))
  | some (E N E' N' : Span) (h : marchOf l t = (movedOf l t, 0)) (h2 : marchOf l k = (movedOf l k, 0)) (hb : boundsOf (movedOf l t) = (E, N, 0)) (hb' : boundsOf (movedOf l k) = (E', N', 0)) (he : E'.inner E) (hn : N'.inner N)
theorem known_is {l : List Half} {t k : Trek} (h : AreaOk l) (ht : trekOk t = true) (hk : trekOk k = true) (hd : k.d.inner t.d) (he : k.e.inner t.e) (hn : k.n.inner t.n) : KnownIs l t k := by
  obtain ⟨t1, t2, t3⟩ := trek_of ht
  obtain ⟨k1, k2, k3⟩ := trek_of hk
  rcases march_step h ht with ⟨h1, a1, p, hp⟩ | h1 | ⟨h1, _⟩
  · rcases march_step h hk with ⟨h2, a2, _⟩ | h2 | ⟨h2, no⟩
    · obtain ⟨q, hq⟩ := moved_some ht hp
      obtain ⟨r, hr⟩ := moved_some hk hp
      rcases bounds_step a1 with ⟨E, N, b1, c1, _⟩ | ⟨_, no⟩
      · rcases bounds_step a2 with ⟨E', N', b2, c2, _⟩ | ⟨_, no⟩
        · obtain ⟨i1, i2⟩ := c2.mono c1 (fun p hp => hp.1) fun p hp => moved_mono (times_mono hd he k1.2.1 k2.2.1) (times_mono hd hn k1.2.1 k3.2.1) (times_le _ _) (times_le _ _) hp
          exact .some E N E' N' h1 h2 b1 b2 i1 i2
        · exact absurd hr (no r)
      · exact absurd hq (no q)
    · exact .full h1 h2
    · exact absurd hp (no p)
  · exact .none 9 (.inl rfl) h1
  · exact .none 43 (.inr rfl) h1
/-- the march on, and the whole -/
inductive WholeIs (l : List Half) (t r g : Trek) : Prop where
  | not (c d : Int) (A B : List Half) (h1 : marchOf (movedOf l t) r = (A, c)) (h2 : marchOf l g = (B, d)) (hA : c ≠ 0 → A = []) (hB : d ≠ 0 → B = []) (hc : c = 0 ∨ c = 9) (hd : d = 0 ∨ d = 9) (hn : c = 9 ∨ d = 9)
  | both (A : List Half) (h1 : marchOf (movedOf l t) r = (A, 0)) (h2 : marchOf l g = (A, 0))
theorem whole_is {l : List Half} {t : Trek} {m : Span} (h : AreaOk l) (ht : trekOk t = true) (hm : marchOf l t = (movedOf l t, 0)) (m0 : 0 ≤ m.lo) (m1 : m.lo ≤ m.hi) (m2 : m.hi ≤ 60 - t.d.hi) : WholeIs l t ⟨m, t.e, t.n⟩ ⟨⟨t.d.lo + m.lo, t.d.hi + m.hi⟩, t.e, t.n⟩ := by
  obtain ⟨t1, t2, t3⟩ := trek_of ht
  have hr : trekOk ⟨m, t.e, t.n⟩ = true := of_trek (by simp only; omega)
  have hg : trekOk ⟨⟨t.d.lo + m.lo, t.d.hi + m.hi⟩, t.e, t.n⟩ = true := of_trek (by simp only; omega)
  rcases march_step h ht with ⟨_, a1, p, hp⟩ | h1 | ⟨h1, _⟩
  · obtain ⟨q, hq⟩ := moved_some ht hp
    rcases march_step a1 hr with ⟨h1, _, _⟩ | h1 | ⟨_, no⟩
    · rcases march_step h hg with ⟨h2, _, _⟩ | h2 | ⟨_, no⟩
      · rw [moved_parts ht m0 m1] at h1
        exact .both _ h1 h2
      · exact .not _ _ _ _ h1 h2 (fun e => absurd rfl e) (fun _ => rfl) (.inl rfl) (.inr rfl) (.inr rfl)
      · exact absurd hp (no p)
    · rcases march_step h hg with ⟨h2, _, _⟩ | h2 | ⟨_, no⟩
      · exact .not _ _ _ _ h1 h2 (fun _ => rfl) (fun e => absurd rfl e) (.inr rfl) (.inl rfl) (.inl rfl)
      · exact .not _ _ _ _ h1 h2 (fun _ => rfl) (fun _ => rfl) (.inr rfl) (.inr rfl) (.inl rfl)
      · exact absurd hp (no p)
    · exact absurd hq (no q)
  · rw [hm] at h1; have := congrArg Prod.snd h1; simp at this
  · rw [hm] at h1; have := congrArg Prod.snd h1; simp at this
/-- either way: halves and a code -/
def EitherPost (k : Nat) (m : List Half) (d : Int) (w : World) (e : Ending) (w' : World) : Prop := ∃ a c, e = .returned (.tuple #[.agg #[.slice a k c], .int .i64 d]) ∧ k ≤ c ∧ c ≤ maxLen ∧ Ext w w' ∧ HalvesAt w' a k m ∧ From w.heap.size a
theorem marchEither_any {l m : List Half} {t : Trek} {n k : Nat} {d : Int} (hs : marchOf l t = (m, d)) (hk : m.length = k) (a : Option Addr) (c : Nat) (w : World) (hl : HalvesAt w a n l) (hc : n ≤ c) (hm : c ≤ maxLen) : Calls Try.prog 30 #[.agg #[.slice a n c], t.val] w (EitherPost k m d w) :=
  (march_any a n c l t w hl hc hm).mono fun _ _ h => by
    obtain ⟨v, rfl, hx, ho⟩ := h
    rw [hs] at ho ⊢
    obtain ⟨b, d, rfl, h1, h2, h3, h4⟩ := halves_of_owns ho
    rw [hk] at h2 h4 ⊢
    exact ⟨b, d, rfl, h2, h3, hx, h4, h1⟩
theorem seeEither_any {l m : List Half} {s : Sight} {n k : Nat} {d : Int} (hs : seeOf l s = (m, d)) (hk : m.length = k) (a : Option Addr) (c : Nat) (w : World) (hl : HalvesAt w a n l) (hc : n ≤ c) (hm : c ≤ maxLen) (h0 : 0 ≤ s.kind) (h1 : s.kind ≤ 255) : Calls Try.prog 16 #[.agg #[.slice a n c], s.val] w (EitherPost k m d w) :=
  (see_any a n c l s w hl hc hm h0 h1).mono fun e w' h => by
    obtain ⟨b, d, rfl, h1, h2, h3, h4, h5⟩ := h
    rw [hs] at h1 h4 ⊢
    simp only [hk] at h1 h4 ⊢
    exact ⟨b, d, rfl, h1, h2, h3, h4, h5⟩
end Go.Proofs.Ytacdndehlkaaeaa
