/- The law GuideOrder: plain facts. -/
import Derived.Test.YtacdndehlkaaeaaVGeo
namespace Go.Proofs.Ytacdndehlkaaeaa
set_option linter.unusedVariables false
theorem see_step {l : List Half} {s : Sight} (h : AreaOk l) (hs : sightOk s = true) (hl : l.length ≤ 36) :
    (seeOf l s = (l ++ halvesOf s, 0) ∧ AreaOk (l ++ halvesOf s) ∧ ∃ p, In (l ++ halvesOf s) p) ∨ (seeOf l s = ([], 43) ∧ ∀ p, ¬In (l ++ halvesOf s) p) := by
  have hm := (halves_len s).2
  have ha := h.more (halves_ok hs) (by omega)
  have hb := h.bounded (halvesOf s)
  unfold seeOf
  rw [if_neg (by rw [areaOk_iff.2 h]; simp), if_neg (by rw [hs]; simp), if_neg (by omega)]
  cases h2 : someB (l ++ halvesOf s) with
  | false =>
    rw [if_pos rfl]
    exact .inr ⟨rfl, (someB_false hb).1 h2⟩
  | true =>
    rw [if_neg (by simp)]
    exact .inl ⟨rfl, ha, (someB_iff hb).1 h2⟩
theorem bounds_step {l : List Half} (h : AreaOk l) : (∃ E N, boundsOf l = (E, N, 0) ∧ IsB (In l) E N ∧ ∃ p, In l p) ∨ (boundsOf l = (zs, zs, 43) ∧ ∀ p, ¬In l p) := by
  have ht := bounds_told h
  obtain ⟨E, N, k, hk⟩ : ∃ E N k, boundsOf l = (E, N, k) := ⟨_, _, _, rfl⟩
  rw [hk] at ht ⊢
  obtain ⟨e1, e2, e3, e4⟩ := ht
  simp only at e1 e2 e3 e4
  rcases e1 with rfl | rfl
  · exact .inl ⟨E, N, rfl, e3 rfl, e2.1 rfl⟩
  · obtain ⟨rfl, rfl⟩ := e4 rfl
    exact .inr ⟨rfl, fun p hp => by have := e2.2 ⟨p, hp⟩; omega⟩
theorem In.left {l m : List Half} {p : Corner} (h : In (l ++ m) p) : In l p := (In.append.1 h).1
inductive OrderIs (l : List Half) (s t : Sight) : Prop where
  | none (h0 : boundsOf l = (zs, zs, 43)) (h1 : seeOf l s = ([], 43)) (h2 : seeOf l t = ([], 43))
  | first (E N : Span) (h0 : boundsOf l = (E, N, 0)) (h1 : seeOf l s = ([], 43)) (h2 : seeOf l t = ([], 43) ∨ seeOf l t = (l ++ halvesOf t, 0))
  | second (E N : Span) (h0 : boundsOf l = (E, N, 0)) (h1 : seeOf l s = (l ++ halvesOf s, 0)) (h2 : seeOf l t = ([], 43))
  | apart (E N E1 N1 : Span) (h0 : boundsOf l = (E, N, 0)) (h1 : seeOf l s = (l ++ halvesOf s, 0)) (h2 : seeOf l t = (l ++ halvesOf t, 0)) (h3 : boundsOf (l ++ halvesOf s) = (E1, N1, 0)) (e : E1.inner E) (n : N1.inner N)
      (h4 : seeOf (l ++ halvesOf s) s = (l ++ halvesOf s ++ halvesOf s, 0)) (h5 : boundsOf (l ++ halvesOf s ++ halvesOf s) = (E1, N1, 0)) (h6 : seeOf (l ++ halvesOf s) t = ([], 43)) (h7 : seeOf (l ++ halvesOf t) s = ([], 43))
  | all (E N E1 N1 E2 N2 : Span) (h0 : boundsOf l = (E, N, 0)) (h1 : seeOf l s = (l ++ halvesOf s, 0)) (h2 : seeOf l t = (l ++ halvesOf t, 0)) (h3 : boundsOf (l ++ halvesOf s) = (E1, N1, 0)) (e : E1.inner E) (n : N1.inner N)
      (h4 : seeOf (l ++ halvesOf s) s = (l ++ halvesOf s ++ halvesOf s, 0)) (h5 : boundsOf (l ++ halvesOf s ++ halvesOf s) = (E1, N1, 0)) (h6 : seeOf (l ++ halvesOf s) t = (l ++ halvesOf s ++ halvesOf t, 0)) (h7 : seeOf (l ++ halvesOf t) s = (l ++ halvesOf t ++ halvesOf s, 0))
      (h8 : boundsOf (l ++ halvesOf s ++ halvesOf t) = (E2, N2, 0)) (h9 : boundsOf (l ++ halvesOf t ++ halvesOf s) = (E2, N2, 0)) (e' : E2.inner E1) (n' : N2.inner N1)
theorem order_is {l : List Half} {s t : Sight} (h : AreaOk l) (hs : sightOk s = true) (ht : sightOk t = true) (hl : l.length ≤ 28) : OrderIs l s t := by
  have ms := (halves_len s).2
  have mt := (halves_len t).2
  rcases bounds_step h with ⟨E, N, h0, b0, _⟩ | ⟨h0, hno⟩
  · rcases see_step h hs (by omega) with ⟨h1, a1, i1⟩ | ⟨h1, n1⟩
    · rcases see_step h ht (by omega) with ⟨h2, a2, i2⟩ | ⟨h2, n2⟩
      · rcases bounds_step a1 with ⟨E1, N1, h3, b1, _⟩ | ⟨_, n3⟩
        · obtain ⟨e, n⟩ := b1.mono b0 (fun p hp => hp.1) fun p hp => hp.left
          have l1 : (l ++ halvesOf s).length ≤ 32 := by simp only [List.length_append]; omega
          have l2 : (l ++ halvesOf t).length ≤ 32 := by simp only [List.length_append]; omega
          have same : ∀ p, In (l ++ halvesOf s ++ halvesOf s) p ↔ In (l ++ halvesOf s) p := fun p => ⟨fun hp => hp.left, fun hp => In.append.2 ⟨hp, (In.append.1 hp).2⟩⟩
          have turn : ∀ p, In (l ++ halvesOf s ++ halvesOf t) p ↔ In (l ++ halvesOf t ++ halvesOf s) p := fun p => by
            simp only [In.append]
            exact ⟨fun ⟨⟨a, b⟩, c⟩ => ⟨⟨a, c⟩, b⟩, fun ⟨⟨a, b⟩, c⟩ => ⟨⟨a, c⟩, b⟩⟩
          rcases see_step a1 hs (by omega) with ⟨h4, a4, i4⟩ | ⟨_, n4⟩
          · rcases bounds_step a4 with ⟨E4, N4, h5, b4, _⟩ | ⟨_, n5⟩
            · obtain ⟨rfl, rfl⟩ := b4.uniq b1 (fun p hp => hp.1) same
              rcases see_step a1 ht (by omega) with ⟨h6, a6, p6, i6⟩ | ⟨h6, n6⟩
              · rcases see_step a2 hs (by omega) with ⟨h7, a7, p7, i7⟩ | ⟨_, n7⟩
                · rcases bounds_step a6 with ⟨E2, N2, h8, b6, _⟩ | ⟨_, n8⟩
                  · rcases bounds_step a7 with ⟨E3, N3, h9, b7, _⟩ | ⟨_, n9⟩
                    · obtain ⟨rfl, rfl⟩ := b6.uniq b7 (fun p hp => hp.1) turn
                      obtain ⟨e', n'⟩ := b6.mono b1 (fun p hp => hp.1) fun p hp => hp.left
                      exact .all E N _ _ _ _ h0 h1 h2 h3 e n h4 h5 h6 h7 h8 h9 e' n'
                    · exact absurd i7 (n9 _)
                  · exact absurd i6 (n8 _)
                · exact absurd ((turn _).1 i6) (n7 _)
              · rcases see_step a2 hs (by omega) with ⟨_, _, p7, i7⟩ | ⟨h7, _⟩
                · exact absurd ((turn _).2 i7) (n6 _)
                · exact .apart E N _ _ h0 h1 h2 h3 e n h4 h5 h6 h7
            · obtain ⟨p, hp⟩ := i4
              exact absurd hp (n5 _)
          · obtain ⟨p, hp⟩ := i1
            exact absurd ((same _).2 hp) (n4 _)
        · obtain ⟨p, hp⟩ := i1
          exact absurd hp (n3 _)
      · exact .second E N h0 h1 h2
    · rcases see_step h ht (by omega) with ⟨h2, _, _⟩ | ⟨h2, _⟩
      · exact .first E N h0 h1 (.inr h2)
      · exact .first E N h0 h1 (.inl h2)
  · rcases see_step h hs (by omega) with ⟨_, _, p, hp⟩ | ⟨h1, _⟩
    · exact absurd hp.left (hno p)
    · rcases see_step h ht (by omega) with ⟨_, _, p, hp⟩ | ⟨h2, _⟩
      · exact absurd hp.left (hno p)
      · exact .none h0 h1 h2
end Go.Proofs.Ytacdndehlkaaeaa
