/- The law GuideClash: plain facts. -/
import Derived.Test.YtacdndehlkaaeaaVOrderP
import Derived.Test.YtacdndehlkaaeaaVDoneTrue
namespace Go.Proofs.Ytacdndehlkaaeaa
set_option linter.unusedVariables false
/-- a place that fits an area and looks -/
def Fit (l : List Half) (S : List Sight) (p : Corner) : Prop := In l p ∧ ∀ s ∈ S, In (halvesOf s) p
theorem in_but {l : List Half} {looks : List Sight} {out : Nat → Bool} {p : Corner} : In (allBut l looks out) p ↔ In l p ∧ ∀ i s, looks[i]? = some s → out i = false → In (halvesOf s) p := by
  unfold allBut
  rw [In.append]
  refine and_congr_right fun h => ⟨fun hh i s hi ho => ⟨h.1, fun k hk => ?_⟩, fun hh => ⟨h.1, fun k hk => ?_⟩⟩
  · have hlt : i < looks.length := by
      rcases Nat.lt_or_ge i looks.length with h' | h'
      · exact h'
      · rw [List.getElem?_eq_none h'] at hi; cases hi
    refine hh.2 k (List.mem_flatMap.2 ⟨i, List.mem_range.2 hlt, ?_⟩)
    rw [ho]
    simp only [Bool.false_eq_true, if_false, List.getD, hi, Option.getD_some]
    exact hk
  · obtain ⟨i, hi, hk⟩ := List.mem_flatMap.1 hk
    have hlt := List.mem_range.1 hi
    cases ho : out i with
    | true => rw [ho] at hk; simp at hk
    | false =>
      rw [ho] at hk
      simp only [Bool.false_eq_true, if_false, List.getD, List.getElem?_eq_getElem hlt, Option.getD_some] at hk
      exact (hh i _ (List.getElem?_eq_getElem hlt) ho).2 k hk
theorem fit_but {l : List Half} {S : List Sight} {p : Corner} : In (allBut l S fun _ => false) p ↔ Fit l S p := by
  rw [in_but]
  refine and_congr_right fun _ => ⟨fun h s hs => ?_, fun h i s hi _ => h s (List.mem_of_getElem? hi)⟩
  obtain ⟨i, hi⟩ := List.mem_iff_getElem?.1 hs
  exact h i s hi rfl
theorem some_but {l : List Half} (ha : AreaOk l) {S : List Sight} {out : Nat → Bool} : someB (allBut l S out) = true ↔ ∃ p, In (allBut l S out) p := someB_iff (ha.bounded _)
theorem but_false {l : List Half} (ha : AreaOk l) {S : List Sight} {out : Nat → Bool} : someB (allBut l S out) = false ↔ ∀ p, ¬In (allBut l S out) p := someB_false (ha.bounded _)
theorem out_later {l : List Half} {S : List Sight} : ∀ (k i : Nat), k ≤ i → outTo l S k i = false
  | 0, _, _ => rfl
  | k + 1, i, h => by
    simp only [outTo]
    rw [if_neg (by omega)]
    exact out_later k i (by omega)
theorem out_kept {l : List Half} {S : List Sight} : ∀ (m k i : Nat), i < k → outTo l S (k + m) i = outTo l S k i
  | 0, _, _, _ => rfl
  | m + 1, k, i, h => by
    rw [← Nat.add_assoc]
    simp only [outTo]
    rw [if_neg (by omega)]
    exact out_kept m k i h
theorem out_at {l : List Half} {S : List Sight} {k i : Nat} (h : i < k) : outTo l S k i = !someB (allBut l S fun j => j == i || outTo l S i j) := by
  have := out_kept (l := l) (S := S) (k - (i + 1)) (i + 1) i (by omega)
  rw [show i + 1 + (k - (i + 1)) = k by omega] at this
  rw [this]
  simp [outTo]
theorem out_no {l : List Half} (ha : AreaOk l) {S : List Sight} (h0 : someB (allBut l S fun _ => false) = false) : ∀ k, someB (allBut l S (outTo l S k)) = false
  | 0 => h0
  | k + 1 => by
    have ih := out_no ha h0 k
    cases hb : someB (allBut l S fun j => j == k || outTo l S k j) with
    | false =>
      have e : outTo l S (k + 1) = fun j => j == k || outTo l S k j := by
        funext j
        simp only [outTo]
        by_cases hj : j = k
        · rw [if_pos hj, hb]; simp [hj]
        · rw [if_neg hj]; simp [hj]
      rw [e]
      exact hb
    | true =>
      have e : outTo l S (k + 1) = outTo l S k := by
        funext j
        simp only [outTo]
        by_cases hj : j = k
        · rw [if_pos hj, hb, hj, out_later k k (Nat.le_refl k)]; rfl
        · rw [if_neg hj]
      rw [e]
      exact ih
/-- without one of those that remain the others fit -/
theorem out_one {l : List Half} (ha : AreaOk l) {S : List Sight} {n i : Nat} (hi : i < n) (ho : outTo l S n i = false) : ∃ p, In (allBut l S fun j => j == i || outTo l S n j) p := by
  rw [out_at hi] at ho
  have h1 : someB (allBut l S fun j => j == i || outTo l S i j) = true := by simpa using ho
  obtain ⟨p, hp⟩ := (some_but ha).1 h1
  refine ⟨p, in_but.2 ⟨(in_but.1 hp).1, fun j s hj hout => (in_but.1 hp).2 j s hj ?_⟩⟩
  simp only [Bool.or_eq_false_iff] at hout ⊢
  refine ⟨hout.1, ?_⟩
  rcases Nat.lt_or_ge j i with h | h
  · have := out_kept (l := l) (S := S) (n - i) i j h
    rw [show i + (n - i) = n by omega] at this
    rw [← this]
    exact hout.2
  · exact out_later i j h
/-- looks that cannot be left out -/
structure Tight (l : List Half) (N : List Sight) : Prop where
  no : ∀ p, ¬Fit l N p
  one : ∀ k, k < N.length → ∃ p, Fit l (N.take k ++ N.drop (k + 1)) p
def keptOf (l : List Half) (S : List Sight) : List Nat := (List.range S.length).filter fun i => !outTo l S S.length i
def namedOf (l : List Half) (S : List Sight) : List Sight := (keptOf l S).map fun i => S.getD i ⟨0, 0, 0, 0, 0, 0, 0, 0, 0, 0⟩
theorem kept_lt {l : List Half} {S : List Sight} {i : Nat} (h : i ∈ keptOf l S) : i < S.length ∧ outTo l S S.length i = false := by
  obtain ⟨h1, h2⟩ := List.mem_filter.1 h
  exact ⟨List.mem_range.1 h1, by simpa using h2⟩
theorem kept_asc (l : List Half) (S : List Sight) : (keptOf l S).Pairwise (· < ·) := (List.pairwise_lt_range (n := S.length)).filter _
theorem named_mem {l : List Half} {S : List Sight} {s : Sight} (h : s ∈ namedOf l S) : s ∈ S := by
  obtain ⟨i, hi, rfl⟩ := List.mem_map.1 h
  have := (kept_lt hi).1
  simp only [List.getD, List.getElem?_eq_getElem this, Option.getD_some]
  exact List.getElem_mem _
theorem named_tight {l : List Half} (ha : AreaOk l) {S : List Sight} (h0 : someB (allBut l S fun _ => false) = false) : Tight l (namedOf l S) := by
  have hno := (but_false ha).1 (out_no ha h0 S.length)
  refine ⟨fun p hp => hno p (in_but.2 ⟨hp.1, fun i s hi ho => hp.2 s ?_⟩), fun k hk => ?_⟩
  · have hlt : i < S.length := by
      rcases Nat.lt_or_ge i S.length with h' | h'
      · exact h'
      · rw [List.getElem?_eq_none h'] at hi; cases hi
    refine List.mem_map.2 ⟨i, List.mem_filter.2 ⟨List.mem_range.2 hlt, by simp [ho]⟩, ?_⟩
    simp [List.getD, hi]
  · have hk' : k < (keptOf l S).length := by simpa [namedOf] using hk
    have hm := kept_lt (List.getElem_mem hk')
    obtain ⟨p, hp⟩ := out_one ha hm.1 hm.2
    have hpw := List.pairwise_iff_getElem.1 (kept_asc l S)
    have key : ∀ j (hj : j < (keptOf l S).length), j ≠ k → In (halvesOf (S.getD ((keptOf l S)[j]) ⟨0, 0, 0, 0, 0, 0, 0, 0, 0, 0⟩)) p := fun j hj hne => by
      have hmj := kept_lt (List.getElem_mem hj)
      refine (in_but.1 hp).2 _ _ (show S[(keptOf l S)[j]]? = some _ by simp [List.getD, List.getElem?_eq_getElem hmj.1]) ?_
      simp only [Bool.or_eq_false_iff, beq_eq_false_iff_ne, ne_eq]
      refine ⟨fun e => ?_, hmj.2⟩
      rcases Nat.lt_or_gt_of_ne hne with h | h
      · have := hpw j k hj hk' h; omega
      · have := hpw k j hk' hj h; omega
    refine ⟨p, (in_but.1 hp).1, fun s hs => ?_⟩
    rcases List.mem_append.1 hs with hs | hs
    · obtain ⟨j, hj, rfl⟩ := List.mem_iff_getElem.1 hs
      simp only [List.length_take] at hj
      have hj' : j < (keptOf l S).length := by omega
      have := key j hj' (by omega)
      simpa [namedOf] using this
    · obtain ⟨j, hj, rfl⟩ := List.mem_iff_getElem.1 hs
      simp only [List.length_drop, namedOf, List.length_map] at hj
      have hj' : k + 1 + j < (keptOf l S).length := by omega
      have := key (k + 1 + j) hj' (by omega)
      simpa [namedOf] using this
theorem clash_of {l : List Half} {S : List Sight} (ha : AreaOk l) (hl : S.length ≤ 10) (ho : ∀ s ∈ S, sightOk s = true) : clashOf l S = if someB (allBut l S fun _ => false) = true then ([], 6) else ((keptOf l S).map fun i : Nat => (i : Int), 0) := by
  unfold clashOf
  rw [if_neg (by rw [areaOk_iff.2 ha]; simp), if_neg (by omega), if_neg (by rw [List.all_eq_true.2 ho]; simp)]
  rfl
/-- of a tight list all remain -/
theorem tight_clash {l : List Half} {N : List Sight} (ha : AreaOk l) (ht : Tight l N) (hl : N.length ≤ 10) (ho : ∀ s ∈ N, sightOk s = true) : ∃ r, clashOf l N = (r, 0) ∧ r.length = N.length := by
  have h0 : someB (allBut l N fun _ => false) = false := (but_false ha).2 fun p hp => ht.no p (fit_but.1 hp)
  have hall : ∀ k, k ≤ N.length → ∀ i, outTo l N k i = false := by
    intro k
    induction k with
    | zero => intro _ i; rfl
    | succ k ih =>
      intro hk i
      have ih := ih (by omega)
      simp only [outTo]
      split
      · obtain ⟨p, hp⟩ := ht.one k (by omega)
        have : someB (allBut l N fun j => j == k || outTo l N k j) = true := (some_but ha).2 ⟨p, in_but.2 ⟨hp.1, fun j s hj hout => hp.2 s ?_⟩⟩
        · rw [this]; rfl
        · simp only [Bool.or_eq_false_iff, beq_eq_false_iff_ne, ne_eq] at hout
          rw [List.mem_append]
          rcases Nat.lt_or_gt_of_ne hout.1 with h | h
          · exact .inl (List.mem_iff_getElem?.2 ⟨j, by rw [List.getElem?_take_of_lt h]; exact hj⟩)
          · exact .inr (List.mem_iff_getElem?.2 ⟨j - (k + 1), by rw [List.getElem?_drop, show k + 1 + (j - (k + 1)) = j by omega]; exact hj⟩)
      · exact ih i
  rw [clash_of ha hl ho, if_neg (by rw [h0]; simp)]
  refine ⟨_, rfl, ?_⟩
  have : keptOf l N = List.range N.length := by
    unfold keptOf
    rw [List.filter_eq_self]
    intro i _
    rw [hall _ (Nat.le_refl _)]
    rfl
  rw [this]
  simp
theorem fit_clash {l : List Half} {N : List Sight} (ha : AreaOk l) (hf : ∃ p, Fit l N p) (hl : N.length ≤ 10) (ho : ∀ s ∈ N, sightOk s = true) : clashOf l N = ([], 6) := by
  obtain ⟨p, hp⟩ := hf
  rw [clash_of ha hl ho, if_pos ((some_but ha).2 ⟨p, fit_but.2 hp⟩)]
inductive ClashIs (l : List Half) (S : List Sight) : Prop where
  | bad (h : clashOf l S = ([], 41))
  | none (h : clashOf l S = ([], 6)) (ho : ∀ s ∈ S, sightOk s = true) (hf : ∃ p, Fit l S p)
  | some (h : clashOf l S = ((keptOf l S).map fun i : Nat => (i : Int), 0)) (ho : ∀ s ∈ S, sightOk s = true) (ht : Tight l (namedOf l S))
theorem clash_is {l : List Half} {S : List Sight} (ha : AreaOk l) (hl : S.length ≤ 10) : ClashIs l S := by
  cases hg : S.all sightOk with
  | false =>
    refine .bad ?_
    unfold clashOf
    rw [if_neg (by rw [areaOk_iff.2 ha]; simp), if_neg (by omega), if_pos hg]
  | true =>
    have ho := List.all_eq_true.1 hg
    have hc := clash_of ha hl ho
    cases hb : someB (allBut l S fun _ => false) with
    | true =>
      rw [hb, if_pos rfl] at hc
      obtain ⟨p, hp⟩ := (some_but ha).1 hb
      exact .none hc ho ⟨p, fit_but.1 hp⟩
    | false =>
      rw [hb, if_neg (by simp)] at hc
      exact .some hc ho (named_tight ha hb)
/-- a look more, of some that fit -/
theorem fit_see {l m : List Half} {s : Sight} {p : Corner} (ha : AreaOk m) (hp : In m p) (hs : In (halvesOf s) p) (ho : sightOk s = true) : (seeOf m s = (m ++ halvesOf s, 0) ∧ AreaOk (m ++ halvesOf s) ∧ In (m ++ halvesOf s) p) ∨ seeOf m s = ([], 9) := by
  have hi : In (m ++ halvesOf s) p := In.append.2 ⟨hp, hs⟩
  by_cases hl : 40 < m.length + (halvesOf s).length
  · refine .inr ?_
    unfold seeOf
    rw [if_neg (by rw [areaOk_iff.2 ha]; simp), if_neg (by rw [ho]; simp), if_pos hl]
  · refine .inl ⟨?_, ha.more (halves_ok ho) (by omega), hi⟩
    unfold seeOf
    rw [if_neg (by rw [areaOk_iff.2 ha]; simp), if_neg (by rw [ho]; simp), if_neg hl, if_neg]
    rw [(someB_iff (ha.bounded _)).2 ⟨_, hi⟩]
    simp
end Go.Proofs.Ytacdndehlkaaeaa

/- The law GuideClash: looks without one. -/
namespace Go.Proofs.Ytacdndehlkaaeaa
open Go.RowKit
set_option linter.unusedVariables false
set_option linter.unusedSimpArgs false
theorem wo_succ {ls : List Sight} {j k : Nat} {s : Sight} (h : ls[j]? = some s) : (ls.take (j + 1)).eraseIdx k = if j = k then (ls.take j).eraseIdx k else (ls.take j).eraseIdx k ++ [s] := by
  have hj : j < ls.length := by
    rcases Nat.lt_or_ge j ls.length with h' | h'
    · exact h'
    · rw [List.getElem?_eq_none h'] at h; cases h
  have e : ls.take (j + 1) = ls.take j ++ [s] := by
    rw [List.take_add_one, h]
    rfl
  have hl : (ls.take j).length = j := by simp; omega
  rw [e]
  by_cases hk : j = k
  · rw [if_pos hk, List.eraseIdx_append_of_length_le (by omega)]
    have h1 : ([s] : List Sight).eraseIdx (k - (ls.take j).length) = [] := by rw [hl, hk, Nat.sub_self]; rfl
    rw [h1, List.append_nil, List.eraseIdx_of_length_le (by omega)]
  · rw [if_neg hk]
    rcases Nat.lt_or_ge k j with h' | h'
    · rw [List.eraseIdx_append_of_lt_length (by omega)]
    · rw [List.eraseIdx_append_of_length_le (by omega), List.eraseIdx_of_length_le (show ([s] : List Sight).length ≤ k - (ls.take j).length by simp; omega), List.eraseIdx_of_length_le (show (ls.take j).length ≤ k by omega)]
def OwnSights (l : List Sight) (w : World) (e : Ending) (w' : World) : Prop := ∃ a c, e = .returned (.slice a l.length c) ∧ l.length ≤ c ∧ c ≤ maxLen ∧ Ext w w' ∧ SightsAt w' a l.length l
set_option maxRecDepth 100000 in
set_option maxHeartbeats 4000000 in
theorem without_any (b n c k : Nat) (la : Option Addr) (ls : List Sight) (w : World) (hb : w.heap[b]? = some (.cells #[.slice la n c] 31 (0, 0))) (hl : SightsAt w la n ls) (hn : n ≤ 10) (hk : k ≤ 1000) :
    Calls Try.prog 48 #[.int .i64 k, .pointer (some ⟨b, 0, none⟩)] w (OwnSights (ls.take k ++ ls.drop (k + 1)) w) := by
  obtain ⟨Q, hQ⟩ : ∃ Q, OwnSights (ls.take k ++ ls.drop (k + 1)) w = Q := ⟨_, rfl⟩
  have hll := hl.1
  have hsucc := fun j s h => @wo_succ ls j k s h
  have hfin : ∀ v w', Ext w w' → Owns w' w.heap.size 30 10 v (sightRows ((ls.take n).eraseIdx k)) → Q (.returned v) w' := fun v w' hx ho => by
    rw [← hQ, ← List.eraseIdx_eq_take_drop_succ]
    rw [List.take_of_length_le (by omega)] at ho
    obtain ⟨a, c, rfl, _, h1, h2, h3⟩ := sights_of_owns ho
    exact ⟨a, c, rfl, h1, h2, hx, h3⟩
  rw [hQ]
  clear hQ
  obtain ⟨z0, _⟩ := (Ext.refl w).box hb
  have Hb := Lib.hid hb
  have Hl := Lib.hid hl
  have Hll := Lib.hid hll
  have Hsucc := Lib.hid hsucc
  have Hfin := Lib.hid hfin
  clear hb hl hll hsucc hfin
  go_enter Try.func48, Try.ntmps48
  go_upto_region 3 with fail
  clear z0
  go_loopw [4, 9] (fun v i wr => ∃ j : Nat, j ≤ n ∧ i = .int .i64 j ∧ Ext w wr ∧ Owns wr w.heap.size 30 10 v (sightRows ((ls.take j).eraseIdx k))) (fun _ i _ => n - (intOf i).toNat)
  case atStart => exact ⟨0, Nat.zero_le _, rfl, Ext.refl _, by simpa [sightRows] using Owns.nil _ _ _ _⟩
  case round =>
    obtain ⟨j, hj, rfl, hx, ho⟩ := hrel
    by_cases hlt : j < n
    · have hltB : decide ((j : Int) < (n : Int)) = true := by simp; omega
      have hltN : decide (j < n) = true := decide_eq_true hlt
      obtain ⟨tb, tof, s, rfl, hsj, htb, c0, c1, c2, c3, c4, c5, c6, c7, c8, c9⟩ := (Hl.out.ext hx).get j hlt
      have hs := Hsucc.out j s hsj
      by_cases hjk : j = k
      · rw [if_pos hjk] at hs
        rw [← hs] at ho
        have hB : ((j : Int) != (k : Int)) = false := by simp [hjk]
        have hB2 : (j != k) = false := by simp [hjk]
        have Hx := Lib.hid hx
        have Ho := Lib.hid ho
        clear hx ho
        clear hs hsj hjk
        go_wp2_with fail
        go_roundw
        case rel => exact ⟨j + 1, by omega, by go_num, Hx.out.alloc _, Ho.out.alloc _⟩
        case measure => simp [intOf]; omega
      · rw [if_neg hjk] at hs
        have hB : ((j : Int) != (k : Int)) = true := by simp; omega
        have hB2 : (j != k) = true := by simp [hjk]
        have hap : sightRows ((ls.take (j + 1)).eraseIdx k) = sightRows ((ls.take j).eraseIdx k) ++ sightRows [s] := by rw [hs]; simp [sightRows]
        have hlen : ((ls.take j).eraseIdx k).length ≤ j := by
          have := List.length_eraseIdx_le (ls.take j) k
          simp at this
          omega
        generalize (ls.take j).eraseIdx k = T at *
        obtain ⟨k1, x1, y1, fx1, fy1, tx1, ty1, nl1, nh1, far1⟩ := s
        simp only at c0 c1 c2 c3 c4 c5 c6 c7 c8 c9
        obtain ⟨ta, tcap, hv, _⟩ := sights_of_owns ho
        subst hv
        have Hap := Lib.hid hap
        have Hlen := Lib.hid hlen
        have Hx := Lib.hid hx
        have Ho := Lib.hid ho
        clear hx ho
        clear hs hsj hap hlen hjk
        go_wp2_with (at_builtin; refine wpList_app elem31 _ rfl (.tmp 17) (.tmp 19) rfl w.heap.size _ (sightRows T) rfl ((Ho.out.alloc _).alloc _) (some ⟨wr.heap.size + 1, 0, none⟩) 1 1 (sightRows [⟨k1, x1, y1, fx1, fy1, tx1, ty1, nl1, nh1, far1⟩]) rfl rfl (slAt_block (rows := sightRows [⟨k1, x1, y1, fx1, fy1, tx1, ty1, nl1, nh1, far1⟩]) (alloc_at _ _ _ (by simp)) (fun r hr => (sightRows_row _ r hr).1)) (sightRows_row _) ?_ ?_ ?_)
        · have := Hlen.out
          simp [sightRows]
          omega
        · have := Hx.out.size
          simp
          omega
        · intro v4 w4 ho4 hg4 _
          rw [← Hap.out] at ho4
          have hx4 := ((Hx.out.alloc (.cells #[.int .u8 k1, .int .i64 x1, .int .i64 y1, .int .i64 fx1, .int .i64 fy1, .int .i64 tx1, .int .i64 ty1, .int .i64 nl1, .int .i64 nh1, .int .i64 far1] 30)).alloc (.cells #[.int .u8 k1, .int .i64 x1, .int .i64 y1, .int .i64 fx1, .int .i64 fy1, .int .i64 tx1, .int .i64 ty1, .int .i64 nl1, .int .i64 nh1, .int .i64 far1] 30)).app ((Ho.out.alloc _).alloc _) hg4
          have Ho4 := Lib.hid ho4
          have Hx4 := Lib.hid hx4
          clear ho4 hx4
          clear hg4
          go_wp2_with fail
          go_roundw
          case rel => exact ⟨j + 1, by omega, by go_num, Hx4.out, Ho4.out⟩
          case measure => simp [intOf]; omega
    · have hltB : decide ((j : Int) < (n : Int)) = false := by simp; omega
      have hltN : decide (j < n) = false := decide_eq_false hlt
      obtain rfl : n = j := by omega
      have hf := Hfin.out _ _ hx ho
      have Hf := Lib.hid hf
      clear hf
      clear hx ho
      go_wp2_with fail
      exact Hf.out
end Go.Proofs.Ytacdndehlkaaeaa

/- The law GuideClash: looks that do not contradict each other. -/
namespace Go.Proofs.Ytacdndehlkaaeaa
open Go.RowKit
set_option linter.unusedVariables false
set_option linter.unusedSimpArgs false
/-- the area as far as the looks are seen -/
structure NSt (w : World) (pb : Nat) (p : Corner) (len : Nat) (M : List Half) (ca : Option Addr) (cn cc : Nat) (wr : World) : Prop where
  ext : Ext w wr
  area : AreaOk M
  lies : In M p
  len : len ≤ cn
  box : wr.heap[pb]? = some (.cells #[.slice ca cn cc] 24 (0, 0))
  cap : cn ≤ cc ∧ cc ≤ maxLen
  hal : HalvesAt wr ca cn M
  ne : ∀ X, ca = some X → X.block ≠ pb
  pw : w.heap.size ≤ pb
theorem NSt.ext' {w : World} {pb : Nat} {p : Corner} {len : Nat} {M : List Half} {ca : Option Addr} {cn cc : Nat} {wr wr' : World} (h : NSt w pb p len M ca cn cc wr) (hx : Ext wr wr') : NSt w pb p len M ca cn cc wr' :=
  ⟨h.ext.trans hx, h.area, h.lies, h.len, hx.heap h.box, h.cap, h.hal.ext hx, h.ne, h.pw⟩
theorem NSt.put {w : World} {pb : Nat} {p : Corner} {len : Nat} {M M' : List Half} {ca cb : Option Addr} {cn cc dn dc : Nat} {wr : World} (h : NSt w pb p len M ca cn cc wr) (hM : AreaOk M') (hp : In M' p) (hl : len ≤ dn) (hc : dn ≤ dc ∧ dc ≤ maxLen) (hh : HalvesAt wr cb dn M') (hn : ∀ X, cb = some X → X.block ≠ pb) :
    NSt w pb p len M' cb dn dc (wr.setCell ⟨pb, 0, none⟩ (.slice cb dn dc)) :=
  ⟨h.ext.setCell (p := ⟨pb, 0, none⟩) h.pw _, hM, hp, hl, by simp only [heap_setCell_box, h.box, Option.map_some, setIn_cells, List.setIfInBounds_toArray, List.set_cons_zero], hc, hh.same fun X hX => Below.heap_setCell _ _ _ _ (hn X hX), hn, h.pw⟩
theorem clashK_any {l : List Half} {S : List Sight} {n : Nat} {r : List Int} {q : Int} (hr : clashOf l S = (r, q)) (ho : ∀ s ∈ S, sightOk s = true) (a : Option Addr) (c : Nat) (b : Option Addr) (k d : Nat) (w : World) (hL : HalvesAt w a n l) (hc : n ≤ c) (hm : c ≤ maxLen) (hS : SightsAt w b k S) :
    Calls Try.prog 18 #[.agg #[.slice a n c], .slice b k d] w fun e w' => ∃ b' c', e = .returned (.tuple #[.slice b' r.length c', .int .i64 q]) ∧ Ext w w' ∧ IntsAt .i64 w' b' r.length r :=
  (clash_any a n c l b k d S w hL hc hm hS (fun i hi => by
    have hi' : i < S.length := by rw [hS.1]; exact hi
    have hm : S.getD i zl ∈ S := by
      simp only [List.getD, List.getElem?_eq_getElem hi', Option.getD_some]
      exact List.getElem_mem _
    exact sight_kind (ho _ hm))).mono fun e w' h' => by
    obtain ⟨b', d', rfl, _, _, h3, h4⟩ := h'
    rw [hr] at h4 ⊢
    exact ⟨b', d', rfl, h3, h4⟩
theorem fit_part {l : List Half} {S T : List Sight} {p : Corner} (h : Fit l S p) (ht : ∀ s ∈ T, s ∈ S) : Fit l T p := ⟨h.1, fun s hs => h.2 s (ht s hs)⟩
theorem wo_mem {S : List Sight} {k : Nat} {s : Sight} (h : s ∈ S.take k ++ S.drop (k + 1)) : s ∈ S := by
  rcases List.mem_append.1 h with h | h
  · exact List.mem_of_mem_take h
  · exact List.mem_of_mem_drop h
set_option maxRecDepth 100000 in
set_option maxHeartbeats 8000000 in
theorem clashNone {Q : Exit → Act → World → Prop} {w W : World} {l : List Half} {ls : List Sight} {a la ia : Option Addr} {len cap n lc ic p3 p4 : Nat} {wh : Int} (hA : AreaOk l) (hn : n ≤ 10) (ho : ∀ s ∈ ls, sightOk s = true) (hf : ∃ p, Fit l ls p) (wh0 : 0 ≤ wh) (wh1 : wh ≤ 255)
    (h3 : W.heap[p3]? = some (.cells #[.slice a len cap] 24 (0, 0))) (h4 : W.heap[p4]? = some (.cells #[.slice la n lc] 31 (0, 0))) (hl : HalvesAt W a len l) (hc : len ≤ cap) (hm : cap ≤ maxLen) (hls : SightsAt W la n ls) (hx : Ext w W)
    (hret : ∀ (a' : Act) (w' : World), a'.defers = [] → a'.tmps.getD 6 undef = .bool true → Ext w w' → Q .ret a' w') {u0 u1 u5 u6 u11 u12 u13 u14 u15 u16 u17 u18 u19 u20 u21 u22 u23 u24 u25 u26 u27 u28 u29 u30 u31 u32 u33 u34 u35 u36 u37 u38 u39 u40 u41 u42 u43 u44 u45 u46 u47 u48 u49 u50 u51 u52 u53 u54 u55 u56 u57 u58 u59 u60 u61 u62 u63 u64 u65 u66 u67 u68 u69 u70 u71 u72 u73 u74 u75 u76 u77 u78 u79 u80 u81 u82 u83 u84 u85 u86 u87 u88 u89 u90 u91 u92 u93 u94 u95 u96 u97 u98 u99 u100 u101 u102 u103 u104 u105 u106 u107 u108 u109 u110 u111 u112 u113 u114 u115 u116 u117 u118 u119 u120 u121 u122 u123 u124 u125 u126 u127 u128 u129 u130 u131 u132 u133 u134 u135 u136 u137 u138 u139 u140 u141 u142 u143 u144 u145 u146 u147 u148 u149 u150 u151 u152 u153 u154 u155 u156 u157 u158 u159 u160 u161 u162 u163 u164 u165 u166 u167 u168 u169 u170 u171 u172 u173 u174 u175 u176 u177 u178 u179 u180 u181 u182 u183 u184 u185 u186 u187 u188 u189 u190 u191 u192 u193 u194 u195 u196 u197 u198 u199 u200 u201 u202 u203 u204 u205 u206 u207 u208 u209 u210 u211 u212 u213 u214 u215 u216 u217 u218 : Value} :
    (restFrom Try.f10 11).wp Try.prog Q
      ⟨#[u0, u1, .int .u8 wh, .pointer (some ⟨p3, 0, none⟩), .pointer (some ⟨p4, 0, none⟩), u5, u6, .bool true, .slice ia 0 ic, .int .i64 6, .func (.func 48) #[] #[.pointer (some ⟨p4, 0, none⟩)], u11, u12, u13, u14, u15, u16, u17, u18, u19, u20, u21, u22, u23, u24, u25, u26, u27, u28, u29, u30, u31, u32, u33, u34, u35, u36, u37, u38, u39, u40, u41, u42, u43, u44, u45, u46, u47, u48, u49, u50, u51, u52, u53, u54, u55, u56, u57, u58, u59, u60, u61, u62, u63, u64, u65, u66, u67, u68, u69, u70, u71, u72, u73, u74, u75, u76, u77, u78, u79, u80, u81, u82, u83, u84, u85, u86, u87, u88, u89, u90, u91, u92, u93, u94, u95, u96, u97, u98, u99, u100, u101, u102, u103, u104, u105, u106, u107, u108, u109, u110, u111, u112, u113, u114, u115, u116, u117, u118, u119, u120, u121, u122, u123, u124, u125, u126, u127, u128, u129, u130, u131, u132, u133, u134, u135, u136, u137, u138, u139, u140, u141, u142, u143, u144, u145, u146, u147, u148, u149, u150, u151, u152, u153, u154, u155, u156, u157, u158, u159, u160, u161, u162, u163, u164, u165, u166, u167, u168, u169, u170, u171, u172, u173, u174, u175, u176, u177, u178, u179, u180, u181, u182, u183, u184, u185, u186, u187, u188, u189, u190, u191, u192, u193, u194, u195, u196, u197, u198, u199, u200, u201, u202, u203, u204, u205, u206, u207, u208, u209, u210, u211, u212, u213, u214, u215, u216, u217, u218], []⟩ W := by
  have HRet := Lib.hid hret
  clear hret
  obtain ⟨p, hp⟩ := hf
  have hln := hls.1
  obtain ⟨z4, _⟩ := (Ext.refl W).box h4
  by_cases hn0 : n = 0
  · have hB : ((n : Int) == 0) = true := by simp; omega
    have hB2 : (n == 0) = true := by simp; omega
    have Hx := Lib.hid hx
    have H3 := Lib.hid h3
    have H4 := Lib.hid h4
    clear hx h3 h4
    clear hls hl ho hp hn0
    conv => arg 2; whnf
    go_wp2_with fail
    exact HRet.out _ _ rfl rfl (Hx.out)
  · have hB : ((n : Int) == 0) = false := by simp; omega
    have hB2 : (n == 0) = false := by simp; omega
    have hne' : ¬(n : Int) = 0 := by omega
    obtain ⟨whn, hwn⟩ : ∃ m : Nat, wh = (m : Int) := ⟨wh.toNat, by omega⟩
    subst hwn
    obtain ⟨k, hk⟩ : ∃ k, whn % n = k := ⟨_, rfl⟩
    have hkn : k < n := by rw [← hk]; exact Nat.mod_lt _ (by omega)
    have hrem : (whn : Int).tmod (n : Int) = (k : Int) := by rw [Int.tmod_eq_emod_of_nonneg (by omega)]; omega
    have hlen : (ls.take k ++ ls.drop (k + 1)).length ≤ 10 := by
      rw [List.length_append, List.length_take, List.length_drop]
      omega
    have hwo := fun V (hV : Ext W V) => without_any p4 n lc k la ls V (hV.heap h4) (hls.ext hV) hn (by omega)
    have hcl := clashK_any (n := len) (fit_clash hA ⟨p, fit_part hp fun s => wo_mem (k := k)⟩ hlen (fun s hs => ho s (wo_mem hs))) (fun s hs => ho s (wo_mem hs))
    have hcl := fun b d V (hV : Ext W V) hS => hcl a cap b (ls.take k ++ ls.drop (k + 1)).length d V (hl.ext hV) hc hm hS
    unfold OwnSights at hwo
    generalize ls.take k ++ ls.drop (k + 1) = T at *
    generalize T.length = tl at *
    have hsee := fun (M : List Half) (s : Sight) (hM : AreaOk M) (hi : In M p) (hs : s ∈ ls) => fit_see (l := l) hM hi (hp.2 s hs) (ho s hs)
    have hkd := fun s hs => sight_kind (ho s hs)
    have hst0 : ∀ V pb, Ext W V → W.heap.size ≤ pb → V.heap[pb]? = some (.cells #[.slice a len cap] 24 (0, 0)) → NSt w pb p len l a len cap V := fun V pb hV hpb hb =>
      ⟨hx.trans hV, hA, hp.1, Nat.le_refl _, hb, ⟨hc, hm⟩, hl.ext hV, fun X hX => by have := hl.lt (hl.pos hA) X hX; omega, by have := hx.size; omega⟩
    have Hwo := Lib.hid hwo
    have Hcl := Lib.hid hcl
    have Hsee := Lib.hid hsee
    have Hkd := Lib.hid hkd
    have HS0 := Lib.hid hst0
    have Hls := Lib.hid hls
    have Hn10 := Lib.hid hn
    have Hx := Lib.hid hx
    have H3 := Lib.hid h3
    have H4 := Lib.hid h4
    clear hx h3 h4
    clear hlen hwo hcl hsee hkd hst0 hls hl ho hp hk hkn hln hn0 hA hc hm hn
    conv => arg 2; whnf
    go_upto_region 13 with fail
    clear z4
    refine wp_region_tree (.take [0, 1, 2, 3, 4, 5, 6] (.one 7 (.one 8 (.take [9, 10, 11] (.one 12 (.one 13 .done)))))) (Ext W) _ (by kernel_rfl) (by kernel_rfl) rfl ((Ext.refl _).drew) ?_
    intro ι _ f hf hs
    have f0 := fun q => ((hf q).box H3.out).1
    have f1 := fun q => ((hf q).box H4.out).1
    have Hs := Lib.hid hs
    clear hf hs
    simp only [treeOf, oneOp, twoOp, opsOf, consOp, List.getElem?_toArray, List.getElem?_cons_succ, List.getElem?_cons_zero]
    refine wpOT_take ?_
    repeat (go_big_quiet_step (fail))
    refine wpQuiet_nil ?_
    clear f0 f1 hne' hB hB2
    refine wpOT_one ?_
    go_wp2_with (go_at_call 48; refine (Hwo.out _ (Ext.refl W).drew).mono ?_; rintro e w1 ⟨b1, c1, rfl, -, -, hx1, hS1⟩; have hx1' := ((Ext.refl W).drew).trans hx1)
    refine ⟨Hs.out _ hx1', ?_⟩
    refine wpOT_one ?_
    go_wp2_with (go_at_call 18; refine (Hcl.out _ _ _ hx1' hS1).mono ?_; rintro e w2 ⟨b2, c2, rfl, hx2, _⟩; have hx2' := hx1'.trans hx2)
    refine ⟨Hs.out _ hx2', ?_⟩
    refine wpOT_take ?_
    repeat (go_big_quiet_step (fail))
    refine wpQuiet_nil ?_
    refine wpOT_one ?_
    go_wp2_with fail
    refine ⟨Hs.out _ hx2', ?_⟩
    refine wpOT_one ?_
    go_wp2_with fail
    refine ⟨Hs.out _ hx2', ?_⟩
    refine wpOT_done ?_
    have HX2 := Lib.hid hx2'
    obtain ⟨z2, _⟩ := (Ext.refl w2).box (hx2'.heap H3.out)
    obtain ⟨y2, _⟩ := (Ext.refl w2).box (hx2'.heap H4.out)
    have l2 := heap_lt (hx2'.heap H4.out)
    clear hx1 hx2 hx1' hx2' hS1 Hs
    go_upto_region 16 with fail
    have hx3 := HX2.out.alloc (.cells #[.slice a len cap] 24)
    have st0 := HS0.out _ w2.heap.size hx3 HX2.out.size (heap_alloc_new w2 _)
    have hpb := HX2.out.size
    generalize w2.alloc (.cells #[.slice a len cap] 24) = W3 at *
    generalize w2.heap.size = pb at *
    have St0 := Lib.hid st0
    have Hx3 := Lib.hid hx3
    have Hpb := Lib.hid hpb
    clear st0 hx3 hpb z2 y2 l2 HX2 HS0 Hwo Hcl hrem
    have hn10 := Hn10.out
    go_loopw [14, 91] (fun F I wr => ∃ (j : Nat) (M : List Half) (ca : Option Addr) (cn cc : Nat), j ≤ n ∧ I = .int .i64 j ∧ F = .bool false ∧ Ext W wr ∧ NSt w pb p len M ca cn cc wr) (fun _ I _ => n - (intOf I).toNat)
    case atStart => exact ⟨0, l, a, len, cap, by omega, rfl, rfl, Hx3.out, St0.out⟩
    case round =>
      obtain ⟨j, M, ca, cn, cc, hj, rfl, rfl, hx5, st⟩ := hrel
      have St := Lib.hid st
      have Hx5 := Lib.hid hx5
      clear st hx5 St0
      by_cases hlt : j < n
      · have hltB : decide ((j : Int) < (n : Int)) = true := by simp; omega
        have hltN : decide (j < n) = true := decide_eq_true hlt
        obtain ⟨tb, tof, s, rfl, hsj, htb, c0, c1, c2, c3, c4, c5, c6, c7, c8, c9⟩ := (Hls.out.ext Hx5.out).get j hlt
        have hms := List.mem_of_getElem? hsj
        obtain ⟨M', d, hM', hcase⟩ : ∃ M' d, seeOf M s = (M', d) ∧ (d = 9 ∨ d = 0 ∧ AreaOk M' ∧ In M' p ∧ M.length ≤ M'.length) := by
          rcases Hsee.out M s St.out.area St.out.lies hms with ⟨h1, h2, h3⟩ | h
          · exact ⟨_, _, h1, .inr ⟨rfl, h2, h3, by simp⟩⟩
          · exact ⟨_, _, h, .inl rfl⟩
        obtain ⟨K, hK⟩ : ∃ K, M'.length = K := ⟨_, rfl⟩
        have hkk := Hkd.out s hms
        have hse := fun V (hV : Ext wr V) => seeEither_any (n := cn) hM' hK ca cc V (St.out.hal.ext hV) St.out.cap.1 St.out.cap.2 hkk.1 hkk.2
        have hML := St.out.hal.1
        have HC := Lib.hid (And.intro hcase (And.intro hK hML))
        unfold EitherPost Sight.val at hse
        obtain ⟨k1, x1, y1, fx1, fy1, tx1, ty1, nl1, nh1, far1⟩ := s
        simp only at hse c0 c1 c2 c3 c4 c5 c6 c7 c8 c9
        have Hse := Lib.hid hse
        clear hse
        clear hsj hms hM' hcase hK hkk hML
        go_upto_region 18 with fail
        have hx6 := (Ext.refl wr).alloc (.cells #[.int .u8 k1, .int .i64 x1, .int .i64 y1, .int .i64 fx1, .int .i64 fy1, .int .i64 tx1, .int .i64 ty1, .int .i64 nl1, .int .i64 nh1, .int .i64 far1] 30)
        have hb6 := heap_alloc_new wr (.cells #[.int .u8 k1, .int .i64 x1, .int .i64 y1, .int .i64 fx1, .int .i64 fy1, .int .i64 tx1, .int .i64 ty1, .int .i64 nl1, .int .i64 nh1, .int .i64 far1] 30)
        generalize wr.alloc (.cells #[.int .u8 k1, .int .i64 x1, .int .i64 y1, .int .i64 fx1, .int .i64 fy1, .int .i64 tx1, .int .i64 ty1, .int .i64 nl1, .int .i64 nh1, .int .i64 far1] 30) = W6 at *
        generalize wr.heap.size = i16 at *
        obtain ⟨z6, _⟩ := (Ext.refl W6).box (hx6.heap St.out.box)
        obtain ⟨y6, _⟩ := (Ext.refl W6).box hb6
        have Hx6 := Lib.hid hx6
        clear hx6
        clear hb6 c0 c1 c2 c3 c4 c5 c6 c7 c8 c9 htb
        go_upto_region 19 with (go_at_call 16; refine (Hse.out _ Hx6.out).mono ?_; rintro e w7 ⟨b7, c7, rfl, s7, t7, hx7, hH7, hf7⟩)
        have hx8 := (Hx6.out.trans hx7).alloc (.cells #[.slice b7 K c7] 24)
        have hb8 := heap_alloc_new w7 (.cells #[.slice b7 K c7] 24)
        have hH8 := hH7.ext ((Ext.refl w7).alloc (.cells #[.slice b7 K c7] 24))
        have hf8 := hf7.mono Hx6.out.size
        generalize w7.alloc (.cells #[.slice b7 K c7] 24) = W8 at *
        generalize w7.heap.size = i17 at *
        obtain ⟨z8, _⟩ := (Ext.refl W8).box hb8
        have st8 := St.out.ext' hx8
        obtain ⟨y8, y8'⟩ := (Ext.refl W8).box st8.box
        have l8 := heap_lt st8.box
        have hpbl := heap_lt St.out.box
        rcases HC.out with ⟨rfl | ⟨rfl, hA, hin, hlen⟩, hK, hML⟩
        · have Hxx := Lib.hid st8.ext
          clear HC hK hML st8 hH8 hf8 hb8 hx8 hx7 hH7 hf7 s7 t7 z6 y6 hpbl
          go_wp2_with fail
          exact HRet.out _ _ rfl rfl (Hxx.out)
        · have st9 := st8.put hA hin (by have := St.out.len; omega) ⟨s7, t7⟩ hH8 (fun X hX => by have := hf8 X hX; omega)
          have hx9 := (Hx5.out.trans hx8).setCell (p := ⟨pb, 0, none⟩) Hpb.out (.slice b7 K c7)
          have St9 := Lib.hid st9
          have Hx9 := Lib.hid hx9
          clear HC hK hML st8 st9 hx9 hH8 hf8 hb8 hx8 hx7 hH7 hf7 s7 t7 z6 y6 hA hin hlen hpbl
          go_wp2_with fail
          go_roundw
          case rel => exact ⟨j + 1, M', b7, K, c7, by omega, by go_num, rfl, Hx9.out, St9.out⟩
          case measure => simp [intOf]; omega
      · have hltB : decide ((j : Int) < (n : Int)) = false := by simp; omega
        have hltN : decide (j < n) = false := decide_eq_false hlt
        have hle : decide ((len : Int) ≤ (cn : Int)) = true := by have := St.out.len; simp; omega
        have hleN : decide (len ≤ cn) = true := decide_eq_true St.out.len
        obtain ⟨z5, _⟩ := (Ext.refl wr).box St.out.box
        obtain ⟨y5, _⟩ := (Ext.refl wr).box (Hx5.out.heap H3.out)
        have Hxx := Lib.hid St.out.ext
        clear hlt
        go_wp2_with fail
        exact HRet.out _ _ rfl rfl (Hxx.out)
end Go.Proofs.Ytacdndehlkaaeaa
