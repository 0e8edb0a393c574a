/- The law GuideClash: plain facts. -/
import Derived.Test.YtacdndehlkaaeaaVOrderP
import Derived.Test.YtacdndehlkaaeaaVDoneTrue
import Derived.Test.YtacdndehlkaaeaaVTake
import Derived.OpenShut
import Derived.ShutString
import Derived.ChangeOld
import Derived.Below
namespace Go.Proofs.Ytacdndehlkaaeaa
set_option linter.unusedVariables false
/-- a place that fits an area and looks -/
def Fit (l : List Half) (S : List Sight) (p : Corner) : Prop := In l p ∧ ∀ s ∈ S, In (halvesOf s) p
theorem in_but {l : List Half} {looks : List Sight} {out : Nat → Bool} {p : Corner} : In (allBut l looks out) p ↔ In l p ∧ ∀ i s, looks[i]? = some s → out i = false → In (halvesOf s) p := by
  unfold allBut
  rw [In.append]
  refine and_congr_right fun h => ⟨fun hh i s hi ho => ⟨h.1, fun k hk => ?_⟩, fun hh => ⟨h.1, fun k hk => ?_⟩⟩
  · have hlt : i < looks.length := by
      rcases Nat.lt_or_ge i looks.length with h' | h'
      · exact h'
      · rw [List.getElem?_eq_none h'] at hi; cases hi
    refine hh.2 k (List.mem_flatMap.2 ⟨i, List.mem_range.2 hlt, ?_⟩)
    rw [ho]
    simp only [Bool.false_eq_true, if_false, List.getD, hi, Option.getD_some]
    exact hk
  · obtain ⟨i, hi, hk⟩ := List.mem_flatMap.1 hk
    have hlt := List.mem_range.1 hi
    cases ho : out i with
    | true => rw [ho] at hk; simp at hk
    | false =>
      rw [ho] at hk
      simp only [Bool.false_eq_true, if_false, List.getD, List.getElem?_eq_getElem hlt, Option.getD_some] at hk
      exact (hh i _ (List.getElem?_eq_getElem hlt) ho).2 k hk
theorem fit_but {l : List Half} {S : List Sight} {p : Corner} : In (allBut l S fun _ => false) p ↔ Fit l S p := by
  rw [in_but]
  refine and_congr_right fun _ => ⟨fun h s hs => ?_, fun h i s hi _ => h s (List.mem_of_getElem? hi)⟩
  obtain ⟨i, hi⟩ := List.mem_iff_getElem?.1 hs
  exact h i s hi rfl
theorem some_but {l : List Half} (ha : AreaOk l) {S : List Sight} {out : Nat → Bool} : someB (allBut l S out) = true ↔ ∃ p, In (allBut l S out) p := someB_iff (ha.bounded _)
theorem but_false {l : List Half} (ha : AreaOk l) {S : List Sight} {out : Nat → Bool} : someB (allBut l S out) = false ↔ ∀ p, ¬In (allBut l S out) p := someB_false (ha.bounded _)
theorem out_later {l : List Half} {S : List Sight} : ∀ (k i : Nat), k ≤ i → outTo l S k i = false
  | 0, _, _ => rfl
  | k + 1, i, h => by
    simp only [outTo]
    rw [if_neg (by omega)]
    exact out_later k i (by omega)
theorem out_kept {l : List Half} {S : List Sight} : ∀ (m k i : Nat), i < k → outTo l S (k + m) i = outTo l S k i
  | 0, _, _, _ => rfl
  | m + 1, k, i, h => by
    rw [← Nat.add_assoc]
    simp only [outTo]
    rw [if_neg (by omega)]
    exact out_kept m k i h
theorem out_at {l : List Half} {S : List Sight} {k i : Nat} (h : i < k) : outTo l S k i = !someB (allBut l S fun j => j == i || outTo l S i j) := by
  have := out_kept (l := l) (S := S) (k - (i + 1)) (i + 1) i (by omega)
  rw [show i + 1 + (k - (i + 1)) = k by omega] at this
  rw [this]
  simp [outTo]
theorem out_no {l : List Half} (ha : AreaOk l) {S : List Sight} (h0 : someB (allBut l S fun _ => false) = false) : ∀ k, someB (allBut l S (outTo l S k)) = false
  | 0 => h0
  | k + 1 => by
    have ih := out_no ha h0 k
    cases hb : someB (allBut l S fun j => j == k || outTo l S k j) with
    | false =>
      have e : outTo l S (k + 1) = fun j => j == k || outTo l S k j := by
        funext j
        simp only [outTo]
        by_cases hj : j = k
        · rw [if_pos hj, hb]; simp [hj]
        · rw [if_neg hj]; simp [hj]
      rw [e]
      exact hb
    | true =>
      have e : outTo l S (k + 1) = outTo l S k := by
        funext j
        simp only [outTo]
        by_cases hj : j = k
        · rw [if_pos hj, hb, hj, out_later k k (Nat.le_refl k)]; rfl
        · rw [if_neg hj]
      rw [e]
      exact ih
/-- without one of those that remain the others fit -/
theorem out_one {l : List Half} (ha : AreaOk l) {S : List Sight} {n i : Nat} (hi : i < n) (ho : outTo l S n i = false) : ∃ p, In (allBut l S fun j => j == i || outTo l S n j) p := by
  rw [out_at hi] at ho
  have h1 : someB (allBut l S fun j => j == i || outTo l S i j) = true := by simpa using ho
  obtain ⟨p, hp⟩ := (some_but ha).1 h1
  refine ⟨p, in_but.2 ⟨(in_but.1 hp).1, fun j s hj hout => (in_but.1 hp).2 j s hj ?_⟩⟩
  simp only [Bool.or_eq_false_iff] at hout ⊢
  refine ⟨hout.1, ?_⟩
  rcases Nat.lt_or_ge j i with h | h
  · have := out_kept (l := l) (S := S) (n - i) i j h
    rw [show i + (n - i) = n by omega] at this
    rw [← this]
    exact hout.2
  · exact out_later i j h
/-- looks that cannot be left out -/
structure Tight (l : List Half) (N : List Sight) : Prop where
  no : ∀ p, ¬Fit l N p
  one : ∀ k, k < N.length → ∃ p, Fit l (N.take k ++ N.drop (k + 1)) p
def keptOf (l : List Half) (S : List Sight) : List Nat := (List.range S.length).filter fun i => !outTo l S S.length i
def namedOf (l : List Half) (S : List Sight) : List Sight := (keptOf l S).map fun i => S.getD i ⟨0, 0, 0, 0, 0, 0, 0, 0, 0, 0⟩
theorem kept_lt {l : List Half} {S : List Sight} {i : Nat} (h : i ∈ keptOf l S) : i < S.length ∧ outTo l S S.length i = false := by
  obtain ⟨h1, h2⟩ := List.mem_filter.1 h
  exact ⟨List.mem_range.1 h1, by simpa using h2⟩
theorem kept_asc (l : List Half) (S : List Sight) : (keptOf l S).Pairwise (· < ·) := (List.pairwise_lt_range (n := S.length)).filter _
theorem named_mem {l : List Half} {S : List Sight} {s : Sight} (h : s ∈ namedOf l S) : s ∈ S := by
  obtain ⟨i, hi, rfl⟩ := List.mem_map.1 h
  have := (kept_lt hi).1
  simp only [List.getD, List.getElem?_eq_getElem this, Option.getD_some]
  exact List.getElem_mem _
theorem named_tight {l : List Half} (ha : AreaOk l) {S : List Sight} (h0 : someB (allBut l S fun _ => false) = false) : Tight l (namedOf l S) := by
  have hno := (but_false ha).1 (out_no ha h0 S.length)
  refine ⟨fun p hp => hno p (in_but.2 ⟨hp.1, fun i s hi ho => hp.2 s ?_⟩), fun k hk => ?_⟩
  · have hlt : i < S.length := by
      rcases Nat.lt_or_ge i S.length with h' | h'
      · exact h'
      · rw [List.getElem?_eq_none h'] at hi; cases hi
    refine List.mem_map.2 ⟨i, List.mem_filter.2 ⟨List.mem_range.2 hlt, by simp [ho]⟩, ?_⟩
    simp [List.getD, hi]
  · have hk' : k < (keptOf l S).length := by simpa [namedOf] using hk
    have hm := kept_lt (List.getElem_mem hk')
    obtain ⟨p, hp⟩ := out_one ha hm.1 hm.2
    have hpw := List.pairwise_iff_getElem.1 (kept_asc l S)
    have key : ∀ j (hj : j < (keptOf l S).length), j ≠ k → In (halvesOf (S.getD ((keptOf l S)[j]) ⟨0, 0, 0, 0, 0, 0, 0, 0, 0, 0⟩)) p := fun j hj hne => by
      have hmj := kept_lt (List.getElem_mem hj)
      refine (in_but.1 hp).2 _ _ (show S[(keptOf l S)[j]]? = some _ by simp [List.getD, List.getElem?_eq_getElem hmj.1]) ?_
      simp only [Bool.or_eq_false_iff, beq_eq_false_iff_ne, ne_eq]
      refine ⟨fun e => ?_, hmj.2⟩
      rcases Nat.lt_or_gt_of_ne hne with h | h
      · have := hpw j k hj hk' h; omega
      · have := hpw k j hk' hj h; omega
    refine ⟨p, (in_but.1 hp).1, fun s hs => ?_⟩
    rcases List.mem_append.1 hs with hs | hs
    · obtain ⟨j, hj, rfl⟩ := List.mem_iff_getElem.1 hs
      simp only [List.length_take] at hj
      have hj' : j < (keptOf l S).length := by omega
      have := key j hj' (by omega)
      simpa [namedOf] using this
    · obtain ⟨j, hj, rfl⟩ := List.mem_iff_getElem.1 hs
      simp only [List.length_drop, namedOf, List.length_map] at hj
      have hj' : k + 1 + j < (keptOf l S).length := by omega
      have := key (k + 1 + j) hj' (by omega)
      simpa [namedOf] using this
theorem clash_of {l : List Half} {S : List Sight} (ha : AreaOk l) (hl : S.length ≤ 10) (ho : ∀ s ∈ S, sightOk s = true) : clashOf l S = if someB (allBut l S fun _ => false) = true then ([], 6) else ((keptOf l S).map fun i : Nat => (i : Int), 0) := by
  unfold clashOf
  rw [if_neg (by rw [areaOk_iff.2 ha]; simp), if_neg (by omega), if_neg (by rw [List.all_eq_true.2 ho]; simp)]
  rfl
/-- of a tight list all remain -/
theorem tight_clash {l : List Half} {N : List Sight} (ha : AreaOk l) (ht : Tight l N) (hl : N.length ≤ 10) (ho : ∀ s ∈ N, sightOk s = true) : ∃ r, clashOf l N = (r, 0) ∧ r.length = N.length := by
  have h0 : someB (allBut l N fun _ => false) = false := (but_false ha).2 fun p hp => ht.no p (fit_but.1 hp)
  have hall : ∀ k, k ≤ N.length → ∀ i, outTo l N k i = false := by
    intro k
    induction k with
    | zero => intro _ i; rfl
    | succ k ih =>
      intro hk i
      have ih := ih (by omega)
      simp only [outTo]
      split
      · obtain ⟨p, hp⟩ := ht.one k (by omega)
        have : someB (allBut l N fun j => j == k || outTo l N k j) = true := (some_but ha).2 ⟨p, in_but.2 ⟨hp.1, fun j s hj hout => hp.2 s ?_⟩⟩
        · rw [this]; rfl
        · simp only [Bool.or_eq_false_iff, beq_eq_false_iff_ne, ne_eq] at hout
          rw [List.mem_append]
          rcases Nat.lt_or_gt_of_ne hout.1 with h | h
          · exact .inl (List.mem_iff_getElem?.2 ⟨j, by rw [List.getElem?_take_of_lt h]; exact hj⟩)
          · exact .inr (List.mem_iff_getElem?.2 ⟨j - (k + 1), by rw [List.getElem?_drop, show k + 1 + (j - (k + 1)) = j by omega]; exact hj⟩)
      · exact ih i
  rw [clash_of ha hl ho, if_neg (by rw [h0]; simp)]
  refine ⟨_, rfl, ?_⟩
  have : keptOf l N = List.range N.length := by
    unfold keptOf
    rw [List.filter_eq_self]
    intro i _
    rw [hall _ (Nat.le_refl _)]
    rfl
  rw [this]
  simp
theorem fit_clash {l : List Half} {N : List Sight} (ha : AreaOk l) (hf : ∃ p, Fit l N p) (hl : N.length ≤ 10) (ho : ∀ s ∈ N, sightOk s = true) : clashOf l N = ([], 6) := by
  obtain ⟨p, hp⟩ := hf
  rw [clash_of ha hl ho, if_pos ((some_but ha).2 ⟨p, fit_but.2 hp⟩)]
inductive ClashIs (l : List Half) (S : List Sight) : Prop where
  | bad (h : clashOf l S = ([], 41))
  | none (h : clashOf l S = ([], 6)) (ho : ∀ s ∈ S, sightOk s = true) (hf : ∃ p, Fit l S p)
  | some (h : clashOf l S = ((keptOf l S).map fun i : Nat => (i : Int), 0)) (ho : ∀ s ∈ S, sightOk s = true) (ht : Tight l (namedOf l S))
theorem clash_is {l : List Half} {S : List Sight} (ha : AreaOk l) (hl : S.length ≤ 10) : ClashIs l S := by
  cases hg : S.all sightOk with
  | false =>
    refine .bad ?_
    unfold clashOf
    rw [if_neg (by rw [areaOk_iff.2 ha]; simp), if_neg (by omega), if_pos hg]
  | true =>
    have ho := List.all_eq_true.1 hg
    have hc := clash_of ha hl ho
    cases hb : someB (allBut l S fun _ => false) with
    | true =>
      rw [hb, if_pos rfl] at hc
      obtain ⟨p, hp⟩ := (some_but ha).1 hb
      exact .none hc ho ⟨p, fit_but.1 hp⟩
    | false =>
      rw [hb, if_neg (by simp)] at hc
      exact .some hc ho (named_tight ha hb)
/-- a look more, of some that fit -/
theorem fit_see {l m : List Half} {s : Sight} {p : Corner} (ha : AreaOk m) (hp : In m p) (hs : In (halvesOf s) p) (ho : sightOk s = true) : (seeOf m s = (m ++ halvesOf s, 0) ∧ AreaOk (m ++ halvesOf s) ∧ In (m ++ halvesOf s) p) ∨ seeOf m s = ([], 9) := by
  have hi : In (m ++ halvesOf s) p := In.append.2 ⟨hp, hs⟩
  by_cases hl : 40 < m.length + (halvesOf s).length
  · refine .inr ?_
    unfold seeOf
    rw [if_neg (by rw [areaOk_iff.2 ha]; simp), if_neg (by rw [ho]; simp), if_pos hl]
  · refine .inl ⟨?_, ha.more (halves_ok ho) (by omega), hi⟩
    unfold seeOf
    rw [if_neg (by rw [areaOk_iff.2 ha]; simp), if_neg (by rw [ho]; simp), if_neg hl, if_neg]
    rw [(someB_iff (ha.bounded _)).2 ⟨_, hi⟩]
    simp
end Go.Proofs.Ytacdndehlkaaeaa

/- The law GuideClash: looks without one. -/
namespace Go.Proofs.Ytacdndehlkaaeaa
open Go.RowKit
set_option linter.unusedVariables false
set_option linter.unusedSimpArgs false
theorem wo_succ {ls : List Sight} {j k : Nat} {s : Sight} (h : ls[j]? = some s) : (ls.take (j + 1)).eraseIdx k = if j = k then (ls.take j).eraseIdx k else (ls.take j).eraseIdx k ++ [s] := by
  have hj : j < ls.length := by
    rcases Nat.lt_or_ge j ls.length with h' | h'
    · exact h'
    · rw [List.getElem?_eq_none h'] at h; cases h
  have e : ls.take (j + 1) = ls.take j ++ [s] := by
    rw [List.take_add_one, h]
    rfl
  have hl : (ls.take j).length = j := by simp; omega
  rw [e]
  by_cases hk : j = k
  · rw [if_pos hk, List.eraseIdx_append_of_length_le (by omega)]
    have h1 : ([s] : List Sight).eraseIdx (k - (ls.take j).length) = [] := by rw [hl, hk, Nat.sub_self]; rfl
    rw [h1, List.append_nil, List.eraseIdx_of_length_le (by omega)]
  · rw [if_neg hk]
    rcases Nat.lt_or_ge k j with h' | h'
    · rw [List.eraseIdx_append_of_lt_length (by omega)]
    · rw [List.eraseIdx_append_of_length_le (by omega), List.eraseIdx_of_length_le (show ([s] : List Sight).length ≤ k - (ls.take j).length by simp; omega), List.eraseIdx_of_length_le (show (ls.take j).length ≤ k by omega)]
def OwnSights (l : List Sight) (w : World) (e : Ending) (w' : World) : Prop := ∃ a c, e = .returned (.slice a l.length c) ∧ l.length ≤ c ∧ c ≤ maxLen ∧ Ext w w' ∧ SightsAt w' a l.length l
set_option maxRecDepth 100000 in
set_option maxHeartbeats 4000000 in
theorem without_any (b n c k : Nat) (la : Option Addr) (ls : List Sight) (w : World) (hb : w.heap[b]? = some (.cells #[.slice la n c] 31 (0, 0))) (hl : SightsAt w la n ls) (hn : n ≤ 10) (hk : k ≤ 1000) :
    Calls Try.prog 48 #[.int .i64 k, .pointer (some ⟨b, 0, none⟩)] w (OwnSights (ls.take k ++ ls.drop (k + 1)) w) := by
  obtain ⟨Q, hQ⟩ : ∃ Q, OwnSights (ls.take k ++ ls.drop (k + 1)) w = Q := ⟨_, rfl⟩
  have hll := hl.1
  have hsucc := fun j s h => @wo_succ ls j k s h
  have hfin : ∀ v w', Ext w w' → Owns w' w.heap.size 30 10 v (sightRows ((ls.take n).eraseIdx k)) → Q (.returned v) w' := fun v w' hx ho => by
    rw [← hQ, ← List.eraseIdx_eq_take_drop_succ]
    rw [List.take_of_length_le (by omega)] at ho
    obtain ⟨a, c, rfl, _, h1, h2, h3⟩ := sights_of_owns ho
    exact ⟨a, c, rfl, h1, h2, hx, h3⟩
  rw [hQ]
  clear hQ
  obtain ⟨z0, _⟩ := (Ext.refl w).box hb
  have Hb := Lib.hid hb
  have Hl := Lib.hid hl
  have Hll := Lib.hid hll
  have Hsucc := Lib.hid hsucc
  have Hfin := Lib.hid hfin
  clear hb hl hll hsucc hfin
  go_enter Try.func48, Try.ntmps48
  go_upto_region 3 with fail
  clear z0
  go_loopw [4, 9] (fun v i wr => ∃ j : Nat, j ≤ n ∧ i = .int .i64 j ∧ Ext w wr ∧ Owns wr w.heap.size 30 10 v (sightRows ((ls.take j).eraseIdx k))) (fun _ i _ => n - (intOf i).toNat)
  case atStart => exact ⟨0, Nat.zero_le _, rfl, Ext.refl _, by simpa [sightRows] using Owns.nil _ _ _ _⟩
  case round =>
    obtain ⟨j, hj, rfl, hx, ho⟩ := hrel
    by_cases hlt : j < n
    · have hltB : decide ((j : Int) < (n : Int)) = true := by simp; omega
      have hltN : decide (j < n) = true := decide_eq_true hlt
      obtain ⟨tb, tof, s, rfl, hsj, htb, c0, c1, c2, c3, c4, c5, c6, c7, c8, c9⟩ := (Hl.out.ext hx).get j hlt
      have hs := Hsucc.out j s hsj
      by_cases hjk : j = k
      · rw [if_pos hjk] at hs
        rw [← hs] at ho
        have hB : ((j : Int) != (k : Int)) = false := by simp [hjk]
        have hB2 : (j != k) = false := by simp [hjk]
        have Hx := Lib.hid hx
        have Ho := Lib.hid ho
        clear hx ho
        clear hs hsj hjk
        go_wp2_with fail
        go_roundw
        case rel => exact ⟨j + 1, by omega, by go_num, Hx.out.alloc _, Ho.out.alloc _⟩
        case measure => simp [intOf]; omega
      · rw [if_neg hjk] at hs
        have hB : ((j : Int) != (k : Int)) = true := by simp; omega
        have hB2 : (j != k) = true := by simp [hjk]
        have hap : sightRows ((ls.take (j + 1)).eraseIdx k) = sightRows ((ls.take j).eraseIdx k) ++ sightRows [s] := by rw [hs]; simp [sightRows]
        have hlen : ((ls.take j).eraseIdx k).length ≤ j := by
          have := List.length_eraseIdx_le (ls.take j) k
          simp at this
          omega
        generalize (ls.take j).eraseIdx k = T at *
        obtain ⟨k1, x1, y1, fx1, fy1, tx1, ty1, nl1, nh1, far1⟩ := s
        simp only at c0 c1 c2 c3 c4 c5 c6 c7 c8 c9
        obtain ⟨ta, tcap, hv, _⟩ := sights_of_owns ho
        subst hv
        have Hap := Lib.hid hap
        have Hlen := Lib.hid hlen
        have Hx := Lib.hid hx
        have Ho := Lib.hid ho
        clear hx ho
        clear hs hsj hap hlen hjk
        go_wp2_with (at_builtin; refine wpList_app elem31 _ rfl (.tmp 17) (.tmp 19) rfl w.heap.size _ (sightRows T) rfl ((Ho.out.alloc _).alloc _) (some ⟨wr.heap.size + 1, 0, none⟩) 1 1 (sightRows [⟨k1, x1, y1, fx1, fy1, tx1, ty1, nl1, nh1, far1⟩]) rfl rfl (slAt_block (rows := sightRows [⟨k1, x1, y1, fx1, fy1, tx1, ty1, nl1, nh1, far1⟩]) (alloc_at _ _ _ (by simp)) (fun r hr => (sightRows_row _ r hr).1)) (sightRows_row _) ?_ ?_ ?_)
        · have := Hlen.out
          simp [sightRows]
          omega
        · have := Hx.out.size
          simp
          omega
        · intro v4 w4 ho4 hg4 _
          rw [← Hap.out] at ho4
          have hx4 := ((Hx.out.alloc (.cells #[.int .u8 k1, .int .i64 x1, .int .i64 y1, .int .i64 fx1, .int .i64 fy1, .int .i64 tx1, .int .i64 ty1, .int .i64 nl1, .int .i64 nh1, .int .i64 far1] 30)).alloc (.cells #[.int .u8 k1, .int .i64 x1, .int .i64 y1, .int .i64 fx1, .int .i64 fy1, .int .i64 tx1, .int .i64 ty1, .int .i64 nl1, .int .i64 nh1, .int .i64 far1] 30)).app ((Ho.out.alloc _).alloc _) hg4
          have Ho4 := Lib.hid ho4
          have Hx4 := Lib.hid hx4
          clear ho4 hx4
          clear hg4
          go_wp2_with fail
          go_roundw
          case rel => exact ⟨j + 1, by omega, by go_num, Hx4.out, Ho4.out⟩
          case measure => simp [intOf]; omega
    · have hltB : decide ((j : Int) < (n : Int)) = false := by simp; omega
      have hltN : decide (j < n) = false := decide_eq_false hlt
      obtain rfl : n = j := by omega
      have hf := Hfin.out _ _ hx ho
      have Hf := Lib.hid hf
      clear hf
      clear hx ho
      go_wp2_with fail
      exact Hf.out
end Go.Proofs.Ytacdndehlkaaeaa

/- The law GuideClash: looks that do not contradict each other. -/
namespace Go.Proofs.Ytacdndehlkaaeaa
open Go.RowKit
set_option linter.unusedVariables false
set_option linter.unusedSimpArgs false
/-- the area as far as the looks are seen -/
structure NSt (w : World) (pb : Nat) (p : Corner) (len : Nat) (M : List Half) (ca : Option Addr) (cn cc : Nat) (wr : World) : Prop where
  ext : Ext w wr
  area : AreaOk M
  lies : In M p
  len : len ≤ cn
  box : wr.heap[pb]? = some (.cells #[.slice ca cn cc] 24 (0, 0))
  cap : cn ≤ cc ∧ cc ≤ maxLen
  hal : HalvesAt wr ca cn M
  ne : ∀ X, ca = some X → X.block ≠ pb
  pw : w.heap.size ≤ pb
theorem NSt.ext' {w : World} {pb : Nat} {p : Corner} {len : Nat} {M : List Half} {ca : Option Addr} {cn cc : Nat} {wr wr' : World} (h : NSt w pb p len M ca cn cc wr) (hx : Ext wr wr') : NSt w pb p len M ca cn cc wr' :=
  ⟨h.ext.trans hx, h.area, h.lies, h.len, hx.heap h.box, h.cap, h.hal.ext hx, h.ne, h.pw⟩
theorem NSt.put {w : World} {pb : Nat} {p : Corner} {len : Nat} {M M' : List Half} {ca cb : Option Addr} {cn cc dn dc : Nat} {wr : World} (h : NSt w pb p len M ca cn cc wr) (hM : AreaOk M') (hp : In M' p) (hl : len ≤ dn) (hc : dn ≤ dc ∧ dc ≤ maxLen) (hh : HalvesAt wr cb dn M') (hn : ∀ X, cb = some X → X.block ≠ pb) :
    NSt w pb p len M' cb dn dc (wr.setCell ⟨pb, 0, none⟩ (.slice cb dn dc)) :=
  ⟨h.ext.setCell (p := ⟨pb, 0, none⟩) h.pw _, hM, hp, hl, by simp only [heap_setCell_box, h.box, Option.map_some, setIn_cells, List.setIfInBounds_toArray, List.set_cons_zero], hc, hh.same fun X hX => Below.heap_setCell _ _ _ _ (hn X hX), hn, h.pw⟩
theorem clashK_any {l : List Half} {S : List Sight} {n : Nat} {r : List Int} {q : Int} (hr : clashOf l S = (r, q)) (ho : ∀ s ∈ S, sightOk s = true) (a : Option Addr) (c : Nat) (b : Option Addr) (k d : Nat) (w : World) (hL : HalvesAt w a n l) (hc : n ≤ c) (hm : c ≤ maxLen) (hS : SightsAt w b k S) :
    Calls Try.prog 18 #[.agg #[.slice a n c], .slice b k d] w fun e w' => ∃ b' c', e = .returned (.tuple #[.slice b' r.length c', .int .i64 q]) ∧ Ext w w' ∧ IntsAt .i64 w' b' r.length r :=
  (clash_any a n c l b k d S w hL hc hm hS (fun i hi => by
    have hi' : i < S.length := by rw [hS.1]; exact hi
    have hm : S.getD i zl ∈ S := by
      simp only [List.getD, List.getElem?_eq_getElem hi', Option.getD_some]
      exact List.getElem_mem _
    exact sight_kind (ho _ hm))).mono fun e w' h' => by
    obtain ⟨b', d', rfl, _, _, h3, h4⟩ := h'
    rw [hr] at h4 ⊢
    exact ⟨b', d', rfl, h3, h4⟩
theorem fit_part {l : List Half} {S T : List Sight} {p : Corner} (h : Fit l S p) (ht : ∀ s ∈ T, s ∈ S) : Fit l T p := ⟨h.1, fun s hs => h.2 s (ht s hs)⟩
theorem wo_mem {S : List Sight} {k : Nat} {s : Sight} (h : s ∈ S.take k ++ S.drop (k + 1)) : s ∈ S := by
  rcases List.mem_append.1 h with h | h
  · exact List.mem_of_mem_take h
  · exact List.mem_of_mem_drop h
set_option maxRecDepth 100000 in
set_option maxHeartbeats 8000000 in
theorem clashNone {Q : Exit → Act → World → Prop} {w W : World} {l : List Half} {ls : List Sight} {a la ia : Option Addr} {len cap n lc ic p3 p4 : Nat} {wh : Int} (hA : AreaOk l) (hn : n ≤ 10) (ho : ∀ s ∈ ls, sightOk s = true) (hf : ∃ p, Fit l ls p) (wh0 : 0 ≤ wh) (wh1 : wh ≤ 255)
    (h3 : W.heap[p3]? = some (.cells #[.slice a len cap] 24 (0, 0))) (h4 : W.heap[p4]? = some (.cells #[.slice la n lc] 31 (0, 0))) (hl : HalvesAt W a len l) (hc : len ≤ cap) (hm : cap ≤ maxLen) (hls : SightsAt W la n ls) (hx : Ext w W)
    (hret : ∀ (a' : Act) (w' : World), a'.defers = [] → a'.tmps.getD 6 undef = .bool true → Ext w w' → Q .ret a' w') {u0 u1 u5 u6 u11 u12 u13 u14 u15 u16 u17 u18 u19 u20 u21 u22 u23 u24 u25 u26 u27 u28 u29 u30 u31 u32 u33 u34 u35 u36 u37 u38 u39 u40 u41 u42 u43 u44 u45 u46 u47 u48 u49 u50 u51 u52 u53 u54 u55 u56 u57 u58 u59 u60 u61 u62 u63 u64 u65 u66 u67 u68 u69 u70 u71 u72 u73 u74 u75 u76 u77 u78 u79 u80 u81 u82 u83 u84 u85 u86 u87 u88 u89 u90 u91 u92 u93 u94 u95 u96 u97 u98 u99 u100 u101 u102 u103 u104 u105 u106 u107 u108 u109 u110 u111 u112 u113 u114 u115 u116 u117 u118 u119 u120 u121 u122 u123 u124 u125 u126 u127 u128 u129 u130 u131 u132 u133 u134 u135 u136 u137 u138 u139 u140 u141 u142 u143 u144 u145 u146 u147 u148 u149 u150 u151 u152 u153 u154 u155 u156 u157 u158 u159 u160 u161 u162 u163 u164 u165 u166 u167 u168 u169 u170 u171 u172 u173 u174 u175 u176 u177 u178 u179 u180 u181 u182 u183 u184 u185 u186 u187 u188 u189 u190 u191 u192 u193 u194 u195 u196 u197 u198 u199 u200 u201 u202 u203 u204 u205 u206 u207 u208 u209 u210 u211 u212 u213 u214 u215 u216 u217 u218 : Value} :
    (restFrom Try.f10 11).wp Try.prog Q
      ⟨#[u0, u1, .int .u8 wh, .pointer (some ⟨p3, 0, none⟩), .pointer (some ⟨p4, 0, none⟩), u5, u6, .bool true, .slice ia 0 ic, .int .i64 6, .func (.func 48) #[] #[.pointer (some ⟨p4, 0, none⟩)], u11, u12, u13, u14, u15, u16, u17, u18, u19, u20, u21, u22, u23, u24, u25, u26, u27, u28, u29, u30, u31, u32, u33, u34, u35, u36, u37, u38, u39, u40, u41, u42, u43, u44, u45, u46, u47, u48, u49, u50, u51, u52, u53, u54, u55, u56, u57, u58, u59, u60, u61, u62, u63, u64, u65, u66, u67, u68, u69, u70, u71, u72, u73, u74, u75, u76, u77, u78, u79, u80, u81, u82, u83, u84, u85, u86, u87, u88, u89, u90, u91, u92, u93, u94, u95, u96, u97, u98, u99, u100, u101, u102, u103, u104, u105, u106, u107, u108, u109, u110, u111, u112, u113, u114, u115, u116, u117, u118, u119, u120, u121, u122, u123, u124, u125, u126, u127, u128, u129, u130, u131, u132, u133, u134, u135, u136, u137, u138, u139, u140, u141, u142, u143, u144, u145, u146, u147, u148, u149, u150, u151, u152, u153, u154, u155, u156, u157, u158, u159, u160, u161, u162, u163, u164, u165, u166, u167, u168, u169, u170, u171, u172, u173, u174, u175, u176, u177, u178, u179, u180, u181, u182, u183, u184, u185, u186, u187, u188, u189, u190, u191, u192, u193, u194, u195, u196, u197, u198, u199, u200, u201, u202, u203, u204, u205, u206, u207, u208, u209, u210, u211, u212, u213, u214, u215, u216, u217, u218], []⟩ W := by
  have HRet := Lib.hid hret
  clear hret
  obtain ⟨p, hp⟩ := hf
  have hln := hls.1
  obtain ⟨z4, _⟩ := (Ext.refl W).box h4
  by_cases hn0 : n = 0
  · have hB : ((n : Int) == 0) = true := by simp; omega
    have hB2 : (n == 0) = true := by simp; omega
    have Hx := Lib.hid hx
    have H3 := Lib.hid h3
    have H4 := Lib.hid h4
    clear hx h3 h4
    clear hls hl ho hp hn0
    conv => arg 2; whnf
    go_wp2_with fail
    exact HRet.out _ _ rfl rfl (Hx.out)
  · have hB : ((n : Int) == 0) = false := by simp; omega
    have hB2 : (n == 0) = false := by simp; omega
    have hne' : ¬(n : Int) = 0 := by omega
    obtain ⟨whn, hwn⟩ : ∃ m : Nat, wh = (m : Int) := ⟨wh.toNat, by omega⟩
    subst hwn
    obtain ⟨k, hk⟩ : ∃ k, whn % n = k := ⟨_, rfl⟩
    have hkn : k < n := by rw [← hk]; exact Nat.mod_lt _ (by omega)
    have hrem : (whn : Int).tmod (n : Int) = (k : Int) := by rw [Int.tmod_eq_emod_of_nonneg (by omega)]; omega
    have hlen : (ls.take k ++ ls.drop (k + 1)).length ≤ 10 := by
      rw [List.length_append, List.length_take, List.length_drop]
      omega
    have hwo := fun V (hV : Ext W V) => without_any p4 n lc k la ls V (hV.heap h4) (hls.ext hV) hn (by omega)
    have hcl := clashK_any (n := len) (fit_clash hA ⟨p, fit_part hp fun s => wo_mem (k := k)⟩ hlen (fun s hs => ho s (wo_mem hs))) (fun s hs => ho s (wo_mem hs))
    have hcl := fun b d V (hV : Ext W V) hS => hcl a cap b (ls.take k ++ ls.drop (k + 1)).length d V (hl.ext hV) hc hm hS
    unfold OwnSights at hwo
    generalize ls.take k ++ ls.drop (k + 1) = T at *
    generalize T.length = tl at *
    have hsee := fun (M : List Half) (s : Sight) (hM : AreaOk M) (hi : In M p) (hs : s ∈ ls) => fit_see (l := l) hM hi (hp.2 s hs) (ho s hs)
    have hkd := fun s hs => sight_kind (ho s hs)
    have hst0 : ∀ V pb, Ext W V → W.heap.size ≤ pb → V.heap[pb]? = some (.cells #[.slice a len cap] 24 (0, 0)) → NSt w pb p len l a len cap V := fun V pb hV hpb hb =>
      ⟨hx.trans hV, hA, hp.1, Nat.le_refl _, hb, ⟨hc, hm⟩, hl.ext hV, fun X hX => by have := hl.lt (hl.pos hA) X hX; omega, by have := hx.size; omega⟩
    have Hwo := Lib.hid hwo
    have Hcl := Lib.hid hcl
    have Hsee := Lib.hid hsee
    have Hkd := Lib.hid hkd
    have HS0 := Lib.hid hst0
    have Hls := Lib.hid hls
    have Hn10 := Lib.hid hn
    have Hx := Lib.hid hx
    have H3 := Lib.hid h3
    have H4 := Lib.hid h4
    clear hx h3 h4
    clear hlen hwo hcl hsee hkd hst0 hls hl ho hp hk hkn hln hn0 hA hc hm hn
    conv => arg 2; whnf
    go_upto_region 13 with fail
    clear z4
    refine wp_region_tree (.take [0, 1, 2, 3, 4, 5, 6] (.one 7 (.one 8 (.take [9, 10, 11] (.one 12 (.one 13 .done)))))) (Ext W) _ (by kernel_rfl) (by kernel_rfl) rfl ((Ext.refl _).drew) ?_
    intro ι _ f hf hs
    have f0 := fun q => ((hf q).box H3.out).1
    have f1 := fun q => ((hf q).box H4.out).1
    have Hs := Lib.hid hs
    clear hf hs
    simp only [treeOf, oneOp, twoOp, opsOf, consOp, List.getElem?_toArray, List.getElem?_cons_succ, List.getElem?_cons_zero]
    refine wpOT_take ?_
    repeat (go_big_quiet_step (fail))
    refine wpQuiet_nil ?_
    clear f0 f1 hne' hB hB2
    refine wpOT_one ?_
    go_wp2_with (go_at_call 48; refine (Hwo.out _ (Ext.refl W).drew).mono ?_; rintro e w1 ⟨b1, c1, rfl, -, -, hx1, hS1⟩; have hx1' := ((Ext.refl W).drew).trans hx1)
    refine ⟨Hs.out _ hx1', ?_⟩
    refine wpOT_one ?_
    go_wp2_with (go_at_call 18; refine (Hcl.out _ _ _ hx1' hS1).mono ?_; rintro e w2 ⟨b2, c2, rfl, hx2, _⟩; have hx2' := hx1'.trans hx2)
    refine ⟨Hs.out _ hx2', ?_⟩
    refine wpOT_take ?_
    repeat (go_big_quiet_step (fail))
    refine wpQuiet_nil ?_
    refine wpOT_one ?_
    go_wp2_with fail
    refine ⟨Hs.out _ hx2', ?_⟩
    refine wpOT_one ?_
    go_wp2_with fail
    refine ⟨Hs.out _ hx2', ?_⟩
    refine wpOT_done ?_
    have HX2 := Lib.hid hx2'
    obtain ⟨z2, _⟩ := (Ext.refl w2).box (hx2'.heap H3.out)
    obtain ⟨y2, _⟩ := (Ext.refl w2).box (hx2'.heap H4.out)
    have l2 := heap_lt (hx2'.heap H4.out)
    clear hx1 hx2 hx1' hx2' hS1 Hs
    go_upto_region 16 with fail
    have hx3 := HX2.out.alloc (.cells #[.slice a len cap] 24)
    have st0 := HS0.out _ w2.heap.size hx3 HX2.out.size (heap_alloc_new w2 _)
    have hpb := HX2.out.size
    generalize w2.alloc (.cells #[.slice a len cap] 24) = W3 at *
    generalize w2.heap.size = pb at *
    have St0 := Lib.hid st0
    have Hx3 := Lib.hid hx3
    have Hpb := Lib.hid hpb
    clear st0 hx3 hpb z2 y2 l2 HX2 HS0 Hwo Hcl hrem
    have hn10 := Hn10.out
    go_loopw [14, 91] (fun F I wr => ∃ (j : Nat) (M : List Half) (ca : Option Addr) (cn cc : Nat), j ≤ n ∧ I = .int .i64 j ∧ F = .bool false ∧ Ext W wr ∧ NSt w pb p len M ca cn cc wr) (fun _ I _ => n - (intOf I).toNat)
    case atStart => exact ⟨0, l, a, len, cap, by omega, rfl, rfl, Hx3.out, St0.out⟩
    case round =>
      obtain ⟨j, M, ca, cn, cc, hj, rfl, rfl, hx5, st⟩ := hrel
      have St := Lib.hid st
      have Hx5 := Lib.hid hx5
      clear st hx5 St0
      by_cases hlt : j < n
      · have hltB : decide ((j : Int) < (n : Int)) = true := by simp; omega
        have hltN : decide (j < n) = true := decide_eq_true hlt
        obtain ⟨tb, tof, s, rfl, hsj, htb, c0, c1, c2, c3, c4, c5, c6, c7, c8, c9⟩ := (Hls.out.ext Hx5.out).get j hlt
        have hms := List.mem_of_getElem? hsj
        obtain ⟨M', d, hM', hcase⟩ : ∃ M' d, seeOf M s = (M', d) ∧ (d = 9 ∨ d = 0 ∧ AreaOk M' ∧ In M' p ∧ M.length ≤ M'.length) := by
          rcases Hsee.out M s St.out.area St.out.lies hms with ⟨h1, h2, h3⟩ | h
          · exact ⟨_, _, h1, .inr ⟨rfl, h2, h3, by simp⟩⟩
          · exact ⟨_, _, h, .inl rfl⟩
        obtain ⟨K, hK⟩ : ∃ K, M'.length = K := ⟨_, rfl⟩
        have hkk := Hkd.out s hms
        have hse := fun V (hV : Ext wr V) => seeEither_any (n := cn) hM' hK ca cc V (St.out.hal.ext hV) St.out.cap.1 St.out.cap.2 hkk.1 hkk.2
        have hML := St.out.hal.1
        have HC := Lib.hid (And.intro hcase (And.intro hK hML))
        unfold EitherPost Sight.val at hse
        obtain ⟨k1, x1, y1, fx1, fy1, tx1, ty1, nl1, nh1, far1⟩ := s
        simp only at hse c0 c1 c2 c3 c4 c5 c6 c7 c8 c9
        have Hse := Lib.hid hse
        clear hse
        clear hsj hms hM' hcase hK hkk hML
        go_upto_region 18 with fail
        have hx6 := (Ext.refl wr).alloc (.cells #[.int .u8 k1, .int .i64 x1, .int .i64 y1, .int .i64 fx1, .int .i64 fy1, .int .i64 tx1, .int .i64 ty1, .int .i64 nl1, .int .i64 nh1, .int .i64 far1] 30)
        have hb6 := heap_alloc_new wr (.cells #[.int .u8 k1, .int .i64 x1, .int .i64 y1, .int .i64 fx1, .int .i64 fy1, .int .i64 tx1, .int .i64 ty1, .int .i64 nl1, .int .i64 nh1, .int .i64 far1] 30)
        generalize wr.alloc (.cells #[.int .u8 k1, .int .i64 x1, .int .i64 y1, .int .i64 fx1, .int .i64 fy1, .int .i64 tx1, .int .i64 ty1, .int .i64 nl1, .int .i64 nh1, .int .i64 far1] 30) = W6 at *
        generalize wr.heap.size = i16 at *
        obtain ⟨z6, _⟩ := (Ext.refl W6).box (hx6.heap St.out.box)
        obtain ⟨y6, _⟩ := (Ext.refl W6).box hb6
        have Hx6 := Lib.hid hx6
        clear hx6
        clear hb6 c0 c1 c2 c3 c4 c5 c6 c7 c8 c9 htb
        go_upto_region 19 with (go_at_call 16; refine (Hse.out _ Hx6.out).mono ?_; rintro e w7 ⟨b7, c7, rfl, s7, t7, hx7, hH7, hf7⟩)
        have hx8 := (Hx6.out.trans hx7).alloc (.cells #[.slice b7 K c7] 24)
        have hb8 := heap_alloc_new w7 (.cells #[.slice b7 K c7] 24)
        have hH8 := hH7.ext ((Ext.refl w7).alloc (.cells #[.slice b7 K c7] 24))
        have hf8 := hf7.mono Hx6.out.size
        generalize w7.alloc (.cells #[.slice b7 K c7] 24) = W8 at *
        generalize w7.heap.size = i17 at *
        obtain ⟨z8, _⟩ := (Ext.refl W8).box hb8
        have st8 := St.out.ext' hx8
        obtain ⟨y8, y8'⟩ := (Ext.refl W8).box st8.box
        have l8 := heap_lt st8.box
        have hpbl := heap_lt St.out.box
        rcases HC.out with ⟨rfl | ⟨rfl, hA, hin, hlen⟩, hK, hML⟩
        · have Hxx := Lib.hid st8.ext
          clear HC hK hML st8 hH8 hf8 hb8 hx8 hx7 hH7 hf7 s7 t7 z6 y6 hpbl
          go_wp2_with fail
          exact HRet.out _ _ rfl rfl (Hxx.out)
        · have st9 := st8.put hA hin (by have := St.out.len; omega) ⟨s7, t7⟩ hH8 (fun X hX => by have := hf8 X hX; omega)
          have hx9 := (Hx5.out.trans hx8).setCell (p := ⟨pb, 0, none⟩) Hpb.out (.slice b7 K c7)
          have St9 := Lib.hid st9
          have Hx9 := Lib.hid hx9
          clear HC hK hML st8 st9 hx9 hH8 hf8 hb8 hx8 hx7 hH7 hf7 s7 t7 z6 y6 hA hin hlen hpbl
          go_wp2_with fail
          go_roundw
          case rel => exact ⟨j + 1, M', b7, K, c7, by omega, by go_num, rfl, Hx9.out, St9.out⟩
          case measure => simp [intOf]; omega
      · have hltB : decide ((j : Int) < (n : Int)) = false := by simp; omega
        have hltN : decide (j < n) = false := decide_eq_false hlt
        have hle : decide ((len : Int) ≤ (cn : Int)) = true := by have := St.out.len; simp; omega
        have hleN : decide (len ≤ cn) = true := decide_eq_true St.out.len
        obtain ⟨z5, _⟩ := (Ext.refl wr).box St.out.box
        obtain ⟨y5, _⟩ := (Ext.refl wr).box (Hx5.out.heap H3.out)
        have Hxx := Lib.hid St.out.ext
        clear hlt
        go_wp2_with fail
        exact HRet.out _ _ rfl rfl (Hxx.out)
end Go.Proofs.Ytacdndehlkaaeaa

/- The law GuideClash: looks that contradict each other. -/
namespace Go.Proofs.Ytacdndehlkaaeaa
open Go.RowKit
set_option linter.unusedVariables false
set_option linter.unusedSimpArgs false
def intsOf (L : List Nat) : List Int := L.map fun i : Nat => (i : Int)
theorem named_take {l : List Half} {S : List Sight} {j q : Nat} (h : (keptOf l S)[j]? = some q) : ∃ s, S[q]? = some s ∧ q < S.length ∧ (namedOf l S).take (j + 1) = (namedOf l S).take j ++ [s] := by
  have hm := kept_lt (List.mem_of_getElem? h)
  refine ⟨S[q]'hm.1, List.getElem?_eq_getElem hm.1, hm.1, ?_⟩
  rw [List.take_add_one]
  congr 1
  unfold namedOf
  rw [List.getElem?_map, h]
  simp [List.getD, List.getElem?_eq_getElem hm.1]
theorem kept_asc2 {l : List Half} {S : List Sight} {j q r : Nat} (h : (keptOf l S)[j + 1]? = some q) (h' : (keptOf l S)[j]? = some r) : r < q := by
  obtain ⟨h1, e1⟩ := List.getElem?_eq_some_iff.1 h
  obtain ⟨h2, e2⟩ := List.getElem?_eq_some_iff.1 h'
  have := List.pairwise_iff_getElem.1 (kept_asc l S) j (j + 1) h2 h1 (by omega)
  rw [e1, e2] at this
  exact this
theorem SightsAt.take {w : World} {a : Option Addr} {n k : Nat} {l : List Sight} (h : SightsAt w a n l) (hk : k ≤ n) : SightsAt w a k (l.take k) := by
  refine ⟨by rw [List.length_take, h.1]; omega, fun h0 => ?_⟩
  obtain ⟨b, off, e, hc⟩ := h.2 (by omega)
  refine ⟨b, off, e, fun i hi => ?_⟩
  have := hc i (by omega)
  have e2 : (l.take k).getD i zl = l.getD i zl := by simp [List.getD, hi]
  show Cells w b (off + i * 10) ((l.take k).getD i zl).cells
  rw [e2]
  exact this
theorem SightsAt.drop {w : World} {b o : Nat} {n k : Nat} {l : List Sight} (h : SightsAt w (some ⟨b, o, none⟩) n l) (hk : k ≤ n) : SightsAt w (some ⟨b, o + k * 10, none⟩) (n - k) (l.drop k) := by
  refine ⟨by rw [List.length_drop, h.1], fun h0 => ?_⟩
  obtain ⟨b', off, e, hc⟩ := h.2 (by omega)
  cases e
  refine ⟨b, o + k * 10, rfl, fun i hi => ?_⟩
  have := hc (k + i) (by omega)
  have e2 : (l.drop k).getD i zl = l.getD (k + i) zl := by simp [List.getD]
  show Cells w b (o + k * 10 + i * 10) ((l.drop k).getD i zl).cells
  rw [e2, Nat.add_assoc, ← Nat.add_mul]
  exact this
theorem sights_none {w : World} {a : Option Addr} : SightsAt w a 0 [] := ⟨rfl, fun h => absurd h (by omega)⟩
set_option maxRecDepth 100000 in
set_option maxHeartbeats 8000000 in
theorem clashNamed {w W : World} {l : List Half} {ls : List Sight} {a la ia : Option Addr} {len cap n lc ic m p3 p4 : Nat} {wh : Int} {fc : Value} (hA : AreaOk l) (hn : n ≤ 10) (ho : ∀ s ∈ ls, sightOk s = true) (ht : Tight l (namedOf l ls)) (hml : (keptOf l ls).length = m) (wh0 : 0 ≤ wh) (wh1 : wh ≤ 255)
    (h3 : W.heap[p3]? = some (.cells #[.slice a len cap] 24 (0, 0))) (h4 : W.heap[p4]? = some (.cells #[.slice la n lc] 31 (0, 0))) (hl : HalvesAt W a len l) (hc : len ≤ cap) (hm : cap ≤ maxLen) (hls : SightsAt W la n ls) (hI : IntsAt .i64 W ia m (intsOf (keptOf l ls))) (hx : Ext w W)
    {u0 u1 u5 u6 u11 u12 u13 u14 u15 u16 u17 u18 u19 u20 u21 u22 u23 u24 u25 u26 u27 u28 u29 u30 u31 u32 u33 u34 u35 u36 u37 u38 u39 u40 u41 u42 u43 u44 u45 u46 u47 u48 u49 u50 u51 u52 u53 u54 u55 u56 u57 u58 u59 u60 u61 u62 u63 u64 u65 u66 u67 u68 u69 u70 u71 u72 u73 u74 u75 u76 u77 u78 u79 u80 u81 u82 u83 u84 u85 u86 u87 u88 u89 u90 u91 u92 u93 u94 u95 u96 u97 u98 u99 u100 u101 u102 u103 u104 u105 u106 u107 u108 u109 u110 u111 u112 u113 u114 u115 u116 u117 u118 u119 u120 u121 u122 u123 u124 u125 u126 u127 u128 u129 u130 u131 u132 u133 u134 u135 u136 u137 u138 u139 u140 u141 u142 u143 u144 u145 u146 u147 u148 u149 u150 u151 u152 u153 u154 u155 u156 u157 u158 u159 u160 u161 u162 u163 u164 u165 u166 u167 u168 u169 u170 u171 u172 u173 u174 u175 u176 u177 u178 u179 u180 u181 u182 u183 u184 u185 u186 u187 u188 u189 u190 u191 u192 u193 u194 u195 u196 u197 u198 u199 u200 u201 u202 u203 u204 u205 u206 u207 u208 u209 u210 u211 u212 u213 u214 u215 u216 u217 u218 : Value} :
    (restFrom Try.f10 26).wp Try.prog (bodyPost Try.prog Try.f10 fun e w' => e = .returned (.bool true) ∧ Ext w w')
      ⟨#[u0, u1, .int .u8 wh, .pointer (some ⟨p3, 0, none⟩), .pointer (some ⟨p4, 0, none⟩), u5, u6, .bool true, .slice ia m ic, .int .i64 0, fc, u11, u12, u13, u14, u15, u16, u17, u18, u19, u20, u21, u22, u23, u24, u25, u26, u27, u28, u29, u30, u31, u32, u33, u34, u35, u36, u37, u38, u39, u40, u41, u42, u43, u44, u45, u46, u47, u48, u49, u50, u51, u52, u53, u54, u55, u56, u57, u58, u59, u60, u61, u62, u63, u64, u65, u66, u67, u68, u69, u70, u71, u72, u73, u74, u75, u76, u77, u78, u79, u80, u81, u82, u83, u84, u85, u86, u87, u88, u89, u90, u91, u92, u93, u94, u95, u96, u97, u98, u99, u100, u101, u102, u103, u104, u105, u106, u107, u108, u109, u110, u111, u112, u113, u114, u115, u116, u117, u118, u119, u120, u121, u122, u123, u124, u125, u126, u127, u128, u129, u130, u131, u132, u133, u134, u135, u136, u137, u138, u139, u140, u141, u142, u143, u144, u145, u146, u147, u148, u149, u150, u151, u152, u153, u154, u155, u156, u157, u158, u159, u160, u161, u162, u163, u164, u165, u166, u167, u168, u169, u170, u171, u172, u173, u174, u175, u176, u177, u178, u179, u180, u181, u182, u183, u184, u185, u186, u187, u188, u189, u190, u191, u192, u193, u194, u195, u196, u197, u198, u199, u200, u201, u202, u203, u204, u205, u206, u207, u208, u209, u210, u211, u212, u213, u214, u215, u216, u217, u218], []⟩ W := by
  have hln := hls.1
  have hmn : m ≤ n := by
    rw [← hml, ← hln]
    have := List.length_filter_le (fun i => !outTo l ls ls.length i) (List.range ls.length)
    rw [List.length_range] at this
    exact this
  have hNl : (namedOf l ls).length = m := by rw [← hml]; simp [namedOf]
  have hNo : ∀ s ∈ namedOf l ls, sightOk s = true := fun s hs => ho s (named_mem hs)
  obtain ⟨r, hr, hrl⟩ := tight_clash hA ht (by omega) hNo
  rw [hNl] at hrl
  have hcl := fun b d V (hV : Ext W V) hS => clashK_any (n := len) hr hNo a cap b m d V (hl.ext hV) hc hm hS
  rw [hrl] at hcl
  have hlost : m = 0 → boundsOf l = (zs, zs, 43) := fun h0 => by
    have hnil : namedOf l ls = [] := List.length_eq_zero_iff.1 (by omega)
    rcases bounds_step hA with ⟨_, _, _, _, p, hp⟩ | ⟨h, _⟩
    · exact absurd (show Fit l (namedOf l ls) p from ⟨hp, by rw [hnil]; simp⟩) (ht.no p)
    · exact h
  have hone := fun k (hk : k < m) => fit_clash hA (ht.one k (by omega)) (by rw [List.length_append, List.length_take, List.length_drop]; omega) (fun s hs => hNo s (wo_mem hs))
  have hcl1 := fun k (hk : k < m) b t d V (hV : Ext W V) hS => clashK_any (n := len) (hone k hk) (fun s hs => hNo s (wo_mem hs)) a cap b t d V (hl.ext hV) hc hm hS
  have hbd := fun h V (hV : Ext W V) => boundsK_any (n := len) (hlost h) a cap V (hl.ext hV) hc hm
  have hget : ∀ j, j < m → ∃ q, (keptOf l ls)[j]? = some q := fun j hj => ⟨_, List.getElem?_eq_getElem (by omega)⟩
  have hnt := fun j q h => @named_take l ls j q h
  have hka := fun j q r h h' => @kept_asc2 l ls j q r h h'
  have hnt0 : (namedOf l ls).take 0 = [] := List.take_zero
  have hntm : (namedOf l ls).take m = namedOf l ls := List.take_of_length_le (by omega)
  generalize namedOf l ls = N at *
  generalize keptOf l ls = L at *
  have Hcl := Lib.hid hcl
  have Hcl1 := Lib.hid hcl1
  have Hbd := Lib.hid hbd
  have Hget := Lib.hid hget
  have Hnt := Lib.hid hnt
  have Hka := Lib.hid hka
  have Hls := Lib.hid hls
  have HI := Lib.hid hI
  have HNl := Lib.hid hNl
  have Hnm := Lib.hid hntm
  have Hn0 := Lib.hid hnt0
  have Hwh := Lib.hid (And.intro wh0 wh1)
  have Hln := Lib.hid hln
  have HNo := Lib.hid hNo
  have Hx := Lib.hid hx
  have H3 := Lib.hid h3
  have H4 := Lib.hid h4
  clear hx h3 h4
  clear hcl hcl1 hbd hget hnt hka hls hI hNl hntm hNo hln hlost hone hr hrl ht ho hA hl hc hm hml hnt0 wh0 wh1
  conv => arg 2; whnf
  go_upto_region 28 with fail
  go_loopw [19, 131] (fun v i wr => ∃ j : Nat, j ≤ m ∧ i = .int .i64 j ∧ Ext W wr ∧ Owns wr W.heap.size 30 10 v (sightRows (N.take j))) (fun _ i _ => m - (intOf i).toNat)
  case atStart => exact ⟨0, by omega, rfl, Ext.refl _, by rw [Hn0.out]; exact Owns.nil _ _ _ _⟩
  case round =>
    obtain ⟨j, hj, rfl, hx, ho⟩ := hrel
    by_cases hlt : j < m
    · have hltB : decide ((j : Int) < (m : Int)) = true := by simp; omega
      have hltN : decide (j < m) = true := decide_eq_true hlt
      obtain ⟨q, hq⟩ := Hget.out j hlt
      obtain ⟨ib, iof, qi, rfl, hqi, hib, i0⟩ := (HI.out.ext hx).get j hlt
      have hqq : qi = (q : Int) := by
        unfold intsOf at hqi
        rw [List.getElem?_map, hq] at hqi
        simpa using hqi.symm
      subst hqq
      obtain ⟨s, hs, hqn, htk⟩ := Hnt.out j q hq
      rw [Hln.out] at hqn
      obtain ⟨tb, tof, s', rfl, hsq, htb, c0, c1, c2, c3, c4, c5, c6, c7, c8, c9⟩ := (Hls.out.ext hx).get q hqn
      rw [hs] at hsq
      cases hsq
      have hprev : ∀ r, j = r + 1 → ∃ z : Nat, wr.cell? ⟨ib, iof + r, none⟩ = some (.int .i64 (z : Int)) ∧ z < q := fun r hr => by
        obtain ⟨z, hz⟩ := Hget.out r (by omega)
        obtain ⟨ib', iof', qi', e1, hqi', _, i1⟩ := (HI.out.ext hx).get r (by omega)
        cases e1
        have hqq' : qi' = (z : Int) := by
          unfold intsOf at hqi'
          rw [List.getElem?_map, hz] at hqi'
          simpa using hqi'.symm
        subst hqq'
        exact ⟨z, i1, Hka.out r q z (by rw [← hr]; exact hq) hz⟩
      have hap : sightRows (N.take (j + 1)) = sightRows (N.take j) ++ sightRows [s] := by rw [htk]; simp [sightRows]
      have hlen : (N.take j).length ≤ j := by simp; omega
      obtain ⟨sa, sc, hv, _⟩ := sights_of_owns ho
      subst hv
      have q0 : decide ((q : Int) < 0) = false := decide_eq_false (by omega)
      have q1 : decide ((n : Int) ≤ (q : Int)) = false := decide_eq_false (by omega)
      have q2 : decide (n ≤ q) = false := decide_eq_false (by omega)
      obtain ⟨z4, _⟩ := hx.box H4.out
      generalize hT : N.take j = T at *
      have hgo : True := trivial
      obtain ⟨k1, x1, y1, fx1, fy1, tx1, ty1, nl1, nh1, far1⟩ := s
      simp only at c0 c1 c2 c3 c4 c5 c6 c7 c8 c9
      have Hap := Lib.hid hap
      have Hlen := Lib.hid hlen
      have Hprev := Lib.hid hprev
      have Ho := Lib.hid ho
      have Hx1 := Lib.hid hx
      clear hap hlen hprev ho hx htk hs hq hqi hT hgo
      by_cases hj0 : j = 0
      · have t0 : decide ((0 : Int) < (j : Int)) = false := decide_eq_false (by omega)
        have t1 : decide (0 < j) = false := decide_eq_false (by omega)
        clear hj0
        go_wp2_with (at_builtin; refine wpList_app elem31 _ rfl (.tmp 157) (.tmp 162) rfl W.heap.size _ (sightRows T) rfl (Ho.out.alloc _) (some ⟨wr.heap.size, 0, none⟩) 1 1 (sightRows [⟨k1, x1, y1, fx1, fy1, tx1, ty1, nl1, nh1, far1⟩]) rfl rfl (slAt_block (rows := sightRows [⟨k1, x1, y1, fx1, fy1, tx1, ty1, nl1, nh1, far1⟩]) (alloc_at _ _ _ rfl) (fun r hr => (sightRows_row _ r hr).1)) (sightRows_row _) ?_ ?_ ?_)
        · have := Hlen.out
          simp [sightRows]
          omega
        · have := Hx1.out.size
          simp
          omega
        · intro v4 w4 ho4 hg4 _
          rw [← Hap.out] at ho4
          have hx4 := (Hx1.out.alloc (.cells #[.int .u8 k1, .int .i64 x1, .int .i64 y1, .int .i64 fx1, .int .i64 fy1, .int .i64 tx1, .int .i64 ty1, .int .i64 nl1, .int .i64 nh1, .int .i64 far1] 30)).app (Ho.out.alloc _) hg4
          have Ho4 := Lib.hid ho4
          have Hx4 := Lib.hid hx4
          clear hg4 ho4 hx4
          go_wp2_with fail
          go_roundw
          case rel => exact ⟨j + 1, by omega, by go_num, Hx4.out, Ho4.out⟩
          case measure => simp [intOf]; omega
      · obtain ⟨r, hr⟩ : ∃ r, j = r + 1 := ⟨j - 1, by omega⟩
        obtain ⟨z, hz, hzq⟩ := Hprev.out r hr
        have hjr : (j : Int) - 1 = (r : Int) := by omega
        have hrm : r < m := by omega
        have t0 : decide ((0 : Int) < (j : Int)) = true := decide_eq_true (by omega)
        have t1 : decide (0 < j) = true := decide_eq_true (by omega)
        have t2 : decide ((q : Int) ≤ (z : Int)) = false := decide_eq_false (by omega)
        have t3 : decide (q ≤ z) = false := decide_eq_false (by omega)
        clear hj0 hr
        go_wp2_with (at_builtin; refine wpList_app elem31 _ rfl (.tmp 157) (.tmp 162) rfl W.heap.size _ (sightRows T) rfl (Ho.out.alloc _) (some ⟨wr.heap.size, 0, none⟩) 1 1 (sightRows [⟨k1, x1, y1, fx1, fy1, tx1, ty1, nl1, nh1, far1⟩]) rfl rfl (slAt_block (rows := sightRows [⟨k1, x1, y1, fx1, fy1, tx1, ty1, nl1, nh1, far1⟩]) (alloc_at _ _ _ rfl) (fun r hr => (sightRows_row _ r hr).1)) (sightRows_row _) ?_ ?_ ?_)
        · have := Hlen.out
          simp [sightRows]
          omega
        · have := Hx1.out.size
          simp
          omega
        · intro v4 w4 ho4 hg4 _
          rw [← Hap.out] at ho4
          have hx4 := (Hx1.out.alloc (.cells #[.int .u8 k1, .int .i64 x1, .int .i64 y1, .int .i64 fx1, .int .i64 fy1, .int .i64 tx1, .int .i64 ty1, .int .i64 nl1, .int .i64 nh1, .int .i64 far1] 30)).app (Ho.out.alloc _) hg4
          have Ho4 := Lib.hid ho4
          have Hx4 := Lib.hid hx4
          clear hg4 ho4 hx4
          go_wp2_with fail
          go_roundw
          case rel => exact ⟨j + 1, by omega, by go_num, Hx4.out, Ho4.out⟩
          case measure => simp [intOf]; omega
    · have hltB : decide ((j : Int) < (m : Int)) = false := by simp; omega
      have hltN : decide (j < m) = false := decide_eq_false hlt
      obtain rfl : m = j := by omega
      rw [Hnm.out] at ho
      obtain ⟨sa, sc, hv, _, sc1, sc2, hS⟩ := sights_of_owns ho
      rw [HNl.out] at hv hS sc1
      subst hv
      obtain ⟨z3, _⟩ := hx.box H3.out
      have HS := Lib.hid hS
      have Hx1 := Lib.hid hx
      have Hsc := Lib.hid (And.intro sc1 sc2)
      clear ho hx hS hlt sc1 sc2
      go_upto_region 37 with (go_at_call 18; refine (Hcl.out _ _ _ Hx1.out HS.out).mono ?_; rintro e w2 ⟨b2, c2, rfl, hx2, _⟩)
      have hx3 := Hx1.out.trans hx2
      obtain ⟨z5, _⟩ := (Ext.refl w2).box (hx3.heap H3.out)
      have HS3 := Lib.hid (HS.out.ext hx2)
      have Hx3 := Lib.hid hx3
      clear hx2 hx3 z3 HS
      by_cases hm0 : m = 0
      · have hB : ((m : Int) == 0) = true := by simp; omega
        have hB2 : (m == 0) = true := by simp; omega
        have hbd := Hbd.out hm0
        unfold zs at hbd
        have Hbd2 := Lib.hid hbd
        clear hbd hm0
        go_wp2_with (go_at_call 24; refine (Hbd2.out _ Hx3.out).mono ?_; rintro e w3 ⟨rfl, hx4⟩)
        go_ret
        exact ⟨rfl, Hx.out.trans (Hx3.out.trans ((hx4.alloc _).alloc _))⟩
      · have hB : ((m : Int) == 0) = false := by simp; omega
        have hB2 : (m == 0) = false := by simp; omega
        have hne' : ¬(m : Int) = 0 := by omega
        obtain ⟨whn, hwn⟩ : ∃ q : Nat, wh = (q : Int) := ⟨wh.toNat, by have := Hwh.out; omega⟩
        subst hwn
        obtain ⟨k, hk⟩ : ∃ k, whn % m = k := ⟨_, rfl⟩
        have hkm : k < m := by rw [← hk]; exact Nat.mod_lt _ (by omega)
        have hrem : (whn : Int).tmod (m : Int) = (k : Int) := by rw [Int.tmod_eq_emod_of_nonneg (by omega)]; omega
        have Hone := Lib.hid (Hcl1.out k hkm)
        have hwh := Hwh.out
        have hmx : m ≤ 10 := by omega
        clear hm0 hk
        go_upto_region 41 with fail
        clear hrem hne' hB hB2 hwh z5
        obtain ⟨hsc1, hsc2⟩ := Hsc.out
        obtain ⟨sb, so, _, hsa, _, hsb, _⟩ := HS3.out.get 0 (by omega)
        subst hsa
        refine wp_region_tree (.take [0, 2, 3, 4, 6, 7, 8, 9] (.one 1 (.one 5 (.one 10 (.one 11 (.take [12, 13, 14] (.one 15 (.one 16 .done)))))))) (Ext w2) _ (by kernel_rfl) (by kernel_rfl) rfl ((Ext.refl _).drew) ?_
        intro ι _ f hf hs
        have f0 := fun q => ((hf q).box (Hx3.out.heap H3.out)).1
        have Hs := Lib.hid hs
        clear hf hs
        simp only [treeOf, oneOp, twoOp, opsOf, consOp, List.getElem?_toArray, List.getElem?_cons_succ, List.getElem?_cons_zero]
        refine wpOT_take ?_
        repeat (go_big_quiet_step (fail))
        generalize hxa : (if sc = k + 1 then some { block := sb, off := so } else some { block := sb, off := so + (k + 1) * 10 } : Option Addr) = xa
        have hS1 := HS3.out.take (k := k) (by omega)
        have hS2 : SightsAt w2 xa (m - (k + 1)) (N.drop (k + 1)) := by
          rw [← hxa]
          split
          · rename_i hsk
            have h0 : m - (k + 1) = 0 := by omega
            have h1 : N.drop (k + 1) = [] := List.drop_of_length_le (by rw [HNl.out]; omega)
            rw [h0, h1]
            exact sights_none
          · exact HS3.out.drop (by omega)
        have hlt1 : (N.take k).length = k := hS1.1
        have hlt2 : (N.drop (k + 1)).length = m - (k + 1) := hS2.1
        have hone := Hone.out
        generalize N.take k = T1 at *
        generalize N.drop (k + 1) = T2 at *
        have HS1 := Lib.hid hS1
        have HS2 := Lib.hid hS2
        have Hone2 := Lib.hid hone
        have HT1 := Lib.hid (show (sightRows T1).length = k by simp [sightRows, hlt1])
        have HT2 := Lib.hid (show (sightRows T2).length = m - (k + 1) by simp [sightRows, hlt2])
        have HT := Lib.hid (show (T1 ++ T2).length = m - 1 by rw [List.length_append, hlt1, hlt2]; omega)
        generalize m - (k + 1) = m2 at *
        generalize sc - (k + 1) = sc2 at *
        refine wpQuiet_nil ?_
        clear f0 hxa hS1 hS2 hone hlt1 hlt2 Hone
        refine wpOT_one ?_
        go_wp2_with fail
        refine ⟨Hs.out _ (((Ext.refl w2).alloc _).drew), ?_⟩
        have hx5 := ((Ext.refl w2).alloc (.cells #[] 30)).drew
        have hb5 : (w2.alloc (.cells #[] 30)).drew.heap[w2.heap.size]? = some (.cells #[] 30 (0, 0)) := heap_alloc_new w2 (.cells #[] 30)
        generalize (w2.alloc (.cells #[] 30)).drew = W5 at *
        have hsz5 := heap_lt hb5
        have hap : sightRows T1 ++ sightRows T2 = sightRows (T1 ++ T2) := by simp [sightRows]
        have Hap := Lib.hid hap
        have Hx5 := Lib.hid hx5
        have Hb5 := Lib.hid hb5
        have Hsz5 := Lib.hid hsz5
        clear hx5 hb5 hsz5
        clear hap
        refine wpOT_one ?_
        go_wp2_with (at_builtin; refine wpList_app elem31 _ rfl (.tmp 201) (.tmp 204) rfl w2.heap.size _ (sightRows []) rfl (Owns.empty' (cap := 0) Hb5.out (Nat.le_refl _) rfl (by decide)) (some ⟨sb, so, none⟩) k sc (sightRows T1) rfl HT1.out (HS1.out.ext Hx5.out).src (sightRows_row _) ?_ ?_ ?_)
        · show 0 + k ≤ 1000000000
          omega
        · exact Nat.le_of_lt Hsz5.out
        · intro v6 W6 ho6 hg6 _
          rw [show sightRows [] ++ sightRows T1 = sightRows T1 from rfl] at ho6
          have hx6 : Ext w2 W6 := Hx5.out.app (Owns.empty' (sz := 10) (cap := 0) Hb5.out (Nat.le_refl _) rfl (by decide)) hg6
          obtain ⟨va6, vc6, hv6, _⟩ := ho6.slAt
          rw [HT1.out] at hv6
          subst hv6
          refine ⟨rfl, Hs.out _ hx6, ?_⟩
          have Ho6 := Lib.hid ho6
          have Hx6 := Lib.hid hx6
          clear ho6 hx6
          clear hg6
          refine wpOT_one ?_
          go_wp2_with (at_builtin; refine wpList_app elem31 _ rfl (.tmp 205) (.tmp 209) rfl w2.heap.size _ (sightRows T1) rfl Ho6.out xa m2 sc2 (sightRows T2) rfl HT2.out (HS2.out.ext Hx6.out).src (sightRows_row _) ?_ ?_ ?_)
          · rw [HT1.out]
            have := HT2.out
            have := HT.out
            rw [List.length_append] at this
            simp [sightRows] at *
            omega
          · exact Hx6.out.size
          · intro v7 W7 ho7 hg7 _
            rw [Hap.out] at ho7
            have hx7 := Hx6.out.app Ho6.out hg7
            obtain ⟨va7, vc7, hv7, _, _, _, hS7⟩ := sights_of_owns ho7
            rw [HT.out] at hv7 hS7
            subst hv7
            refine ⟨rfl, Hs.out _ hx7, ?_⟩
            have Hx7 := Lib.hid hx7
            have HS7 := Lib.hid hS7
            clear hg7 ho7 hx7 hS7
            refine wpOT_one ?_
            go_wp2_with (go_at_call 18; refine (Hone2.out _ _ _ _ (Hx3.out.trans Hx7.out) HS7.out).mono ?_; rintro e w8 ⟨b8, c8, rfl, hx8, _⟩)
            have hx9 := Hx7.out.trans hx8
            refine ⟨Hs.out _ hx9, ?_⟩
            refine wpOT_take ?_
            repeat (go_big_quiet_step (fail))
            refine wpQuiet_nil ?_
            refine wpOT_one ?_
            go_wp2_with fail
            refine ⟨Hs.out _ hx9, ?_⟩
            refine wpOT_one ?_
            go_wp2_with fail
            refine ⟨Hs.out _ hx9, ?_⟩
            refine wpOT_done ?_
            have Hx9 := Lib.hid hx9
            clear hx8 hx9
            go_wp2_with fail
            go_ret
            exact ⟨rfl, Hx.out.trans (Hx3.out.trans Hx9.out)⟩
end Go.Proofs.Ytacdndehlkaaeaa

/- The law GuideClash. -/
namespace Go.Proofs.Ytacdndehlkaaeaa
open Go.RowKit
set_option linter.unusedVariables false
set_option linter.unusedSimpArgs false
set_option maxRecDepth 100000 in
set_option maxHeartbeats 8000000 in
theorem lawClash_any (a : Option Addr) (len cap : Nat) (l : List Half) (la : Option Addr) (n lc : Nat) (ls : List Sight) (wh : Int) (w : World) (hl : HalvesAt w a len l) (hc : len ≤ cap) (hm : cap ≤ maxLen)
    (hls : SightsAt w la n ls) (hlm : n ≤ maxLen) (hkk : ∀ i, i < n → 0 ≤ (ls.getD i zl).kind ∧ (ls.getD i zl).kind ≤ 255) (wh0 : 0 ≤ wh) (wh1 : wh ≤ 255) :
    Calls Try.prog 10 #[.agg #[.slice a len cap], .slice la n lc, .int .u8 wh] w fun e w' => e = .returned (.bool true) ∧ Ext w w' := by
  have hal := alive_any
  have hch := fun W (hW : Ext w W) => rcheckAny_any a len cap l W (hl.ext hW)
  unfold checkOf at hch
  have hcl := fun W (hW : Ext w W) => clash_any a len cap l la n lc ls W (hl.ext hW) hc hm (hls.ext hW) hkk
  unfold ClashPost at hcl
  have hmN := fun Q W ia ic p3 p4 hA hn ho hf h3 h4 (hx : Ext w W) => @clashNone Q w W l ls a la ia len cap n lc ic p3 p4 wh hA hn ho hf wh0 wh1 h3 h4 (hl.ext hx) hc hm (hls.ext hx) hx
  have hmM := fun W ia ic m p3 p4 fc hA hn ho ht hml h3 h4 hI (hx : Ext w W) => @clashNamed w W l ls a la ia len cap n lc ic m p3 p4 wh fc hA hn ho ht hml wh0 wh1 h3 h4 (hl.ext hx) hc hm (hls.ext hx) hI hx
  dsimp only at hmN hmM
  obtain ⟨W0, hW0⟩ : ∃ W0, (w.alloc (.cells #[.slice a len cap] 24)).alloc (.cells #[.slice la n lc] 31) = W0 := ⟨_, rfl⟩
  have hx0 : Ext w W0 := by rw [← hW0]; exact ((Ext.refl w).alloc _).alloc _
  have ha0 : W0.heap[w.heap.size]? = some (.cells #[.slice a len cap] 24 (0, 0)) := by rw [← hW0]; exact ((Ext.refl _).alloc _).heap (heap_alloc_new w _)
  have hb0 : W0.heap[w.heap.size + 1]? = some (.cells #[.slice la n lc] 31 (0, 0)) := by rw [← hW0]; exact alloc_at _ _ _ (by simp)
  have HN := Lib.hid hmN
  have HM := Lib.hid hmM
  have Hln := Lib.hid hls.1
  have Hx0 := Lib.hid hx0
  have Ha0 := Lib.hid ha0
  have Hb0 := Lib.hid hb0
  have Hal := Lib.hid hal
  clear hx0 ha0 hb0 hal
  clear hmN hmM hls hlm hkk
  cases hao : areaOk l with
  | false =>
    rw [hao] at hch
    simp only [Bool.false_eq_true, if_false] at hch
    have Hch := Lib.hid hch
    have Hcl := Lib.hid hcl
    clear hch hcl
    clear hl hao hc hm wh0 wh1
    go_enter Try.func10, Try.ntmps10
    go_wp2_with
      (first
        | (go_at_call 34; refine (Hal.out _).mono ?_; rintro e w1 ⟨rfl, hx1⟩; obtain ⟨z1, _⟩ := (Ext.refl w1).box (hx1.heap Ha0.out); clear hW0)
        | (go_at_call 29; refine (Hch.out _ (Hx0.out.trans hx1)).mono ?_; rintro e w2 ⟨rfl, hx2⟩; have hx12 := hx1.trans hx2; have hxe := hx12; obtain ⟨z2, _⟩ := (Ext.refl w2).box (hx12.heap Ha0.out); obtain ⟨y2, _⟩ := (Ext.refl w2).box (hx12.heap Hb0.out); clear z1)
        | (go_at_call 18; refine (Hcl.out _ (Hx0.out.trans hx12)).mono ?_; rintro e w3 ⟨b3, c3, rfl, _, _, hx3, hI3⟩; have hx13 := hx12.trans hx3; clear hxe; have hxe := hx13; clear z2 y2))
    go_ret
    exact ⟨rfl, Hx0.out.trans hxe⟩
  | true =>
    rw [hao] at hch
    simp only [if_true] at hch
    have hA := areaOk_iff.1 hao
    by_cases hn : 10 < n
    · have hnB : decide ((10 : Int) < (n : Int)) = true := decide_eq_true (by omega)
      have hnN : decide (10 < n) = true := decide_eq_true hn
      have Hch := Lib.hid hch
      have Hcl := Lib.hid hcl
      clear hch hcl
      clear hl hao hA hn hc hm wh0 wh1
      go_enter Try.func10, Try.ntmps10
      go_wp2_with
        (first
          | (go_at_call 34; refine (Hal.out _).mono ?_; rintro e w1 ⟨rfl, hx1⟩; obtain ⟨z1, _⟩ := (Ext.refl w1).box (hx1.heap Ha0.out); clear hW0)
          | (go_at_call 29; refine (Hch.out _ (Hx0.out.trans hx1)).mono ?_; rintro e w2 ⟨rfl, hx2⟩; have hx12 := hx1.trans hx2; have hxe := hx12; obtain ⟨z2, _⟩ := (Ext.refl w2).box (hx12.heap Ha0.out); obtain ⟨y2, _⟩ := (Ext.refl w2).box (hx12.heap Hb0.out); clear z1)
          | (go_at_call 18; refine (Hcl.out _ (Hx0.out.trans hx12)).mono ?_; rintro e w3 ⟨b3, c3, rfl, _, _, hx3, hI3⟩; have hx13 := hx12.trans hx3; clear hxe; have hxe := hx13; clear z2 y2))
      go_ret
      exact ⟨rfl, Hx0.out.trans hxe⟩
    · have hnB : decide ((10 : Int) < (n : Int)) = false := decide_eq_false (by omega)
      have hnN : decide (10 < n) = false := decide_eq_false hn
      have hn10 : n ≤ 10 := by omega
      have his := clash_is (S := ls) hA (by have := Hln.out; omega)
      have HA := Lib.hid hA
      have HN10 := Lib.hid hn10
      cases his with
      | bad h =>
        rw [h] at hcl
        simp only [List.length_nil] at hcl
        have Hch := Lib.hid hch
        have Hcl := Lib.hid hcl
        clear hch hcl
        clear hl hao hA hn hn10 hc hm wh0 wh1 h
        go_enter Try.func10, Try.ntmps10
        go_wp2_with
          (first
            | (go_at_call 34; refine (Hal.out _).mono ?_; rintro e w1 ⟨rfl, hx1⟩; obtain ⟨z1, _⟩ := (Ext.refl w1).box (hx1.heap Ha0.out); clear hW0)
            | (go_at_call 29; refine (Hch.out _ (Hx0.out.trans hx1)).mono ?_; rintro e w2 ⟨rfl, hx2⟩; have hx12 := hx1.trans hx2; have hxe := hx12; obtain ⟨z2, _⟩ := (Ext.refl w2).box (hx12.heap Ha0.out); obtain ⟨y2, _⟩ := (Ext.refl w2).box (hx12.heap Hb0.out); clear z1)
            | (go_at_call 18; refine (Hcl.out _ (Hx0.out.trans hx12)).mono ?_; rintro e w3 ⟨b3, c3, rfl, _, _, hx3, hI3⟩; have hx13 := hx12.trans hx3; clear hxe; have hxe := hx13; clear z2 y2))
        go_ret
        exact ⟨rfl, Hx0.out.trans hxe⟩
      | none h ho hf =>
        rw [h] at hcl
        simp only [List.length_nil] at hcl
        have HF := Lib.hid (And.intro ho hf)
        have Hch := Lib.hid hch
        have Hcl := Lib.hid hcl
        clear hch hcl
        clear hl hao hA hn hn10 hc hm wh0 wh1 h ho hf
        go_enter Try.func10, Try.ntmps10
        go_upto_if 66 with
          (first
            | (go_at_call 34; refine (Hal.out _).mono ?_; rintro e w1 ⟨rfl, hx1⟩; obtain ⟨z1, _⟩ := (Ext.refl w1).box (hx1.heap Ha0.out); clear hW0)
            | (go_at_call 29; refine (Hch.out _ (Hx0.out.trans hx1)).mono ?_; rintro e w2 ⟨rfl, hx2⟩; have hx12 := hx1.trans hx2; have hxe := hx12; obtain ⟨z2, _⟩ := (Ext.refl w2).box (hx12.heap Ha0.out); obtain ⟨y2, _⟩ := (Ext.refl w2).box (hx12.heap Hb0.out); clear z1)
            | (go_at_call 18; refine (Hcl.out _ (Hx0.out.trans hx12)).mono ?_; rintro e w3 ⟨b3, c3, rfl, _, _, hx3, hI3⟩; have hx13 := hx12.trans hx3; clear hxe; have hxe := hx13; clear z2 y2))
        go_step
        refine HN.out _ _ _ _ _ _ HA.out HN10.out HF.out.1 HF.out.2 (hxe.heap Ha0.out) (hxe.heap Hb0.out) (Hx0.out.trans hxe) ?_
        intro a' w' h1 h2 hx
        refine (bodyPost_ret (results_tmp rfl _ _ _) h1 ?_ : bodyPost Try.prog Try.f10 (fun e w' => e = .returned (.bool true) ∧ Ext w w') .ret a' w')
        rw [h2]
        exact ⟨rfl, hx⟩
      | some h ho ht =>
        rw [h] at hcl
        obtain ⟨m, hml⟩ : ∃ m, (keptOf l ls).length = m := ⟨_, rfl⟩
        simp only [List.length_map, hml] at hcl
        have HF := Lib.hid (And.intro ho (And.intro ht hml))
        have Hch := Lib.hid hch
        have Hcl := Lib.hid hcl
        clear hch hcl
        clear hl hao hA hn hn10 hc hm wh0 wh1 h ho ht hml
        go_enter Try.func10, Try.ntmps10
        go_upto_if 66 with
          (first
            | (go_at_call 34; refine (Hal.out _).mono ?_; rintro e w1 ⟨rfl, hx1⟩; obtain ⟨z1, _⟩ := (Ext.refl w1).box (hx1.heap Ha0.out); clear hW0)
            | (go_at_call 29; refine (Hch.out _ (Hx0.out.trans hx1)).mono ?_; rintro e w2 ⟨rfl, hx2⟩; have hx12 := hx1.trans hx2; have hxe := hx12; obtain ⟨z2, _⟩ := (Ext.refl w2).box (hx12.heap Ha0.out); obtain ⟨y2, _⟩ := (Ext.refl w2).box (hx12.heap Hb0.out); clear z1)
            | (go_at_call 18; refine (Hcl.out _ (Hx0.out.trans hx12)).mono ?_; rintro e w3 ⟨b3, c3, rfl, _, _, hx3, hI3⟩; have hx13 := hx12.trans hx3; clear hxe; have hxe := hx13; clear z2 y2))
        go_step
        go_step
        go_step
        go_step
        exact HM.out _ _ _ _ _ _ _ HA.out HN10.out HF.out.1 HF.out.2.1 HF.out.2.2 (hxe.heap Ha0.out) (hxe.heap Hb0.out) hI3 (Hx0.out.trans hxe)
end Go.Proofs.Ytacdndehlkaaeaa

/- It is proved that GuideClash returns true whatever the input, and that the input reads as it did. No conditions. -/
namespace Go.Proofs.Ytacdndehlkaaeaa.guideClashDone
open Go.ChangeShapes Go.WideShapes Go.ChangeAt Go.RowKit
open Go.ChangeMaps (open_string shut_string)
set_option linter.unusedVariables false

theorem own : ownKnob Try.prog.godebug = none := by kernel_rfl
theorem laidOut : laidOutB Try.prog = true := by kernel_rfl

set_option maxRecDepth 100000 in
theorem lifted (os : Os) (started : os.Started) (H : Type) (enc : TypeId × Value → H) :
    ReturnsInHanded {} Try.checked os 10 .any (Rows.guideClashSpec.pre6 enc Try.prog Try.f10 Rows.guideClashRow.domain false) (Rows.guideClashSpec.post enc Try.prog Try.f10 false true false false) := by
  refine returnsInHanded_of_change (C := Try.checked) own started (by kernel_rfl) Try.func10
    (ChangeSpec.witness6 (enc := enc) (C := Try.checked) false ⟨#[], #[.agg #[.slice none 0 0], .slice none 0 0, .int .u8 0], []⟩ 8 (by kernel_rfl) (by kernel_rfl) (by kernel_rfl) (by kernel_rfl)) ?_
  intro W base args ds gs before hval0 hW hcnd _
  have hval : ∀ (j : Nat) t v, Try.f10.params[j]? = some t → args[j]? = some v → Value.okWide Try.prog W .any base t v := hval0
  have hW' := hW
  obtain ⟨p, q, hA0, hV, rfl, hfz, hnd⟩ := hW
  have hA : DataW.TrodAll enc Try.prog W 0 (fun _ => true) true Try.f10.params.toList args.toList ds p := hA0
  rw [Try.params10] at hA hval
  obtain ⟨v0, vs0, d0, ds0, p0, q0, hargs, rfl, rfl, h0, r0⟩ := trodAll_cons hA
  obtain ⟨v1, vs1, d1, ds1, p1, q1, rfl, rfl, rfl, h1, r1⟩ := trodAll_cons r0
  obtain ⟨v2, vs2, d2, ds2, p2, q2, rfl, rfl, rfl, h2, r2⟩ := trodAll_cons r1
  obtain ⟨rfl, rfl, rfl⟩ := trodAll_nil r2
  obtain rfl : args = #[v0, v1, v2] := by cases args; simp_all
  obtain ⟨rfl, rfl⟩ := trodVars_none hV
  obtain ⟨cs0, rfl, hz0⟩ := okWide_struct Try.underlying24 (hval 0 24 v0 rfl rfl)
  have k0 := h0
  have lt0 : ∀ x ∈ p0, x.block < W.heap.size := by obtain ⟨m, hm⟩ := k0; exact DataW.trod_lt m _ _ _ hm
  obtain ⟨a0, len0, cap0, l0, rfl, lc0, cm0, w0⟩ : ∃ a n c l, cs0 = #[.slice a n c] ∧ n ≤ c ∧ c ≤ maxLen ∧ HalvesAt W a n l := by
    obtain ⟨fuel, hf⟩ := h0
    exact take_area (hz0.trans (by kernel_rfl)) hf
  obtain ⟨a1, len1, cap1, rfl⟩ := okWide_slice Try.underlying31 (hval 1 31 v1 rfl rfl)
  have k1 := h1
  have lt1 : ∀ x ∈ p1, x.block < W.heap.size := by obtain ⟨m, hm⟩ := k1; exact DataW.trod_lt m _ _ _ hm
  obtain ⟨lc1, cm1, l1, w1⟩ : len1 ≤ cap1 ∧ cap1 ≤ maxLen ∧ ∃ l, SightsAt W a1 len1 l ∧ ∀ i, i < len1 → 0 ≤ (l.getD i zl).kind ∧ (l.getD i zl).kind ≤ 255 := by
    obtain ⟨fuel, hf⟩ := h1
    exact take_sights hf
  obtain ⟨a2, rfl, rfl, rfl, w2⟩ := open_int Try.underlying5 (hval 2 5 v2 rfl rfl) h2
  clear hA0 hval0
  refine (lawClash_any a0 len0 cap0 l0 a1 len1 cap1 l1 a2 W w0 lc0 cm0 w1.1 (Nat.le_trans lc1 cm1) w1.2 (wf_u8 w2).1 (wf_u8 w2).2).mono fun e W' ⟨he, bel⟩ => ?_
  subst he
  exact ⟨_, rfl, _, _, _, [], _, [], hW', trodAll_mk1 (shut_bool Try.underlying4 _), (trodAll_cons_mk (Below.trod laidOut (by kernel_rfl) (of_decide_eq_true (by kernel_rfl)) k0 bel lt0) (trodAll_cons_mk (Below.trod laidOut (by kernel_rfl) (of_decide_eq_true (by kernel_rfl)) k1 bel lt1) (trodAll_cons_mk (shut_int Try.underlying5 w2) trodAll_mk0))), rfl, bel.frame _, fun h => by cases h⟩

theorem over : Rows.guideClashRow.holds Try.pinned (OpenSpec.ofChange Rows.guideClashSpec) :=
  OpenClaim.holds_of_wide 10 Try.f10 rfl rfl rfl rfl rfl rfl rfl ⟨rfl, rfl, rfl, rfl, rfl⟩ rfl rfl rfl rfl rfl (by kernel_rfl) Try.func10 (by kernel_rfl)
    (of_decide_eq_true (by kernel_rfl)) (by unfold Func.isWrapper; first | (rw [if_pos (by decide +kernel)]; kernel_rfl) | (rw [if_neg (by decide +kernel)]; exact ⟨rfl, rfl⟩))
    (fun os started H enc _ => lifted os started H enc)

theorem proved : Rows.GuideClashSaid := over
#print axioms proved
end Go.Proofs.Ytacdndehlkaaeaa.guideClashDone
