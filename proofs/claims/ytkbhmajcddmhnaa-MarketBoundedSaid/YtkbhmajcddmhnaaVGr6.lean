/- Round, step by step: plain words. -/
import Derived.Test.YtkbhmajcddmhnaaVGr5
import Derived.Test.YtkbhmajcddmhnaaVPriced
namespace Go.Proofs.Ytkbhmajcddmhnaa
open Go.RowKit
set_option linter.unusedVariables false
set_option linter.unusedSimpArgs false

def roundDfs (l : List Offer) (stall : List Int) : Option (List Int) := (List.range 5).findSome? fun i => dfs l stall (i + 1) []
def wentD (l : List Offer) (p d : Int) : Went :=
  if offersOk l = false then ⟨[], 60⟩ else if (inB p 0 9999 && inB d 0 100000) = false then ⟨[], 2⟩ else
  match roundDfs l (hereOf l p d) with | some ls => ⟨ls, 0⟩ | none => ⟨[], 6⟩
theorem dfs_len {l : List Offer} {stall : List Int} : ∀ {n : Nat} {ls x : List Int}, dfs l stall n ls = some x → x.length = ls.length + n
  | 0, ls, x, h => by
    simp only [dfs] at h
    split at h
    · cases h; rfl
    · cases h
  | n + 1, ls, x, h => by
    simp only [dfs] at h
    obtain ⟨k, _, hk⟩ := List.exists_of_findSome?_eq_some h
    split at hk
    · cases hk
    · have := dfs_len hk
      simp at this
      omega
theorem roundDfs_none {l : List Offer} {stall : List Int} (h : ∀ i, i < 5 → dfs l stall (i + 1) [] = none) : roundDfs l stall = none := by
  unfold roundDfs
  rw [List.findSome?_eq_none_iff]
  intro i hi
  exact h i (by simpa using hi)
theorem roundDfs_some {l : List Offer} {stall : List Int} {k : Nat} {x : List Int} (hk : k < 5) (h : ∀ i, i < k → dfs l stall (i + 1) [] = none) (hx : dfs l stall (k + 1) [] = some x) : roundDfs l stall = some x := by
  unfold roundDfs
  refine findSome_take (k := k) (x := k) ?_ (by simp [hk]) hx
  rw [List.findSome?_eq_none_iff]
  intro i hi
  rw [List.take_range, List.mem_range] at hi
  exact h i (by omega)
end Go.Proofs.Ytkbhmajcddmhnaa

/- Rounds found step by step are those found by trying all lists: plain words. -/
namespace Go.Proofs.Ytkbhmajcddmhnaa
open Go.RowKit
set_option linter.unusedVariables false
set_option linter.unusedSimpArgs false

/-- all lists, the first one first -/
theorem digs_mod (b : Nat) : ∀ (n w : Nat), digs b n (w % b ^ n) = digs b n w
  | 0, _ => rfl
  | n + 1, w => by
    simp only [digs]
    have e1 : w % b ^ (n + 1) / b = w / b % b ^ n := by rw [Nat.pow_succ, Nat.mul_comm, Nat.mod_mul_right_div_self]
    have e2 : w % b ^ (n + 1) % b = w % b := Nat.mod_mod_of_dvd _ (by rw [Nat.pow_succ]; exact Nat.dvd_mul_left _ _)
    rw [e1, e2, digs_mod b n]
theorem range_mul (a b : Nat) : List.range (a * b) = (List.range a).flatMap fun i => (List.range b).map fun j => i * b + j := by
  induction a with
  | zero => simp
  | succ a ih =>
    rw [Nat.succ_mul, List.range_add, List.range_succ, List.flatMap_append, ih]
    simp
theorem flatMap_cong {α β : Type} {f g : α → List β} : ∀ {l : List α}, (∀ x ∈ l, f x = g x) → l.flatMap f = l.flatMap g
  | [], _ => rfl
  | x :: l, h => by rw [List.flatMap_cons, List.flatMap_cons, h x (List.mem_cons_self ..), flatMap_cong fun y hy => h y (List.mem_cons_of_mem _ hy)]
theorem cands_succ (b n : Nat) : cands b (n + 1) = (List.range b).flatMap fun k : Nat => (cands b n).map fun c => (k : Int) :: c := by
  unfold cands
  rw [Nat.pow_succ, Nat.mul_comm, range_mul, List.map_flatMap]
  refine flatMap_cong fun k hk => ?_
  have hk := List.mem_range.1 hk
  rw [List.map_map, List.map_map]
  refine List.map_congr_left fun j hj => ?_
  have hj := List.mem_range.1 hj
  have hp : 0 < b ^ n := by omega
  simp only [Function.comp]
  rw [digs_cons]
  have e1 : (k * b ^ n + j) / b ^ n = k := by rw [Nat.mul_comm, Nat.mul_add_div hp, Nat.div_eq_of_lt hj, Nat.add_zero]
  have e2 : (k * b ^ n + j) % b ^ n = j := by rw [Nat.mul_comm, Nat.mul_add_mod, Nat.mod_eq_of_lt hj]
  rw [e1, Nat.mod_eq_of_lt hk, ← digs_mod b n (k * b ^ n + j), e2]
theorem cands_len {b n : Nat} {c : List Int} (h : c ∈ cands b n) : c.length = n := by
  obtain ⟨w, _, rfl⟩ := List.mem_map.1 h
  exact digs_len b n w

/-- what is open, as a part of all indices -/
theorem idxs_filter (l : List Offer) (p : Int) : ∀ {k : Nat}, k ≤ l.length → idxsTo l p k = ((List.range k).map fun i : Nat => (i : Int)).filter fun i => (offerAt l i).place == p
  | 0, _ => rfl
  | k + 1, h => by
    rw [idxsTo, idxs_filter l p (k := k) (by omega), List.range_succ, List.map_append, List.filter_append]
    congr 1
    have ho : l[k]? = some (offerAt l k) := by
      obtain ⟨o, ho⟩ : ∃ o, l[k]? = some o := ⟨_, List.getElem?_eq_getElem (by omega)⟩
      simp [offerAt, List.getD, ho]
    rw [ho]
    simp only [List.map_cons, List.map_nil]
    by_cases hp : (offerAt l k).place = p
    · simp [hp]
    · simp [hp]
theorem here_filter (l : List Offer) (p d : Int) : hereOf l p d = ((List.range l.length).map fun i : Nat => (i : Int)).filter fun i => openP (offerAt l i) p d := by
  unfold hereOf
  rw [idxs_filter l p (Nat.le_refl _), List.filter_filter]
  refine List.filter_congr fun i hi => ?_
  obtain ⟨k, hk, rfl⟩ := List.mem_map.1 hi
  have hk := List.mem_range.1 hk
  have ho : l[k]? = some (offerAt l k) := by
    obtain ⟨o, ho⟩ : ∃ o, l[k]? = some o := ⟨_, List.getElem?_eq_getElem (by omega)⟩
    simp [offerAt, List.getD, ho]
  unfold openAt openP
  rw [Int.toNat_natCast, ho, Bool.and_comm]
theorem findSome_filter {α β : Type} (q : α → Bool) (f : α → Option β) : ∀ l : List α, (l.filter q).findSome? f = l.findSome? fun x => if q x = true then f x else none
  | [] => rfl
  | x :: l => by
    rw [List.filter_cons, List.findSome?_cons]
    by_cases h : q x = true
    · rw [if_pos h, if_pos h, List.findSome?_cons, findSome_filter q f l]
    · rw [if_neg h, if_neg h, findSome_filter q f l]
theorem findSome_cong {α β : Type} {f g : α → Option β} : ∀ {l : List α}, (∀ x ∈ l, f x = g x) → l.findSome? f = l.findSome? g
  | [], _ => rfl
  | x :: l, h => by rw [List.findSome?_cons, List.findSome?_cons, h x (List.mem_cons_self ..), findSome_cong fun y hy => h y (List.mem_cons_of_mem _ hy)]
theorem find_cong {α : Type} {f g : α → Bool} : ∀ {l : List α}, (∀ x ∈ l, f x = g x) → l.find? f = l.find? g
  | [], _ => rfl
  | x :: l, h => by rw [List.find?_cons, List.find?_cons, h x (List.mem_cons_self ..), find_cong fun y hy => h y (List.mem_cons_of_mem _ hy)]

/-- may c come behind ls, and does it all go round then? -/
def okFrom (l : List Offer) (p d : Int) : List Int → List Int → Bool
  | ls, [] => closeB l ls
  | ls, k :: c => openP (offerAt l k) p d && (!skipB l ls k && okFrom l p d (ls ++ [k]) c)
theorem dfs_find (l : List Offer) (p d : Int) : ∀ (n : Nat) (ls : List Int), dfs l (hereOf l p d) n ls = ((cands l.length n).find? (okFrom l p d ls)).map (ls ++ ·)
  | 0, ls => by
    have e : cands l.length 0 = [[]] := by simp [cands, digs]
    rw [e, dfs, List.find?_cons]
    simp only [okFrom]
    by_cases h : closeB l ls = true
    · simp [h]
    · simp [h]
  | n + 1, ls => by
    obtain ⟨D, hD⟩ : ∃ D : Int → Option (List Int), (fun k => if skipB l ls k = true then none else dfs l (hereOf l p d) n (ls ++ [k])) = D := ⟨_, rfl⟩
    rw [dfs, hD, cands_succ, here_filter, findSome_filter, List.find?_flatMap, List.findSome?_map, List.map_findSome?]
    refine findSome_cong fun k hk => ?_
    simp only [Function.comp]
    rw [← hD, List.find?_map]
    simp only []
    rw [dfs_find l p d n (ls ++ [(k : Int)])]
    by_cases ho : openP (offerAt l k) p d = true
    · by_cases hs : skipB l ls k = true
      · have e : (cands l.length n).find? (okFrom l p d ls ∘ fun c => (k : Int) :: c) = none := by
          rw [List.find?_eq_none]
          intro c _
          simp [okFrom, hs]
        rw [e]
        simp [hs]
      · have e : (cands l.length n).find? (okFrom l p d ls ∘ fun c => (k : Int) :: c) = (cands l.length n).find? (okFrom l p d (ls ++ [(k : Int)])) := find_cong fun c _ => by simp [okFrom, ho, hs]
        rw [e, if_pos ho, if_neg hs, Option.map_map]
        congr 1
        funext c
        simp
    · have e : (cands l.length n).find? (okFrom l p d ls ∘ fun c => (k : Int) :: c) = none := by
        rw [List.find?_eq_none]
        intro c _
        simp [okFrom, ho]
      rw [e, if_neg ho]
      rfl
theorem ok_iff (l : List Offer) (p d : Int) : ∀ (c ls : List Int), okFrom l p d ls c = true ↔ (∀ i, i < c.length → openP (offerAt l (c.getD i 0)) p d = true ∧ skipB l (ls ++ c.take i) (c.getD i 0) = false) ∧ closeB l (ls ++ c) = true
  | [], ls => by simp [okFrom]
  | k :: c, ls => by
    have ih := ok_iff l p d c (ls ++ [k])
    simp only [okFrom, Bool.and_eq_true, Bool.not_eq_true', ih, List.append_assoc, List.cons_append, List.nil_append, List.length_cons]
    constructor
    · rintro ⟨h1, h2, h3, h4⟩
      refine ⟨fun i hi => ?_, h4⟩
      cases i with
      | zero => simpa using ⟨h1, h2⟩
      | succ i => simpa using h3 i (by omega)
    · rintro ⟨h1, h2⟩
      have h0 := h1 0 (by omega)
      simp at h0
      exact ⟨h0.1, h0.2, fun i hi => by simpa using h1 (i + 1) (by omega), h2⟩
theorem prodTo_list (g : Int → Int) (c : List Int) : ∀ {n : Nat}, n ≤ c.length → prodTo (fun i => g (c.getD i 0)) n = listProd ((c.take n).map g)
  | 0, _ => by simp [prodTo, listProd]
  | n + 1, h => by
    obtain ⟨x, hx⟩ : ∃ x, c[n]? = some x := ⟨_, List.getElem?_eq_getElem (by omega)⟩
    rw [prodTo, prodTo_list g c (by omega), List.take_add_one, hx, List.map_append, listProd_append]
    simp [listProd, List.getD, hx]
theorem gives_mem {l : List Offer} {c : List Int} {i : Nat} (hi : i ≤ c.length) (g : Int) : g ∈ gives l (c.take i) ↔ ∃ k, k < i ∧ (nth l c k).give = g := by
  unfold gives nth
  rw [List.mem_map]
  constructor
  · rintro ⟨x, hx, rfl⟩
    obtain ⟨k, hk⟩ := List.getElem?_of_mem hx
    have hk2 := (List.getElem?_eq_some_iff.1 hk).1
    rw [List.length_take] at hk2
    rw [List.getElem?_take_of_lt (by omega)] at hk
    exact ⟨k, by omega, by simp [giveOf, List.getD, hk]⟩
  · rintro ⟨k, hk, rfl⟩
    obtain ⟨x, hx⟩ : ∃ x, c[k]? = some x := ⟨_, List.getElem?_eq_getElem (by omega)⟩
    refine ⟨x, List.mem_of_getElem? (i := k) (by rw [List.getElem?_take_of_lt hk]; exact hx), by simp [giveOf, List.getD, hx]⟩
theorem ok_rounds {l : List Offer} {p d : Int} {c : List Int} (hc : 0 < c.length) : okFrom l p d [] c = roundsB l p d c := by
  rw [Bool.eq_iff_iff, ok_iff]
  have eU : prodU l c c.length = listProd (c.map (unitsOf l)) := by
    have := prodTo_list (unitsOf l) c (Nat.le_refl _)
    rw [List.take_length] at this
    exact this
  have eL : prodL l c c.length = listProd (c.map (loOf l)) := by
    have := prodTo_list (loOf l) c (Nat.le_refl _)
    rw [List.take_length] at this
    exact this
  simp only [roundsB, eU, eL, List.nil_append, closeB, Bool.and_eq_true, List.all_eq_true, List.mem_range, roundAt, skipB, Bool.or_eq_false_iff, decide_eq_true_eq, decide_eq_false_iff_not, beq_iff_eq, bne_iff_ne]
  have hp0 : prevI c.length 0 = c.length - 1 := by unfold prevI; rw [Nat.zero_add]; exact Nat.mod_eq_of_lt (by omega)
  have hpi : ∀ i, 0 < i → i < c.length → prevI c.length i = i - 1 := fun i h0 hi => by
    unfold prevI
    rw [show i + c.length - 1 = (i - 1) + c.length by omega, Nat.add_mod_right]
    exact Nat.mod_eq_of_lt (by omega)
  have hlast : ∀ i, 0 < i → i < c.length → (c.take i).getD ((c.take i).length - 1) 0 = c.getD (i - 1) 0 := fun i h0 hi => by
    rw [List.length_take, Nat.min_eq_left (by omega)]
    simp only [List.getD]
    rw [List.getElem?_take_of_lt (by omega)]
  constructor
  · rintro ⟨h1, h2, h3⟩
    refine ⟨fun i hi => ?_, h3⟩
    obtain ⟨a1, a2, a3⟩ := h1 i hi
    rw [gives_mem (by omega)] at a2
    refine ⟨⟨a1, ?_⟩, fun k hk e => a2 ⟨k, hk, e⟩⟩
    rcases Nat.eq_zero_or_pos i with rfl | h0
    · rw [hp0]; exact h2
    · rw [hpi i h0 hi]
      have hl : 0 < (c.take i).length := by rw [List.length_take]; omega
      rw [hlast i h0 hi] at a3
      simp only [hl, decide_true, Bool.true_and, bne_eq_false_iff_eq] at a3
      exact a3.symm
  · rintro ⟨h1, h3⟩
    refine ⟨fun i hi => ?_, ?_, h3⟩
    · obtain ⟨⟨a1, a2⟩, a3⟩ := h1 i hi
      refine ⟨a1, ?_, ?_⟩
      · rw [gives_mem (by omega)]
        rintro ⟨k, hk, e⟩
        exact a3 k hk e
      · rcases Nat.eq_zero_or_pos i with rfl | h0
        · simp
        · rw [hlast i h0 hi]
          rw [hpi i h0 hi] at a2
          simp only [Bool.and_eq_false_iff, bne_eq_false_iff_eq]
          exact .inr a2.symm
    · have := (h1 0 hc).1.2
      rw [hp0] at this
      exact this
theorem roundDfs_eq (l : List Offer) (p d : Int) : roundDfs l (hereOf l p d) = roundFind l p d := by
  unfold roundDfs roundFind
  rw [List.find?_flatMap]
  refine findSome_cong fun i _ => ?_
  rw [dfs_find, show ((cands l.length (i + 1)).find? (okFrom l p d [])) = (cands l.length (i + 1)).find? (roundsB l p d) from find_cong fun c hc => ok_rounds (by rw [cands_len hc]; omega)]
  cases (cands l.length (i + 1)).find? (roundsB l p d) <;> rfl
theorem wentD_eq (l : List Offer) (p d : Int) : wentD l p d = wentOf l p d := by
  unfold wentD wentOf
  rw [roundDfs_eq]
  cases roundFind l p d <;> rfl
end Go.Proofs.Ytkbhmajcddmhnaa

/- All chains, one by one, in ascending order: plain words. -/
namespace Go.Proofs.Ytkbhmajcddmhnaa
open Go.RowKit
set_option linter.unusedVariables false
set_option linter.unusedSimpArgs false

/-- what is in hand behind fair i, where k (open there, or -1) is chosen -/
def nextHand (l : List Offer) (fs : List Fair) (i : Nat) (k : Int) (h : Hand) : Option Hand :=
  if 0 ≤ k then if (offerAt l k).give = h.good then some (roadHand fs i (takeHand (offerAt l k) h)) else none else some (roadHand fs i h)
def optsAt (l : List Offer) (fs : List Fair) (i : Nat) : List Int := -1 :: hereOf l (fairAt fs i).place (fairAt fs i).day
def enum (l : List Offer) (fs : List Fair) : Nat → Nat → Hand → List Int → List (List Int × Hand)
  | 0, i, h, ch => [(ch, h)]
  | m + 1, i, h, ch => (optsAt l fs i).flatMap fun k => match nextHand l fs i k h with | some h' => enum l fs m (i + 1) h' (ch ++ [k]) | none => []
def addBest (want : Int) (acc : Found) (x : List Int × Hand) : Found := if x.2.good = want ∧ acc.most < x.2.units then some (x.1, x.2.units) else acc

def down (c : List Int) : List Int := c.map (· - 1)
theorem digits_down (b : Nat) : ∀ (m w : Nat), digits b m w = down (digs b m w)
  | 0, _ => rfl
  | m + 1, w => by simp [digits, digs, digits_down b m, down]
def goneFrom (l : List Offer) (fs : List Fair) : Nat → Hand → List Int → Option Hand
  | _, h, [] => some h
  | i, h, k :: c => (stepHand l fs i k h).bind fun h' => goneFrom l fs (i + 1) h' c
theorem goneFrom_snoc (l : List Offer) (fs : List Fair) (k : Int) : ∀ (c : List Int) (i : Nat) (h : Hand), goneFrom l fs i h (c ++ [k]) = (goneFrom l fs i h c).bind (stepHand l fs (i + c.length) k)
  | [], i, h => by
    simp only [List.nil_append, goneFrom, List.length_nil, Nat.add_zero, Option.bind_some]
    cases stepHand l fs i k h <;> rfl
  | x :: c, i, h => by
    simp only [List.cons_append, goneFrom, List.length_cons]
    cases hs : stepHand l fs i x h with
    | none => rfl
    | some h' =>
      simp only [Option.bind_some]
      rw [goneFrom_snoc l fs k c (i + 1) h', show i + (c.length + 1) = i + 1 + c.length by omega]
theorem goneTo_from (l : List Offer) (fs : List Fair) (ch : List Int) (h : Hand) : ∀ n, n ≤ ch.length → goneTo l fs ch h n = goneFrom l fs 0 h (ch.take n)
  | 0, _ => by simp [goneTo, goneFrom]
  | n + 1, hn => by
    obtain ⟨x, hx⟩ : ∃ x, ch[n]? = some x := ⟨_, List.getElem?_eq_getElem (by omega)⟩
    rw [goneTo, goneTo_from l fs ch h n (by omega), List.take_add_one, hx, Option.toList_some, goneFrom_snoc, List.length_take, Nat.min_eq_left (by omega), Nat.zero_add]
    simp [List.getD, hx]
theorem goneOf_from {l : List Offer} {fs : List Fair} {ch : List Int} {h : Hand} (hc : ch.length = fs.length) : goneOf l fs ch h = goneFrom l fs 0 h ch := by
  unfold goneOf
  rw [goneTo_from _ _ _ _ _ (by omega), ← hc, List.take_length]
theorem flatMap_filter {α β : Type} (q : α → Bool) (f : α → List β) : ∀ l : List α, (l.filter q).flatMap f = l.flatMap fun x => if q x = true then f x else []
  | [] => rfl
  | x :: l => by
    rw [List.filter_cons, List.flatMap_cons]
    by_cases h : q x = true
    · rw [if_pos h, if_pos h, List.flatMap_cons, flatMap_filter q f l]
    · rw [if_neg h, if_neg h, flatMap_filter q f l, List.nil_append]
theorem filterMap_none {α β : Type} {f : α → Option β} {l : List α} (h : ∀ x ∈ l, f x = none) : l.filterMap f = [] := by
  rw [List.filterMap_eq_nil_iff]
  exact h
theorem opts_flat {β : Type} (l : List Offer) (fs : List Fair) (i : Nat) (f : Int → List β) :
    (optsAt l fs i).flatMap f = (List.range (l.length + 1)).flatMap fun q : Nat => if 0 ≤ (q : Int) - 1 then (if openB (offerAt l ((q : Int) - 1)) (fairAt fs i) = true then f ((q : Int) - 1) else []) else f ((q : Int) - 1) := by
  unfold optsAt
  rw [List.flatMap_cons, here_filter, flatMap_filter, List.range_succ_eq_map, List.flatMap_cons, List.flatMap_map, List.flatMap_map]
  congr 1
  refine flatMap_cong fun q _ => ?_
  simp only [Nat.succ_eq_add_one, Int.natCast_add, Int.natCast_one, Int.add_sub_cancel, openP, openB]
  rw [if_pos (by omega : (0 : Int) ≤ (q : Int))]
  rfl
theorem enum_eq (l : List Offer) (fs : List Fair) : ∀ (m i : Nat) (h : Hand) (ch : List Int), enum l fs m i h ch = ((cands (l.length + 1) m).map down).filterMap fun c => (goneFrom l fs i h c).map fun h' => (ch ++ c, h')
  | 0, i, h, ch => by simp [enum, cands, digs, down, goneFrom]
  | m + 1, i, h, ch => by
    rw [enum, opts_flat, cands_succ, List.map_flatMap, List.filterMap_flatMap]
    refine flatMap_cong fun q _ => ?_
    rw [List.map_map, List.filterMap_map]
    obtain ⟨k, hk⟩ : ∃ k : Int, (q : Int) - 1 = k := ⟨_, rfl⟩
    rw [hk]
    have hs : (if 0 ≤ k then (if openB (offerAt l k) (fairAt fs i) = true then nextHand l fs i k h else none) else nextHand l fs i k h) = stepHand l fs i k h := by
      unfold nextHand stepHand
      by_cases h0 : 0 ≤ k
      · simp only [h0, if_true]
        by_cases h1 : (offerAt l k).give = h.good
        · by_cases h2 : openB (offerAt l k) (fairAt fs i) = true
          · simp [h1, h2]
          · simp [h1, h2]
        · simp [h1]
      · simp [h0]
    have e1 : (if 0 ≤ k then (if openB (offerAt l k) (fairAt fs i) = true then (match nextHand l fs i k h with | some h' => enum l fs m (i + 1) h' (ch ++ [k]) | none => []) else []) else (match nextHand l fs i k h with | some h' => enum l fs m (i + 1) h' (ch ++ [k]) | none => [])) =
        match stepHand l fs i k h with | some h' => enum l fs m (i + 1) h' (ch ++ [k]) | none => [] := by
      rw [← hs]
      by_cases h0 : 0 ≤ k
      · by_cases h2 : openB (offerAt l k) (fairAt fs i) = true
        · simp [h0, h2]
        · simp [h0, h2]
      · simp [h0]
    rw [e1]
    cases hst : stepHand l fs i k h with
    | none =>
      refine (filterMap_none fun c _ => ?_).symm
      simp [down, goneFrom, hk, hst]
    | some h' =>
      simp only []
      rw [enum_eq l fs m (i + 1) h' (ch ++ [k]), List.filterMap_map]
      congr 1
      funext c
      simp [down, goneFrom, hk, hst]
theorem fold_best (l : List Offer) (fs : List Fair) (h0 : Hand) (want : Int) : ∀ (cs : List (List Int)) (acc : Found), (∀ c ∈ cs, c.length = fs.length) → cs.foldl (bestStep l fs h0 want) acc = (cs.filterMap fun c => (goneFrom l fs 0 h0 c).map fun h' => (c, h')).foldl (addBest want) acc
  | [], acc, _ => rfl
  | c :: cs, acc, hc => by
    rw [List.foldl_cons, List.filterMap_cons, fold_best l fs h0 want cs _ fun c' h => hc c' (List.mem_cons_of_mem _ h)]
    have hg := goneOf_from (l := l) (h := h0) (hc c (List.mem_cons_self ..))
    cases h : goneFrom l fs 0 h0 c with
    | none => simp [bestStep, hg, h]
    | some h' => simp [bestStep, hg, h, addBest]
theorem enum_best (l : List Offer) (fs : List Fair) (h0 : Hand) (want : Int) : (enum l fs fs.length 0 h0 []).foldl (addBest want) none = bestTo l fs h0 want ((l.length + 1) ^ fs.length) := by
  have e : bestTo l fs h0 want ((l.length + 1) ^ fs.length) = ((cands (l.length + 1) fs.length).map down).foldl (bestStep l fs h0 want) none := by
    unfold bestTo cands
    rw [List.map_map, List.foldl_map]
    simp only [Function.comp, digits_down]
  rw [e, fold_best, enum_eq]
  · simp
  · intro c hc
    obtain ⟨c', h', rfl⟩ := List.mem_map.1 hc
    simp [down, cands_len h']
end Go.Proofs.Ytkbhmajcddmhnaa
