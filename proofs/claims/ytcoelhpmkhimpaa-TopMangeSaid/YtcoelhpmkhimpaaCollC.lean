/- slices.Collect over a line, and slices.Index. -/
import Derived.Test.YtcoelhpmkhimpaaOpenC
import Derived.OwnWalkIn
namespace Go.Proofs.Ytcoelhpmkhimpaa
open Go.RowKit
set_option linter.unusedVariables false
set_option linter.unusedSimpArgs false
attribute [local go_sem] Oper.semAt_some
theorem wpListIn_app {F : Fence} {n : Nat} {P : Program} {T e : TypeId} {sz : Nat} (E : Elem P T e sz) (w : World) {ops : Array Oper} {rest : List Oper} {o : Oper} {a : Act} {Q : Exit → Act → World → Prop} (hgd : o.guard = none) (s x : Operand)
    (ho : o.op = .call { callee := .builtin .append, args := #[s, x], argTypes := #[T, T] })
    (base : Nat) (v : Value) (rows : List (List Value)) (hs : a.eval s = v) (hown : Owns w base e sz v rows)
    (xa : Option Addr) (m c : Nat) (news : List (List Value)) (hx : a.eval x = .slice xa m c) (h0 : 0 < m) (hm : news.length = m) (hsrc : SlAt w sz xa m (fun k => news.getD k []))
    (hrow : ∀ r ∈ news, r.length = sz ∧ ∀ u ∈ r, u.oneCell' = true) (hlen : rows.length + m ≤ 1000000000) (hbase : base ≤ w.heap.size)
    (h : ∀ v' w', Owns w' base e sz v' (rows ++ news) → w.grownBy w' v.ownBlock → wpListIn F n P ops Q rest (a.put o.dst v') w') :
    wpListIn F n P ops Q (o :: rest) a w := by
  obtain ⟨i, z, bytes, hi, hz, h1, h2, h3, h4⟩ := E.hi
  obtain ⟨b, off, rfl, hc⟩ := hsrc (by omega)
  refine wpListIn_append_own w hgd s x T ho base e i z sz bytes E.ht hi hz h1 h2 h3 E.hsz v rows.length rows.flatten hs hown.1 ⟨b, off, none⟩ m c news.flatten hx ?_ ?_ ?_ ?_ ?_ hbase ?_
  · rw [flatten_length (fun r hr => (hrow r hr).1), hm]
  · intro j u hu
    obtain ⟨k, j', r, rfl, hj', hr, hu'⟩ := flatten_inv (fun r hr => (hrow r hr).1) j u hu
    have hk : k < m := by
      rcases Nat.lt_or_ge k news.length with h | h
      · omega
      · simp [List.getElem?_eq_none h] at hr
    have := hc k hk j' u (by simp only [List.getD, hr, Option.getD_some]; exact hu')
    rw [addr_add', ← Nat.add_assoc]
    exact this
  · intro u hu
    obtain ⟨r, hr, hu'⟩ := List.mem_flatten.1 hu
    exact (hrow r hr).2 u hu'
  · unfold maxLen; omega
  · have : (rows.length + m) * bytes ≤ 1000000000 * 4096 := Nat.mul_le_mul hlen h4
    omega
  · intro v' w' o1 o2 _
    refine h v' w' ⟨by rw [List.length_append, List.flatten_append, hm]; exact o1, fun r hr => ?_⟩ o2
    rcases List.mem_append.1 hr with hr | hr
    · exact hown.2 r hr
    · exact (hrow r hr).1
def natsI (L : List Nat) : List Int := L.map fun (x : Nat) => (x : Int)
theorem Owns.butFI {O : Nat → Prop} {lo B : Nat} {e : TypeId} {sz : Nat} {v : Value} {rows : List (List Value)} {A C : World} (h : Owns A B e sz v rows) (k : ButF O lo A C) (hn : ∀ b, v.ownBlock = some b → ¬O b) : Owns C B e sz v rows := by
  refine ⟨⟨h.1.1, ?_⟩, h.2⟩
  rcases h.1.2 with q | ⟨g, cap, cur, e1, e2, e3, e4⟩
  · exact .inl q
  · exact .inr ⟨g, cap, cur, e1, e2, k.cells e3 (hn g (by rw [e1]; rfl)), e4⟩
structure ColI (w : World) (p2 pi : Nat) (pre : List Nat) (X : World) : Prop where
  keep : ButF (fun b => b = pi) w.heap.size w X
  all : ∃ v, X.heap[p2]? = some (.cells #[v] 34 (0, 0)) ∧ Owns X (p2 + 1) 3 1 v (intRows .i64 (natsI pre))
theorem ColI.f {w A B : World} {p2 pi lo : Nat} {pre : List Nat} (h : ColI w p2 pi pre A) (hlo : w.heap.size ≤ lo) (hp : pi < w.heap.size) (hp2 : w.heap.size ≤ p2) (k : ButF (fun b => b = pi) lo A B) : ColI w p2 pi pre B := by
  obtain ⟨v, h1, h2⟩ := h.all
  refine ⟨⟨k.os.trans h.keep.os, k.tape.trans h.keep.tape, k.output.trans h.keep.output, Nat.le_trans h.keep.size k.size, fun b o hb hn hc => k.block b o (h.keep.block b o hb hn hc) hn (.inr (by have := heap_lt hb; omega))⟩, v, k.cells h1 (fun e => by have : p2 = pi := e; omega), h2.butFI k fun b hb e => by have := (h2.lt b hb).1; have : b = pi := e; omega⟩
/-- a turn of the loop -/
theorem ColI.next {w X V : World} {p2 pi : Nat} {pre : List Nat} {x : Nat} {v v' : Value} (h : ColI w p2 pi pre X) (hp2 : w.heap.size ≤ p2) (hp : pi < w.heap.size) (hv : X.heap[p2]? = some (.cells #[v] 34 (0, 0))) (ho : Owns X (p2 + 1) 3 1 v (intRows .i64 (natsI pre))) (hb : But (fun b => v.ownBlock = some b) X V) (ho' : Owns V (p2 + 1) 3 1 v' (intRows .i64 (natsI (pre ++ [x])))) :
    KeepsOthers X (V.setCell ⟨p2, 0, none⟩ v') ∧ KpO (fun b => w.heap.size ≤ b) X (V.setCell ⟨p2, 0, none⟩ v') ∧ ColI w p2 pi (pre ++ [x]) (V.setCell ⟨p2, 0, none⟩ v') := by
  have hlt := fun b e => ho.lt b e
  have k1 : KeepsOthers X V := ⟨hb.size, fun b o hk hc => hb.block b o hk fun e => by
    have e : v.ownBlock = some b := e
    rcases ho.1.2 with q | ⟨g, cap, cur, e1, e2, e3, e4⟩
    · rcases q with ⟨rfl, _⟩
      cases e
    · rw [e1] at e
      cases e
      rw [e3] at hk
      cases hk
      cases hc⟩
  have hc2 := hb.block _ _ hv (fun e => by have := (hlt p2 e).1; omega)
  refine ⟨k1.trans (KeepsOthers.setCell _ _ _), ⟨by simp only [World.setCell]; have := hb.size; simpa using this, fun b o hk hc hn => ?_⟩, ⟨hb.os.trans h.keep.os, hb.tape.trans h.keep.tape, hb.output.trans h.keep.output, by have := hb.size; have := h.keep.size; simp only [World.setCell]; simp; omega, fun b o hk hn hc => ?_⟩, v', ?_, owns_setO ho' (by omega)⟩
  · have hn : ¬w.heap.size ≤ b := hn
    exact (Below.heap_setCell _ _ _ _ (by simp only; omega)).trans (hb.block b o hk fun e => by have := (hlt b e).1; omega)
  · have := heap_lt hk
    exact (Below.heap_setCell _ _ _ _ (by simp only; omega)).trans (hb.block b o (h.keep.block b o hk hn hc) fun e => by have := (hlt b e).1; omega)
  · rw [heap_setCell_box, hc2]
    rfl
def CollPost (L : List Nat) (pi : Nat) (w : World) (e : Ending) (w' : World) : Prop := ∃ a c, e = .returned (.slice a L.length c) ∧ IntsAt .i64 w' a L.length (natsI L) ∧ L.length ≤ c ∧ c ≤ maxLen ∧ (∀ x, a = some x → w.heap.size ≤ x.block) ∧ But (fun b => b = pi) w w'
set_option maxRecDepth 100000 in
set_option maxHeartbeats 4000000 in
theorem appendSeq_any {pi ph m : Nat} {L : List Nat} {w : World} (hpi : pi < w.heap.size) (hL : L.length ≤ 16)
    (hseq : SeqStopsB Fence.wide 2 Try.prog 110 #[.pointer (some ⟨pi, 0, none⟩), .pointer (some ⟨ph, 0, none⟩)] (fun x : {x : Nat // x < m} => natEnc x.1) (KpO (fun b => w.heap.size ≤ b)) (fun xs => xs.map (·.1) = L) (fun pre => pre.map (·.1) <+: L) L.length (fun b => b = pi) w) :
    Calls Try.prog 118 #[.slice none 0 0, .func (.func 110) #[] #[.pointer (some ⟨pi, 0, none⟩), .pointer (some ⟨ph, 0, none⟩)]] w (CollPost L pi w) := by
  have Hseq := Lib.hid hseq
  clear hseq
  refine (callsIn_wide (n := 3)).1 ?_
  refine callsIn_of_wp_marks Try.func118 rfl trivial ?_ rfl
  simp only [Try.ntmps118, List.size_toArray, List.length_cons, List.length_nil, Nat.reduceAdd, Nat.reduceSub, Array.replicate_succ, Array.replicate_zero, List.push_toArray, List.append_toArray, List.nil_append, List.cons_append]
  refine wpIn_wide.2 ?_
  have hst : ColI w w.heap.size pi [] (w.alloc (.cells #[.slice none 0 0] 34)) := ⟨(((Ext.refl w).alloc _).but _).f _, _, heap_alloc_new w _, Owns.nil _ _ _ _⟩
  have hx4 : Ext w (w.alloc (.cells #[.slice none 0 0] 34)) := (Ext.refl w).alloc _
  have hsz : (w.alloc (.cells #[.slice none 0 0] 34)).heap.size = w.heap.size + 1 := by simp
  have Hst := Lib.hid hst
  have Hx4 := Lib.hid hx4
  clear hst hx4
  go_wp2_with fail
  generalize w.alloc (.cells #[.slice none 0 0] 34) = W4 at *
  refine (wpIn_wide (n := 3)).1 (wpIn_rangeFunc_but rfl (by omega) (gf := 110) (lb := #[.pointer (some ⟨pi, 0, none⟩), .pointer (some ⟨ph, 0, none⟩)]) rfl trivial (enters_of Try.func110 (by kernel_rfl) rfl) Hseq.out kpO_t kpO_b Hx4.out (fun b hb => by have : b = pi := hb; omega) (fun _ => rfl)
    (fun (pre : List {x : Nat // x < m}) X => ColI w w.heap.size pi (pre.map (·.1)) X) (fun _ _ _ => False)
    (fun (q : List {x : Nat // x < m}) A B h k => ColI.f (pre := q.map (·.1)) h (by omega) hpi (by omega) k)
    (fun c q A B h k => h.elim)
    Hst.out ?a1 ?assign ?body ?done ?stop)
  case assign =>
    intro y x X K hK
    gi_wp2
    simp [natEnc]
    exact hK
  case body =>
    rintro y pre0 ⟨x, hxm⟩ X hI hpre
    obtain ⟨pre, hpre0⟩ : ∃ pre, pre0.map (·.1) = pre := ⟨_, rfl⟩
    have hpl : pre0.length = pre.length := by rw [← hpre0]; simp
    have hfin : (pre0 ++ [(⟨x, hxm⟩ : {x : Nat // x < m})]).map (·.1) = pre ++ [x] := by rw [← hpre0]; simp
    rw [hpl] at hpre
    have hI : ColI w w.heap.size pi pre X := by rw [← hpre0]; exact hI
    clear hpre0
    obtain ⟨v, h1, h2⟩ := hI.all
    obtain ⟨va, vc, rfl, _, _, _, _⟩ := ints_of_owns h2
    have hnl : (natsI pre).length = pre.length := by simp [natsI]
    have hrl : (intRows .i64 (natsI pre)).length = pre.length := by simp [intRows, natsI]
    have hl6 : (natsI (pre ++ [x])).length = pre.length + 1 := by simp [natsI]
    have hap : intRows .i64 (natsI pre) ++ intRows .i64 [(x : Int)] = intRows .i64 (natsI (pre ++ [x])) := by rw [← intRows_append]; simp [natsI]
    rw [hnl] at h1 h2
    obtain ⟨y0, y1⟩ := (Ext.refl X).box h1
    have hpx := heap_lt h1
    have hown := h2.alloc (.cells #[.int .i64 (x : Int)] 3)
    have hsrc := one_int X (x : Int) 3
    have hbx := ((Ext.refl X).alloc (.cells #[.int .i64 (x : Int)] 3)).but (fun b => (Value.slice va pre.length vc).ownBlock = some b)
    have hne : ¬((Value.slice va pre.length vc).ownBlock = some w.heap.size) := fun e => by have := (h2.lt _ e).1; omega
    have HI := Lib.hid hI
    have H2 := Lib.hid h2
    have Hown := Lib.hid hown
    have Hsrc := Lib.hid hsrc
    have Hbx := Lib.hid hbx
    have Hne := Lib.hid hne
    have Hap := Lib.hid hap
    have Hl6 := Lib.hid hl6
    have Hrl := Lib.hid hrl
    have Hfin := Lib.hid hfin
    clear hI h2 hown hsrc hbx hne hap hl6 hrl hfin
    have H1 := Lib.hid h1
    clear h1 hnl
    gi_wp2_with (gi_at_builtin; refine wpListIn_app elemI34 _ rfl (.tmp 8) (.tmp 10) rfl (w.heap.size + 1) (.slice va pre.length vc) (intRows .i64 (natsI pre)) rfl Hown.out (some ⟨X.heap.size, 0, none⟩) 1 1 (intRows .i64 [(x : Int)]) rfl (by omega) rfl Hsrc.out (intRows_row _ _) (by rw [Hrl.out]; omega) (by simp; omega) ?_; intro v6 w6 ho6 hg6; rw [Hap.out] at ho6; obtain ⟨a6, c6, e6, _, _, _, _⟩ := ints_of_owns ho6; rw [Hl6.out] at e6; subst e6; have hb6 := Hbx.out.trans (but_grownI hg6); clear hg6 y0 y1; obtain ⟨y0, y1⟩ := (Ext.refl w6).box (hb6.block _ _ H1.out Hne.out); have hlt6 := heap_lt (hb6.block _ _ H1.out Hne.out); have Ho6 := Lib.hid ho6; have Hb6 := Lib.hid hb6; clear ho6 hb6)
    have := HI.out.next (by omega) hpi H1.out H2.out Hb6.out Ho6.out
    rw [← Hfin.out] at this
    exact this
  case done =>
    intro D xs0 X hD hxs hI hK
    obtain ⟨xs, hxs0⟩ : ∃ xs, xs0.map (·.1) = xs := ⟨_, rfl⟩
    have hI : ColI w w.heap.size pi xs X := by rw [← hxs0]; exact hI
    have hxs : xs = L := by rw [← hxs0]; exact hxs
    clear hxs0
    subst hxs
    obtain ⟨v, h1, h2⟩ := hI.all
    obtain ⟨va, vc, rfl, f1, f2, f3, f4⟩ := ints_of_owns h2
    have hnl : (natsI xs).length = xs.length := by simp [natsI]
    rw [hnl] at h1 f2 f4
    obtain ⟨y0, y1⟩ := (Ext.refl X).box h1
    have hh : Hung (w.heap.size + 1) [{ target := .collected D, args := #[] }] X := ⟨⟨D, rfl, by omega, hK, by simp⟩, trivial⟩
    have hkp := hI.keep
    have Hh := Lib.hid hh
    have Hkp := Lib.hid hkp
    have F1 := Lib.hid f1
    have F4 := Lib.hid f4
    clear hh hkp f1 f4
    clear hI h1 h2 hK
    go_wp2_with fail
    refine marks_rets Hh.out fun w' ht => ?_
    refine ⟨.slice va xs.length vc, by simp [results, Try.f118, go_sem], va, vc, rfl, F4.out.took ht, f2, f3, fun x hx => ?_, ?_⟩
    · have := F1.out x hx
      omega
    · exact ⟨ht.os.trans Hkp.out.os, ht.tape.trans Hkp.out.tape, ht.output.trans Hkp.out.output, by rw [ht.size]; exact Hkp.out.size, fun b o hb hn => by
        have hl := heap_lt hb
        exact (ht.block b (by omega)).trans (Hkp.out.block b o hb hn (.inr hl))⟩
  case stop =>
    intro D c pre X _ _ h
    exact h.elim
theorem collect_any {pi ph m : Nat} {L : List Nat} {w : World} (hpi : pi < w.heap.size) (hL : L.length ≤ 16)
    (hseq : SeqStopsB Fence.wide 2 Try.prog 110 #[.pointer (some ⟨pi, 0, none⟩), .pointer (some ⟨ph, 0, none⟩)] (fun x : {x : Nat // x < m} => natEnc x.1) (KpO (fun b => w.heap.size ≤ b)) (fun xs => xs.map (·.1) = L) (fun pre => pre.map (·.1) <+: L) L.length (fun b => b = pi) w) :
    Calls Try.prog 75 #[.func (.func 110) #[] #[.pointer (some ⟨pi, 0, none⟩), .pointer (some ⟨ph, 0, none⟩)]] w (CollPost L pi w) := by
  have Hseq := Lib.hid hseq
  clear hseq
  go_enter Try.func75, Try.ntmps75
  go_wp2_with (go_at_call 118; refine (appendSeq_any hpi hL Hseq.out).mono ?_; rintro e w1 ⟨a, c, rfl, h1, h2, h3, h4, h5⟩)
  go_ret
  exact ⟨a, c, rfl, h1, h2, h3, h4, h5⟩
/-- the first place of a number -/
def idxOf (l : List Int) (x : Int) : Int := match l.findIdx? (fun y => x == y) with | some d => (d : Int) | none => -1
theorem idx_none {l : List Int} {x : Int} (h : ∀ (j : Nat) (y : Int), l[j]? = some y → (x == y) = false) : idxOf l x = -1 := by
  unfold idxOf
  have : l.findIdx? (fun y => x == y) = none := by
    rw [List.findIdx?_eq_none_iff]
    intro y hy
    obtain ⟨j, hj, rfl⟩ := List.mem_iff_getElem.1 hy
    exact h j _ (List.getElem?_eq_getElem hj)
  rw [this]
theorem idx_some {l : List Int} {x : Int} {k : Nat} (hk : l[k]? = some x) (h : ∀ (j : Nat) (y : Int), j < k → l[j]? = some y → (x == y) = false) : idxOf l x = k := by
  unfold idxOf
  have : l.findIdx? (fun y => x == y) = some k := by
    rw [List.findIdx?_eq_some_iff_getElem]
    obtain ⟨hl, he⟩ := List.getElem?_eq_some_iff.1 hk
    refine ⟨hl, by simp [he], fun j hj => ?_⟩
    rw [h j _ hj (List.getElem?_eq_getElem (by omega))]
    simp
  rw [this]
set_option maxRecDepth 100000 in
set_option maxHeartbeats 4000000 in
theorem index_any {a : Option Addr} {n c : Nat} {l : List Int} {w : World} (hl : IntsAt .i64 w a n l) (hn : n ≤ 1000000000) (x : Int) : Calls Try.prog 76 #[.slice a n c, .int .i64 x] w fun e w' => e = .returned (.int .i64 (idxOf l x)) ∧ w' = w := by
  have hnl := hl.1
  have Hl := Lib.hid hl
  clear hl
  go_enter Try.func76, Try.ntmps76
  go_upto_region 2 with fail
  go_loopw [8] (fun i V => ∃ k : Nat, i = .int .i64 k ∧ k ≤ n ∧ V = w ∧ ∀ j y, j < k → l[j]? = some y → (x == y) = false) (fun i _ => n - (intOf i).toNat)
  case atStart => exact ⟨0, rfl, Nat.zero_le _, rfl, fun j y hj => by omega⟩
  case round =>
    obtain ⟨k, rfl, hk, rfl, hno⟩ := hrel
    by_cases hlt : k < n
    · have hltB : decide ((k : Int) < (n : Int)) = true := by simp; omega
      obtain ⟨b, off, y, rfl, hyk, hb, c0⟩ := Hl.out.get k hlt
      by_cases hxy : x = y
      · subst hxy
        have hB : (x == x) = true := by simp
        have hi := idx_some hyk hno
        have Hi := Lib.hid hi
        clear hi
        clear hno hyk
        go_wp2_with fail
        go_ret
        exact ⟨by rw [Hi.out]; rfl, rfl⟩
      · have hB : (x == y) = false := by simpa using hxy
        have hno' : ∀ j z, j < k + 1 → l[j]? = some z → (x == z) = false := fun j z hj hz => by
          by_cases e : j = k
          · subst e
            rw [hyk] at hz
            cases hz
            exact hB
          · exact hno j z (by omega) hz
        have Hno' := Lib.hid hno'
        clear hno'
        clear hno hyk hxy
        go_wp2_with fail
        go_roundw
        case rel => exact ⟨k + 1, by go_num, by omega, trivial, Hno'.out⟩
        case measure => simp [intOf]; omega
    · have hltB : decide ((k : Int) < (n : Int)) = false := by simp; omega
      have hi := idx_none (l := l) (x := x) fun j y hy => hno j y (by have := (List.getElem?_eq_some_iff.1 hy).1; omega) hy
      have Hi := Lib.hid hi
      clear hi
      clear hno
      go_wp2_with fail
      go_ret
      exact ⟨by rw [Hi.out]; rfl, rfl⟩
end Go.Proofs.Ytcoelhpmkhimpaa
