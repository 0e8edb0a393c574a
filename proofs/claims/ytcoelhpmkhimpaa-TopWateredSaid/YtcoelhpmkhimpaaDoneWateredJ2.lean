/- Contract of layer 1: Cost. -/
import Derived.Test.YtcoelhpmkhimpaaDoneWateredJ1
import Derived.OwnWalkIn
import Derived.Test.YtcoelhpmkhimpaaInv
import Derived.Test.YtcoelhpmkhimpaaTreeIn
import Derived.Laws.IdiomStrings
import Derived.Test.YtcoelhpmkhimpaaLastsP
import Derived.Test.YtcoelhpmkhimpaaRngB
import Derived.Test.YtcoelhpmkhimpaaDaysIt
import Derived.Test.YtcoelhpmkhimpaaRepC
import Derived.Test.YtcoelhpmkhimpaaCamD
import Derived.Test.YtcoelhpmkhimpaaFlow
import Derived.Test.YtcoelhpmkhimpaaWalkP
import Derived.Test.YtcoelhpmkhimpaaRefD
import Derived.Test.YtcoelhpmkhimpaaTree
import Derived.Test.YtcoelhpmkhimpaaAfterC
import Derived.Test.YtcoelhpmkhimpaaThirstC
import Derived.Test.YtcoelhpmkhimpaaWaterC
import Derived.Test.YtcoelhpmkhimpaaRefE
import Derived.Test.YtcoelhpmkhimpaaWater
namespace Go.Proofs.Ytcoelhpmkhimpaa
open Go.RowKit
set_option linter.unusedVariables false
set_option linter.unusedSimpArgs false
attribute [local go_sem] Oper.semAt_some
theorem wpListIn_app {F : Fence} {n : Nat} {P : Program} {T e : TypeId} {sz : Nat} (E : Elem P T e sz) (w : World) {ops : Array Oper} {rest : List Oper} {o : Oper} {a : Act} {Q : Exit → Act → World → Prop} (hgd : o.guard = none) (s x : Operand)
    (ho : o.op = .call { callee := .builtin .append, args := #[s, x], argTypes := #[T, T] })
    (base : Nat) (v : Value) (rows : List (List Value)) (hs : a.eval s = v) (hown : Owns w base e sz v rows)
    (xa : Option Addr) (m c : Nat) (news : List (List Value)) (hx : a.eval x = .slice xa m c) (h0 : 0 < m) (hm : news.length = m) (hsrc : SlAt w sz xa m (fun k => news.getD k []))
    (hrow : ∀ r ∈ news, r.length = sz ∧ ∀ u ∈ r, u.oneCell' = true) (hlen : rows.length + m ≤ 1000000000) (hbase : base ≤ w.heap.size)
    (h : ∀ v' w', Owns w' base e sz v' (rows ++ news) → w.grownBy w' v.ownBlock → wpListIn F n P ops Q rest (a.put o.dst v') w') :
    wpListIn F n P ops Q (o :: rest) a w := by
  obtain ⟨i, z, bytes, hi, hz, h1, h2, h3, h4⟩ := E.hi
  obtain ⟨b, off, rfl, hc⟩ := hsrc (by omega)
  refine wpListIn_append_own w hgd s x T ho base e i z sz bytes E.ht hi hz h1 h2 h3 E.hsz v rows.length rows.flatten hs hown.1 ⟨b, off, none⟩ m c news.flatten hx ?_ ?_ ?_ ?_ ?_ hbase ?_
  · rw [flatten_length (fun r hr => (hrow r hr).1), hm]
  · intro j u hu
    obtain ⟨k, j', r, rfl, hj', hr, hu'⟩ := flatten_inv (fun r hr => (hrow r hr).1) j u hu
    have hk : k < m := by
      rcases Nat.lt_or_ge k news.length with h | h
      · omega
      · simp [List.getElem?_eq_none h] at hr
    have := hc k hk j' u (by simp only [List.getD, hr, Option.getD_some]; exact hu')
    rw [addr_add', ← Nat.add_assoc]
    exact this
  · intro u hu
    obtain ⟨r, hr, hu'⟩ := List.mem_flatten.1 hu
    exact (hrow r hr).2 u hu'
  · unfold maxLen; omega
  · have : (rows.length + m) * bytes ≤ 1000000000 * 4096 := Nat.mul_le_mul hlen h4
    omega
  · intro v' w' o1 o2 _
    refine h v' w' ⟨by rw [List.length_append, List.flatten_append, hm]; exact o1, fun r hr => ?_⟩ o2
    rcases List.mem_append.1 hr with hr | hr
    · exact hown.2 r hr
    · exact (hrow r hr).1
def natsI (L : List Nat) : List Int := L.map fun (x : Nat) => (x : Int)
theorem Owns.butFI {O : Nat → Prop} {lo B : Nat} {e : TypeId} {sz : Nat} {v : Value} {rows : List (List Value)} {A C : World} (h : Owns A B e sz v rows) (k : ButF O lo A C) (hn : ∀ b, v.ownBlock = some b → ¬O b) : Owns C B e sz v rows := by
  refine ⟨⟨h.1.1, ?_⟩, h.2⟩
  rcases h.1.2 with q | ⟨g, cap, cur, e1, e2, e3, e4⟩
  · exact .inl q
  · exact .inr ⟨g, cap, cur, e1, e2, k.cells e3 (hn g (by rw [e1]; rfl)), e4⟩
structure ColI (w : World) (p2 pi : Nat) (pre : List Nat) (X : World) : Prop where
  keep : ButF (fun b => b = pi) w.heap.size w X
  all : ∃ v, X.heap[p2]? = some (.cells #[v] 34 (0, 0)) ∧ Owns X (p2 + 1) 3 1 v (intRows .i64 (natsI pre))
theorem ColI.f {w A B : World} {p2 pi lo : Nat} {pre : List Nat} (h : ColI w p2 pi pre A) (hlo : w.heap.size ≤ lo) (hp : pi < w.heap.size) (hp2 : w.heap.size ≤ p2) (k : ButF (fun b => b = pi) lo A B) : ColI w p2 pi pre B := by
  obtain ⟨v, h1, h2⟩ := h.all
  refine ⟨⟨k.os.trans h.keep.os, k.tape.trans h.keep.tape, k.output.trans h.keep.output, Nat.le_trans h.keep.size k.size, fun b o hb hn hc => k.block b o (h.keep.block b o hb hn hc) hn (.inr (by have := heap_lt hb; omega))⟩, v, k.cells h1 (fun e => by have : p2 = pi := e; omega), h2.butFI k fun b hb e => by have := (h2.lt b hb).1; have : b = pi := e; omega⟩
/-- a turn of the loop -/
theorem ColI.next {w X V : World} {p2 pi : Nat} {pre : List Nat} {x : Nat} {v v' : Value} (h : ColI w p2 pi pre X) (hp2 : w.heap.size ≤ p2) (hp : pi < w.heap.size) (hv : X.heap[p2]? = some (.cells #[v] 34 (0, 0))) (ho : Owns X (p2 + 1) 3 1 v (intRows .i64 (natsI pre))) (hb : But (fun b => v.ownBlock = some b) X V) (ho' : Owns V (p2 + 1) 3 1 v' (intRows .i64 (natsI (pre ++ [x])))) :
    KeepsOthers X (V.setCell ⟨p2, 0, none⟩ v') ∧ KpO (fun b => w.heap.size ≤ b) X (V.setCell ⟨p2, 0, none⟩ v') ∧ ColI w p2 pi (pre ++ [x]) (V.setCell ⟨p2, 0, none⟩ v') := by
  have hlt := fun b e => ho.lt b e
  have k1 : KeepsOthers X V := ⟨hb.size, fun b o hk hc => hb.block b o hk fun e => by
    have e : v.ownBlock = some b := e
    rcases ho.1.2 with q | ⟨g, cap, cur, e1, e2, e3, e4⟩
    · rcases q with ⟨rfl, _⟩
      cases e
    · rw [e1] at e
      cases e
      rw [e3] at hk
      cases hk
      cases hc⟩
  have hc2 := hb.block _ _ hv (fun e => by have := (hlt p2 e).1; omega)
  refine ⟨k1.trans (KeepsOthers.setCell _ _ _), ⟨by simp only [World.setCell]; have := hb.size; simpa using this, fun b o hk hc hn => ?_⟩, ⟨hb.os.trans h.keep.os, hb.tape.trans h.keep.tape, hb.output.trans h.keep.output, by have := hb.size; have := h.keep.size; simp only [World.setCell]; simp; omega, fun b o hk hn hc => ?_⟩, v', ?_, owns_setO ho' (by omega)⟩
  · have hn : ¬w.heap.size ≤ b := hn
    exact (Below.heap_setCell _ _ _ _ (by simp only; omega)).trans (hb.block b o hk fun e => by have := (hlt b e).1; omega)
  · have := heap_lt hk
    exact (Below.heap_setCell _ _ _ _ (by simp only; omega)).trans (hb.block b o (h.keep.block b o hk hn hc) fun e => by have := (hlt b e).1; omega)
  · rw [heap_setCell_box, hc2]
    rfl
def CollPost (L : List Nat) (pi : Nat) (w : World) (e : Ending) (w' : World) : Prop := ∃ a c, e = .returned (.slice a L.length c) ∧ IntsAt .i64 w' a L.length (natsI L) ∧ L.length ≤ c ∧ c ≤ maxLen ∧ (∀ x, a = some x → w.heap.size ≤ x.block) ∧ But (fun b => b = pi) w w'
set_option maxRecDepth 100000 in
set_option maxHeartbeats 4000000 in
theorem appendSeq_any {pi ph m : Nat} {L : List Nat} {w : World} (hpi : pi < w.heap.size) (hL : L.length ≤ 16)
    (hseq : SeqStopsB Fence.wide 2 Try.prog 110 #[.pointer (some ⟨pi, 0, none⟩), .pointer (some ⟨ph, 0, none⟩)] (fun x : {x : Nat // x < m} => natEnc x.1) (KpO (fun b => w.heap.size ≤ b)) (fun xs => xs.map (·.1) = L) (fun pre => pre.map (·.1) <+: L) L.length (fun b => b = pi) w) :
    Calls Try.prog 118 #[.slice none 0 0, .func (.func 110) #[] #[.pointer (some ⟨pi, 0, none⟩), .pointer (some ⟨ph, 0, none⟩)]] w (CollPost L pi w) := by
  have Hseq := Lib.hid hseq
  clear hseq
  refine (callsIn_wide (n := 3)).1 ?_
  refine callsIn_of_wp_marks Try.func118 rfl trivial ?_ rfl
  simp only [Try.ntmps118, List.size_toArray, List.length_cons, List.length_nil, Nat.reduceAdd, Nat.reduceSub, Array.replicate_succ, Array.replicate_zero, List.push_toArray, List.append_toArray, List.nil_append, List.cons_append]
  refine wpIn_wide.2 ?_
  have hst : ColI w w.heap.size pi [] (w.alloc (.cells #[.slice none 0 0] 34)) := ⟨(((Ext.refl w).alloc _).but _).f _, _, heap_alloc_new w _, Owns.nil _ _ _ _⟩
  have hx4 : Ext w (w.alloc (.cells #[.slice none 0 0] 34)) := (Ext.refl w).alloc _
  have hsz : (w.alloc (.cells #[.slice none 0 0] 34)).heap.size = w.heap.size + 1 := by simp
  have Hst := Lib.hid hst
  have Hx4 := Lib.hid hx4
  clear hst hx4
  go_wp2_with fail
  generalize w.alloc (.cells #[.slice none 0 0] 34) = W4 at *
  refine (wpIn_wide (n := 3)).1 (wpIn_rangeFunc_but rfl (by omega) (gf := 110) (lb := #[.pointer (some ⟨pi, 0, none⟩), .pointer (some ⟨ph, 0, none⟩)]) rfl trivial (enters_of Try.func110 (by kernel_rfl) rfl) Hseq.out kpO_t kpO_b Hx4.out (fun b hb => by have : b = pi := hb; omega) (fun _ => rfl)
    (fun (pre : List {x : Nat // x < m}) X => ColI w w.heap.size pi (pre.map (·.1)) X) (fun _ _ _ => False)
    (fun (q : List {x : Nat // x < m}) A B h k => ColI.f (pre := q.map (·.1)) h (by omega) hpi (by omega) k)
    (fun c q A B h k => h.elim)
    Hst.out ?a1 ?assign ?body ?done ?stop)
  case assign =>
    intro y x X K hK
    gi_wp2
    simp [natEnc]
    exact hK
  case body =>
    rintro y pre0 ⟨x, hxm⟩ X hI hpre
    obtain ⟨pre, hpre0⟩ : ∃ pre, pre0.map (·.1) = pre := ⟨_, rfl⟩
    have hpl : pre0.length = pre.length := by rw [← hpre0]; simp
    have hfin : (pre0 ++ [(⟨x, hxm⟩ : {x : Nat // x < m})]).map (·.1) = pre ++ [x] := by rw [← hpre0]; simp
    rw [hpl] at hpre
    have hI : ColI w w.heap.size pi pre X := by rw [← hpre0]; exact hI
    clear hpre0
    obtain ⟨v, h1, h2⟩ := hI.all
    obtain ⟨va, vc, rfl, _, _, _, _⟩ := ints_of_owns h2
    have hnl : (natsI pre).length = pre.length := by simp [natsI]
    have hrl : (intRows .i64 (natsI pre)).length = pre.length := by simp [intRows, natsI]
    have hl6 : (natsI (pre ++ [x])).length = pre.length + 1 := by simp [natsI]
    have hap : intRows .i64 (natsI pre) ++ intRows .i64 [(x : Int)] = intRows .i64 (natsI (pre ++ [x])) := by rw [← intRows_append]; simp [natsI]
    rw [hnl] at h1 h2
    obtain ⟨y0, y1⟩ := (Ext.refl X).box h1
    have hpx := heap_lt h1
    have hown := h2.alloc (.cells #[.int .i64 (x : Int)] 3)
    have hsrc := one_int X (x : Int) 3
    have hbx := ((Ext.refl X).alloc (.cells #[.int .i64 (x : Int)] 3)).but (fun b => (Value.slice va pre.length vc).ownBlock = some b)
    have hne : ¬((Value.slice va pre.length vc).ownBlock = some w.heap.size) := fun e => by have := (h2.lt _ e).1; omega
    have HI := Lib.hid hI
    have H2 := Lib.hid h2
    have Hown := Lib.hid hown
    have Hsrc := Lib.hid hsrc
    have Hbx := Lib.hid hbx
    have Hne := Lib.hid hne
    have Hap := Lib.hid hap
    have Hl6 := Lib.hid hl6
    have Hrl := Lib.hid hrl
    have Hfin := Lib.hid hfin
    clear hI h2 hown hsrc hbx hne hap hl6 hrl hfin
    have H1 := Lib.hid h1
    clear h1 hnl
    gi_wp2_with (gi_at_builtin; refine wpListIn_app elemI34 _ rfl (.tmp 8) (.tmp 10) rfl (w.heap.size + 1) (.slice va pre.length vc) (intRows .i64 (natsI pre)) rfl Hown.out (some ⟨X.heap.size, 0, none⟩) 1 1 (intRows .i64 [(x : Int)]) rfl (by omega) rfl Hsrc.out (intRows_row _ _) (by rw [Hrl.out]; omega) (by simp; omega) ?_; intro v6 w6 ho6 hg6; rw [Hap.out] at ho6; obtain ⟨a6, c6, e6, _, _, _, _⟩ := ints_of_owns ho6; rw [Hl6.out] at e6; subst e6; have hb6 := Hbx.out.trans (but_grownI hg6); clear hg6 y0 y1; obtain ⟨y0, y1⟩ := (Ext.refl w6).box (hb6.block _ _ H1.out Hne.out); have hlt6 := heap_lt (hb6.block _ _ H1.out Hne.out); have Ho6 := Lib.hid ho6; have Hb6 := Lib.hid hb6; clear ho6 hb6)
    have := HI.out.next (by omega) hpi H1.out H2.out Hb6.out Ho6.out
    rw [← Hfin.out] at this
    exact this
  case done =>
    intro D xs0 X hD hxs hI hK
    obtain ⟨xs, hxs0⟩ : ∃ xs, xs0.map (·.1) = xs := ⟨_, rfl⟩
    have hI : ColI w w.heap.size pi xs X := by rw [← hxs0]; exact hI
    have hxs : xs = L := by rw [← hxs0]; exact hxs
    clear hxs0
    subst hxs
    obtain ⟨v, h1, h2⟩ := hI.all
    obtain ⟨va, vc, rfl, f1, f2, f3, f4⟩ := ints_of_owns h2
    have hnl : (natsI xs).length = xs.length := by simp [natsI]
    rw [hnl] at h1 f2 f4
    obtain ⟨y0, y1⟩ := (Ext.refl X).box h1
    have hh : Hung (w.heap.size + 1) [{ target := .collected D, args := #[] }] X := ⟨⟨D, rfl, by omega, hK, by simp⟩, trivial⟩
    have hkp := hI.keep
    have Hh := Lib.hid hh
    have Hkp := Lib.hid hkp
    have F1 := Lib.hid f1
    have F4 := Lib.hid f4
    clear hh hkp f1 f4
    clear hI h1 h2 hK
    go_wp2_with fail
    refine marks_rets Hh.out fun w' ht => ?_
    refine ⟨.slice va xs.length vc, by simp [results, Try.f118, go_sem], va, vc, rfl, F4.out.took ht, f2, f3, fun x hx => ?_, ?_⟩
    · have := F1.out x hx
      omega
    · exact ⟨ht.os.trans Hkp.out.os, ht.tape.trans Hkp.out.tape, ht.output.trans Hkp.out.output, by rw [ht.size]; exact Hkp.out.size, fun b o hb hn => by
        have hl := heap_lt hb
        exact (ht.block b (by omega)).trans (Hkp.out.block b o hb hn (.inr hl))⟩
  case stop =>
    intro D c pre X _ _ h
    exact h.elim
theorem collect_any {pi ph m : Nat} {L : List Nat} {w : World} (hpi : pi < w.heap.size) (hL : L.length ≤ 16)
    (hseq : SeqStopsB Fence.wide 2 Try.prog 110 #[.pointer (some ⟨pi, 0, none⟩), .pointer (some ⟨ph, 0, none⟩)] (fun x : {x : Nat // x < m} => natEnc x.1) (KpO (fun b => w.heap.size ≤ b)) (fun xs => xs.map (·.1) = L) (fun pre => pre.map (·.1) <+: L) L.length (fun b => b = pi) w) :
    Calls Try.prog 75 #[.func (.func 110) #[] #[.pointer (some ⟨pi, 0, none⟩), .pointer (some ⟨ph, 0, none⟩)]] w (CollPost L pi w) := by
  have Hseq := Lib.hid hseq
  clear hseq
  go_enter Try.func75, Try.ntmps75
  go_wp2_with (go_at_call 118; refine (appendSeq_any hpi hL Hseq.out).mono ?_; rintro e w1 ⟨a, c, rfl, h1, h2, h3, h4, h5⟩)
  go_ret
  exact ⟨a, c, rfl, h1, h2, h3, h4, h5⟩
/-- the first place of a number -/
def idxOf (l : List Int) (x : Int) : Int := match l.findIdx? (fun y => x == y) with | some d => (d : Int) | none => -1
theorem idx_none {l : List Int} {x : Int} (h : ∀ (j : Nat) (y : Int), l[j]? = some y → (x == y) = false) : idxOf l x = -1 := by
  unfold idxOf
  have : l.findIdx? (fun y => x == y) = none := by
    rw [List.findIdx?_eq_none_iff]
    intro y hy
    obtain ⟨j, hj, rfl⟩ := List.mem_iff_getElem.1 hy
    exact h j _ (List.getElem?_eq_getElem hj)
  rw [this]
theorem idx_some {l : List Int} {x : Int} {k : Nat} (hk : l[k]? = some x) (h : ∀ (j : Nat) (y : Int), j < k → l[j]? = some y → (x == y) = false) : idxOf l x = k := by
  unfold idxOf
  have : l.findIdx? (fun y => x == y) = some k := by
    rw [List.findIdx?_eq_some_iff_getElem]
    obtain ⟨hl, he⟩ := List.getElem?_eq_some_iff.1 hk
    refine ⟨hl, by simp [he], fun j hj => ?_⟩
    rw [h j _ hj (List.getElem?_eq_getElem (by omega))]
    simp
  rw [this]
set_option maxRecDepth 100000 in
set_option maxHeartbeats 4000000 in
theorem index_any {a : Option Addr} {n c : Nat} {l : List Int} {w : World} (hl : IntsAt .i64 w a n l) (hn : n ≤ 1000000000) (x : Int) : Calls Try.prog 76 #[.slice a n c, .int .i64 x] w fun e w' => e = .returned (.int .i64 (idxOf l x)) ∧ w' = w := by
  have hnl := hl.1
  have Hl := Lib.hid hl
  clear hl
  go_enter Try.func76, Try.ntmps76
  go_upto_region 2 with fail
  go_loopw [8] (fun i V => ∃ k : Nat, i = .int .i64 k ∧ k ≤ n ∧ V = w ∧ ∀ j y, j < k → l[j]? = some y → (x == y) = false) (fun i _ => n - (intOf i).toNat)
  case atStart => exact ⟨0, rfl, Nat.zero_le _, rfl, fun j y hj => by omega⟩
  case round =>
    obtain ⟨k, rfl, hk, rfl, hno⟩ := hrel
    by_cases hlt : k < n
    · have hltB : decide ((k : Int) < (n : Int)) = true := by simp; omega
      obtain ⟨b, off, y, rfl, hyk, hb, c0⟩ := Hl.out.get k hlt
      by_cases hxy : x = y
      · subst hxy
        have hB : (x == x) = true := by simp
        have hi := idx_some hyk hno
        have Hi := Lib.hid hi
        clear hi
        clear hno hyk
        go_wp2_with fail
        go_ret
        exact ⟨by rw [Hi.out]; rfl, rfl⟩
      · have hB : (x == y) = false := by simpa using hxy
        have hno' : ∀ j z, j < k + 1 → l[j]? = some z → (x == z) = false := fun j z hj hz => by
          by_cases e : j = k
          · subst e
            rw [hyk] at hz
            cases hz
            exact hB
          · exact hno j z (by omega) hz
        have Hno' := Lib.hid hno'
        clear hno'
        clear hno hyk hxy
        go_wp2_with fail
        go_roundw
        case rel => exact ⟨k + 1, by go_num, by omega, trivial, Hno'.out⟩
        case measure => simp [intOf]; omega
    · have hltB : decide ((k : Int) < (n : Int)) = false := by simp; omega
      have hi := idx_none (l := l) (x := x) fun j y hy => hno j y (by have := (List.getElem?_eq_some_iff.1 hy).1; omega) hy
      have Hi := Lib.hid hi
      clear hi
      clear hno
      go_wp2_with fail
      go_ret
      exact ⟨by rw [Hi.out]; rfl, rfl⟩
end Go.Proofs.Ytcoelhpmkhimpaa

namespace Go.Proofs.Ytcoelhpmkhimpaa
open Go.RowKit
set_option linter.unusedVariables false
set_option linter.unusedSimpArgs false

section
variable {P : Program} {ops : Array Oper} {E : Nat → World → World → Prop} {Q : Exit → Act → World → Prop}
def wpAnyE (P : Program) (ops : Array Oper) (Q : Exit → Act → World → Prop) (E : Nat → World → World → Prop) : Nat → Array Bool → Act → World → Prop
  | 0, listed, a, w => Region.ready .any ops listed = [] ∧ Q .normal a w
  | fuel + 1, listed, a, w => (Region.ready .any ops listed = [] → Q .normal a w) ∧
    ∀ i ∈ Region.ready .any ops listed, wpOp P ops Q i (fun a' w' => E i w w' ∧ wpAnyE P ops Q E fuel (listed.setIfInBounds i true) a' w') a w
theorem wpAny_of_E : ∀ (fuel : Nat) (listed : Array Bool) (a : Act) (w : World), wpAnyE P ops Q E fuel listed a w → wpAny P .any ops Q fuel listed a w
  | 0, _, _, _, h => h
  | fuel + 1, _, _, _, h => ⟨h.1, fun i hi => wpOp_mono (fun a' w' h' => wpAny_of_E fuel _ a' w' h'.2) (h.2 i hi)⟩

theorem wpAnyE_first {S : World → Prop} {i : Nat} {oi : Oper} {v : Value} (N : Nat) (hi : ops[i]? = some oi) (hsel : Region.noSelect ops = true)
    (hQ : ∀ c a w, Q (.panic c) (a.put oi.dst v) w → Q (.panic c) a w) (hE : ∀ w, E i w w) (hpres : ∀ j, reachB ops N i j = false → ∀ w w', S w → E j w w' → S w') :
    ∀ (fuel : Nat) (listed : Array Bool) (a : Act) (w : World), Closed ops listed → Region.free .any ops listed i = true →
      i ∈ Region.ready .any ops listed → YieldsIf P ops S oi v a → S w →
      wpAnyE P ops Q E fuel (listed.setIfInBounds i true) (a.put oi.dst v) w → wpAnyE P ops Q E (fuel + 1) listed a w := by
  have core : ∀ (fuel : Nat) (listed : Array Bool) (a : Act) (w : World), Closed ops listed →
      (∀ j oj, ops[j]? = some oj → j ≠ i → listed.getD j true = false → (∀ e ∈ oj.after, Region.binds .any e = true → e.on ≠ i) → oi.apart ops oj = true) →
      i ∈ Region.ready .any ops listed → YieldsIf P ops S oi v a → S w →
      wpAnyE P ops Q E fuel (listed.setIfInBounds i true) (a.put oi.dst v) w → wpAnyE P ops Q E (fuel + 1) listed a w := by
    intro fuel
    induction fuel with
    | zero =>
      intro listed a w _ _ hr hy hS H
      refine ⟨fun h => (by rw [h] at hr; cases hr), fun j hj => ?_⟩
      by_cases hji : j = i
      · subst hji
        exact hy.wpOp hi hS ⟨hE w, H⟩
      · have hm := ready_mono hj hji
        rw [H.1] at hm
        cases hm
    | succ fuel ih =>
      intro listed a w hcl hfree hr hy hS H
      refine ⟨fun h => (by rw [h] at hr; cases hr), fun j hj => ?_⟩
      by_cases hji : j = i
      · subst hji
        exact hy.wpOp hi hS ⟨hE w, H⟩
      · obtain ⟨hjun, oj, hoj, hall⟩ := mem_ready.1 hj
        have hun : listed.getD i true = false := (mem_ready.1 hr).1
        have hun' : listed.getD i false = false := by
          rcases Nat.lt_or_ge i listed.size with h' | h'
          · simp [h'] at hun ⊢; exact hun
          · simp [Array.getElem?_eq_none h']
        have hnot : ∀ e ∈ oj.after, Region.binds .any e = true → e.on ≠ i := by
          intro e he hb heq
          have h1 := hall e he hb
          rw [heq, hun'] at h1
          cases h1
        have hre : reachB ops N i j = false := by
          cases hf : reachB ops N i j with
          | false => rfl
          | true =>
            have := reach_listed hcl N j oj hoj hall hf
            rw [hun'] at this
            cases this
        have h2 := wpOp_putIf hoj (hfree j oj hoj hji hjun hnot) (fun cs b => Region.noSelect_spec hsel i oi cs b hi) (fun cs b => Region.noSelect_spec hsel j oj cs b hoj) hQ hy (H.2 j (ready_mono hj hji))
        have hfree' : ∀ k ok, ops[k]? = some ok → k ≠ i → (listed.setIfInBounds j true).getD k true = false →
            (∀ e ∈ ok.after, Region.binds .any e = true → e.on ≠ i) → oi.apart ops ok = true := fun k ok hk hki hku hno => by
          refine hfree k ok hk hki ?_ hno
          by_cases hjk : j = k
          · subst hjk; exact hjun
          · rw [getD_set_ne true hjk] at hku; exact hku
        refine wpOp_mono (fun a' w' h3 => ⟨h3.2.1, ih (listed.setIfInBounds j true) a' w' (hcl.set hj) hfree' (ready_mono hr (Ne.symm hji)) h3.1 (hpres j hre w w' hS h3.2.1) ?_⟩) h2
        rw [Array.setIfInBounds_comm _ _ hji]
        exact h3.2.2
  intro fuel listed a w hcl hf hr hy hS H
  exact core fuel listed a w hcl (Region.free_spec hi hf) hr hy hS H

/-- may these be taken next, in this order? what may come before any of them is among 'js' -/
def takesEB (ops : Array Oper) (js : List Nat) : List Nat → Array Bool → Bool
  | [], _ => true
  | k :: r, listed => (Region.ready .any ops listed).contains k && Region.free .any ops listed k && plainOp ops k && ((List.range ops.size).all fun j => reachB ops ops.size k j || js.contains j) && takesEB ops js r (listed.setIfInBounds k true)
theorem reach_out {i j : Nat} (h : ops.size ≤ j) : ∀ n, reachB ops n i j = false
  | 0 => rfl
  | n + 1 => by simp [reachB, Array.getElem?_eq_none h]

theorem takesE {S : World → Prop} (hsel : Region.noSelect ops = true) {js : List Nat} (hE : ∀ k, js.contains k = true → ∀ w w', S w → E k w w' → S w') (hout : ∀ k, ops.size ≤ k → ∀ w w', S w → E k w w' → S w') {K : Act → Prop} : ∀ (l : List Nat) (n : Nat) (listed : Array Bool) (a : Act) (w : World), (∀ k ∈ l, ∀ w, E k w w) → Closed ops listed → S w → takesEB ops js l listed = true →
    (∀ a', Closed ops (marked l listed) → K a' → wpAnyE P ops (normalOnly Q) E n (marked l listed) a' w) → wpQuiet P ops S K (opsOf ops l) a → wpAnyE P ops (normalOnly Q) E (l.length + n) listed a w
  | [], n, listed, a, w, _, hcl, hS, hB, hK, h => by
    simp only [List.length_nil, Nat.zero_add]
    exact hK a hcl (by simpa [opsOf, wpQuiet] using h)
  | k :: r, n, listed, a, w, hr0, hcl, hS, hB, hK, h => by
    simp only [takesEB, Bool.and_eq_true] at hB
    obtain ⟨⟨⟨⟨hr, hf⟩, hp⟩, hre⟩, hB'⟩ := hB
    have hkr : k ∈ Region.ready .any ops listed := by simpa using hr
    obtain ⟨o, ho⟩ := op_of_ready (ops := ops) hkr
    have e : opsOf ops (k :: r) = o :: opsOf ops r := by simp [opsOf, consOp, ho]
    rw [e] at h
    rw [show (k :: r).length + n = (r.length + n) + 1 by simp; omega]
    obtain ⟨v, hy, hrest⟩ : ∃ v, YieldsIf P ops S o v a ∧ wpQuiet P ops S K (opsOf ops r) (a.put o.dst v) := by
      unfold wpQuiet at h
      by_cases hw : Region.wanted o (yielded ops a.tmps) = true
      · rw [if_pos hw] at h
        obtain ⟨v, h1, h2⟩ := h
        refine ⟨v, .inl ⟨hw, fun W hW => ?_⟩, h2⟩
        have h3 := h1 W hW
        unfold Oper.quietAt at h3
        cases hrun : (execOp a.eval o).run P W with
        | ok x W' =>
          rw [hrun] at h3
          cases x <;> simp only [Oper.quietUpon] at h3
          case value u => rw [h3.1, h3.2]
          case skip => exact absurd hrun (plain_not_enter ho hp a.eval W 0 #[] W').2
          case enter f args => exact absurd hrun (plain_not_enter ho hp a.eval W f args W').1
        | halt x W' => rw [hrun] at h3; simp only [Oper.quietUpon] at h3
      · rw [if_neg hw] at h
        exact ⟨undef, .inr ⟨by simpa using hw, rfl⟩, h⟩
    refine wpAnyE_first ops.size ho hsel (fun _ _ _ h => h) (hr0 k (List.mem_cons_self ..)) (fun j hj => ?_) _ listed a w hcl hf hkr hy hS (takesE hsel hE hout r n _ _ w (fun x hx => hr0 x (List.mem_cons_of_mem _ hx)) (hcl.set hkr) hS hB' hK hrest)
    rcases Nat.lt_or_ge j ops.size with hjs | hjs
    · have := List.all_eq_true.1 hre j (by simpa using hjs)
      rw [hj, Bool.false_or] at this
      exact hE j this
    · exact hout j hjs

/-- the region: what E asks -/
theorem wp_region_E {id : Nat} {l : List Oper} {a : Act} {w : World} (hm : P.follows .mixedOrders = true) (h : Closed l.toArray (Array.replicate l.toArray.size false) → wpAnyE P l.toArray (normalOnly Q) E l.toArray.size (Array.replicate l.toArray.size false) a w.drew) : (Code.region id l.toArray true).wp P Q a w := by
  have hq : (Code.region id l.toArray true).wp P (normalOnly Q) a w := wp_region_any hm (wpAny_of_E _ _ _ _ (h (closed_none _ _)))
  exact Go.wp_mono hq fun e a w hq => by cases e <;> first | exact hq | exact hq.elim
/-- some that only read come next -/
theorem anyE_take {l : List Oper} {a : Act} {w : World} {listed : Array Bool} {m : Nat} (pre js : List Nat) (S : World → Prop) (n : Nat) (l1 : List Oper) (hcl : Closed l.toArray listed)
    (hB : (takesEB l.toArray js pre listed && Region.noSelect l.toArray && decide (m = pre.length + n)) = true) (h1 : opsOf l.toArray pre = l1) (hS : S w)
    (hr : ∀ k ∈ pre, ∀ w, E k w w) (hE : ∀ k, js.contains k = true ∨ l.toArray.size ≤ k → ∀ w w', S w → E k w w' → S w')
    (h : ∀ (ι : Type) [Inhabited ι] (f : ι → World), (∀ p, S (f p)) → wpQuiet P l.toArray (fun W => ∃ p, W = f p) (fun a' => Closed l.toArray (marked pre listed) → wpAnyE P l.toArray (normalOnly Q) E n (marked pre listed) a' w) l1 a) : wpAnyE P l.toArray (normalOnly Q) E m listed a w := by
  simp only [Bool.and_eq_true, decide_eq_true_eq] at hB
  obtain ⟨⟨hB, hsel⟩, rfl⟩ := hB
  have hC : (fun W => ∃ p : {W : World // S W}, W = p.1) = S := by
    funext W
    exact propext ⟨fun ⟨p, hp⟩ => hp ▸ p.2, fun hW => ⟨⟨W, hW⟩, rfl⟩⟩
  have h' := @h {W : World // S W} ⟨⟨_, hS⟩⟩ (fun p => p.1) (fun p => p.2)
  rw [hC, ← h1] at h'
  exact takesE hsel (fun k hk => hE k (.inl hk)) (fun k hk => hE k (.inr hk)) pre n listed a w hr hcl hS hB (fun a' hc hK => hK hc) h'
/-- the one that must come next -/
theorem anyE_one {listed : Array Bool} {a : Act} {w : World} {n k : Nat} {o : Oper} (hr : (Region.ready .any ops listed == [k]) = true) (ho : ops[k]? = some o) (hcl : Closed ops listed)
    (h : wpList P ops (fun e a' w' => e = .normal ∧ E k w w' ∧ (Closed ops (listed.setIfInBounds k true) → wpAnyE P ops (normalOnly Q) E n (listed.setIfInBounds k true) a' w')) [o] a w) :
    wpAnyE P ops (normalOnly Q) E (n + 1) listed a w := by
  have hr' : Region.ready .any ops listed = [k] := by simpa using hr
  refine ⟨fun h0 => (by rw [h0] at hr'; cases hr'), fun i hi => ?_⟩
  rw [hr'] at hi
  obtain rfl := List.mem_singleton.1 hi
  have hcl' := hcl.set (j := i) (by rw [hr']; exact List.mem_singleton_self i)
  exact wpOp_mono (fun a' w' h' => ⟨h'.1, h'.2 hcl'⟩) (wpOp_of_list ho h)
theorem anyE_done {listed : Array Bool} {a : Act} {w : World} (hr : (Region.ready .any ops listed).isEmpty = true) (h : Q .normal a w) : wpAnyE P ops (normalOnly Q) E 0 listed a w := ⟨by simpa using hr, h⟩
end
end Go.Proofs.Ytcoelhpmkhimpaa

namespace Go.Proofs.Ytcoelhpmkhimpaa
open Go.RowKit
set_option linter.unusedVariables false
set_option linter.unusedSimpArgs false
attribute [local go_sem] Oper.semAt_some
def otherN (i : Nat) (pre : List Nat) : Nat := (pre.filter (fun x => !(x == i))).length
theorem otherN_same (i : Nat) (pre : List Nat) : otherN i (pre ++ [i]) = otherN i pre := by simp [otherN]
theorem otherN_more {i x : Nat} (h : x ≠ i) (pre : List Nat) : otherN i (pre ++ [x]) = otherN i pre + 1 := by simp [otherN, h]
theorem otherN_le (i : Nat) (pre : List Nat) : otherN i pre ≤ pre.length := List.length_filter_le _ _
theorem otherN_line {l : List Animal} (h : HerdOk l) {i : Nat} (hi : i < l.length) : otherN i (lineOf l i) + 1 = (lineOf l i).length := by
  have hL := h.lineIs hi
  have hn := hL.nodup
  generalize lineOf l i = L at *
  have key : ∀ r : List Nat, i ∉ r → otherN i (i :: r) + 1 = (i :: r).length := fun r hr => by
    have : r.filter (fun x => !(x == i)) = r := by
      rw [List.filter_eq_self]
      intro a ha
      have : a ≠ i := fun e => hr (e ▸ ha)
      simp [this]
    simp [otherN, this]
  cases hL with
  | root => exact key [] (by simp)
  | step h' t => exact key _ (List.nodup_cons.1 hn).1
/-- what the loop holds: so many numbers in a slice of its own -/
structure LnI (w : World) (hb i n : Nat) (X : World) : Prop where
  size : w.heap.size + 1 + 1 + 1 + 1 + 1 ≤ X.heap.size
  ext : Ext w X
  b6 : X.heap[w.heap.size]? = some (.cells #[.pointer (some ⟨hb, 0, none⟩)] 134 (0, 0))
  b8 : X.heap[w.heap.size + 1]? = some (.cells #[.int .i64 (i : Int)] 3 (0, 0))
  all : ∃ v ids, X.heap[w.heap.size + 1 + 1]? = some (.cells #[v] 34 (0, 0)) ∧ ids.length = n ∧ Owns X (w.heap.size + 1 + 1 + 1 + 1 + 1) 3 1 v (intRows .i64 ids)
theorem LnI.f {w A B : World} {hb i n : Nat} (h : LnI w hb i n A) (k : ButF (fun q => q = w.heap.size + 1 + 1 + 1 + 1) (w.heap.size + 1 + 1 + 1 + 1 + 1) A B) : LnI w hb i n B := by
  obtain ⟨v, ids, h1, h2, h3⟩ := h.all
  exact ⟨Nat.le_trans h.size k.size, ButF.ext h.ext k (fun b e => by have : b = w.heap.size + 1 + 1 + 1 + 1 := e; omega) (by omega), k.cells h.b6 (fun e => by have : w.heap.size = w.heap.size + 1 + 1 + 1 + 1 := e; omega), k.cells h.b8 (fun e => by have : w.heap.size + 1 = w.heap.size + 1 + 1 + 1 + 1 := e; omega), v, ids, k.cells h1 (fun e => by have : w.heap.size + 1 + 1 = w.heap.size + 1 + 1 + 1 + 1 := e; omega), h2,
    h3.butFI k fun b hb e => by have := (h3.lt b hb).1; have : b = w.heap.size + 1 + 1 + 1 + 1 := e; omega⟩
/-- a turn of the loop -/
theorem LnI.next {w X V : World} {hb i n : Nat} {v v' : Value} {ids ids' : List Int} (h : LnI w hb i n X) (hv : X.heap[w.heap.size + 1 + 1]? = some (.cells #[v] 34 (0, 0))) (ho : Owns X (w.heap.size + 1 + 1 + 1 + 1 + 1) 3 1 v (intRows .i64 ids)) (hb' : But (fun b => v.ownBlock = some b) X V) (hl' : ids'.length = n + 1) (ho' : Owns V (w.heap.size + 1 + 1 + 1 + 1 + 1) 3 1 v' (intRows .i64 ids')) :
    KeepsOthers X (V.setCell ⟨w.heap.size + 1 + 1, 0, none⟩ v') ∧ KpO (fun b => b = w.heap.size + 1 + 1 ∨ w.heap.size + 1 + 1 + 1 + 1 + 1 ≤ b) X (V.setCell ⟨w.heap.size + 1 + 1, 0, none⟩ v') ∧ LnI w hb i (n + 1) (V.setCell ⟨w.heap.size + 1 + 1, 0, none⟩ v') := by
  have hlt := fun b e => ho.lt b e
  have k1 : KeepsOthers X V := ⟨hb'.size, fun b o hk hc => hb'.block b o hk fun e => by
    have e : v.ownBlock = some b := e
    rcases ho.1.2 with q | ⟨g, cap, cur, e1, e2, e3, e4⟩
    · rcases q with ⟨rfl, _⟩
      cases e
    · rw [e1] at e
      cases e
      rw [e3] at hk
      cases hk
      cases hc⟩
  have kp : ∀ b o, X.heap[b]? = some o → b < w.heap.size + 1 + 1 → (V.setCell ⟨w.heap.size + 1 + 1, 0, none⟩ v').heap[b]? = some o := fun b o h1 h2 => (Below.heap_setCell _ _ _ _ (by simp only; omega)).trans (hb'.block b o h1 fun e => by have := (hlt b e).1; omega)
  have hc2 := hb'.block _ _ hv (fun e => by have := (hlt _ e).1; omega)
  refine ⟨k1.trans (KeepsOthers.setCell _ _ _), ⟨by simp only [World.setCell]; have := hb'.size; simpa using this, fun b o hk hc hn => ?_⟩, ⟨by simp only [World.setCell]; have := hb'.size; have := h.size; simp; omega, (But.ext h.ext hb' fun b e => by have := (hlt b e).1; omega).setCell (p := ⟨w.heap.size + 1 + 1, 0, none⟩) (by simp only; omega) _, kp _ _ h.b6 (by omega), kp _ _ h.b8 (by omega), v', ids', ?_, hl', owns_setO ho' (by omega)⟩⟩
  · have hn : ¬(b = w.heap.size + 1 + 1 ∨ w.heap.size + 1 + 1 + 1 + 1 + 1 ≤ b) := hn
    exact (Below.heap_setCell _ _ _ _ (by simp only; omega)).trans (hb'.block b o hk fun e => by have := (hlt b e).1; omega)
  · rw [heap_setCell_box, hc2]
    rfl
def LinePost (n : Nat) (w : World) (e : Ending) (w' : World) : Prop := ∃ a c, e = .returned (.tuple #[.slice a n c, .int .i64 0]) ∧ n ≤ c ∧ c ≤ maxLen ∧ Ext w w'
def E11 (ob : Option Nat) (k : Nat) (w w' : World) : Prop := k ≠ 11 → But (fun b => ob = some b) w w'
theorem E11.read (ob : Option Nat) (k : Nat) (w : World) : E11 ob k w w := fun _ => But.refl _ _
theorem E11.keep {ob : Option Nat} {k : Nat} {w0 w w' : World} (hk : ([0, 1, 2, 3, 4, 5, 6, 7, 8, 9] : List Nat).contains k = true ∨ 12 ≤ k) (hS : But (fun b => ob = some b) w0 w) (h : E11 ob k w w') : But (fun b => ob = some b) w0 w' :=
  hS.trans (h (by rintro rfl; rcases hk with h | h <;> simp at h))
theorem wpIn_region_EI {P : Program} {E : Nat → World → World → Prop} {Q : Exit → Act → World → Prop} {l id : Nat} {l0 : List Oper} {a : Act} {w : World} (hm : P.follows .mixedOrders = true) (hd : l0.toArray.all noDefer = true) (h : Closed l0.toArray (Array.replicate l0.toArray.size false) → wpAnyE P l0.toArray (normalOnly Q) E l0.toArray.size (Array.replicate l0.toArray.size false) a w.drew) : (Code.region id l0.toArray true).wpIn (Fence.wide.inRound l) 0 P Q a w := by
  have key := wpAny_of_E _ _ _ _ (h (closed_none _ _))
  have key2 := wpAnyIn_of_wpAny (l := l) hd (fun ⟨_, _, e⟩ => e) _ _ _ _ key
  exact wpIn_mono (wpIn_region_any (Q := normalOnly Q) hm key2) fun e a w hq => by cases e <;> first | exact hq | exact hq.elim
theorem But.cellI {O : Nat → Prop} {A B : World} (h : But O A B) {x : Addr} {v : Value} (hc : A.cell? x = some v) (hn : ¬O x.block) : B.cell? x = some v := by
  obtain ⟨o, ho, _⟩ := cells_of_cell hc
  exact (World.cell?_of_block ((h.block _ o ho hn).trans ho.symm)).trans hc
set_option maxRecDepth 100000 in
set_option maxHeartbeats 4000000 in
theorem line23_any {w : World} {a : Option Addr} {c : Nat} {l : List Animal} (hok : HerdOk l) (hla : AnimalsAt w a l.length l) (hcc : l.length ≤ c ∧ c ≤ maxLen) {id : Int} {i : Nat} (hid : placeOf l id = some i) :
    Calls Try.prog 23 #[.slice a l.length c, .int .i64 id] w (LinePost ((lineOf l i).length - 1) w) := by
  have hlen := hok.len
  have hi := placeOf_lt hid
  have hop := openH_any hok hla hcc
  have hlk := fun (V : World) (mp : Nat) (h : OMapIs V mp (placeV l)) => (run_lookup_int (P := Try.prog) h Try.underlying138 Try.underlying3 (z := .int .i64 0) (by kernel_rfl) id).1
  have e1 : (placeV l id).getD (.int .i64 0) = .int .i64 (i : Int) := by unfold placeV; rw [hid]; rfl
  have e2 : (placeV l id).isSome = true := by unfold placeV; rw [hid]; rfl
  rw [e1, e2] at hlk
  have hcnt := otherN_line hok hi
  clear hid e1 e2 hla
  have Hop := Lib.hid hop
  have Hlk := Lib.hid hlk
  have Hcnt := Lib.hid hcnt
  clear hop hlk hcnt
  refine (callsIn_wide (n := 2)).1 ?_
  refine callsIn_of_wp_marks Try.func23 rfl trivial ?_ rfl
  simp only [Try.ntmps23, List.size_toArray, List.length_cons, List.length_nil, Nat.reduceAdd, Nat.reduceSub, Array.replicate_succ, Array.replicate_zero, List.push_toArray, List.append_toArray, List.nil_append, List.cons_append]
  refine wpIn_wide.2 ?_
  go_upto_region 4 with (go_at_call 62; refine Hop.out.mono ?_; rintro e w1 ⟨hb, rfl, hhd, hx1⟩)
  obtain ⟨a', c', mp, ma, mc, v, hin, _, _⟩ := hhd
  have hin2 := hin.ext ((Ext.refl w1).alloc (.cells #[.pointer (some ⟨hb, 0, none⟩)] 134))
  have hl2 := Hlk.out _ mp hin2.map
  obtain ⟨y0, _⟩ := (Ext.refl _).box hin2.box
  have hhb := heap_lt hin.box
  have Hin := Lib.hid hin
  clear hin
  clear hin2 Hlk Hop
  go_upto_region 8 with fail
  clear hl2 y0
  go_wp2_with (go_at_call 63; refine (line_any hb (i : Int) _).mono ?_; rintro e w3 ⟨rfl, rfl⟩)
  have hx4 : Ext w1 (((((w1.alloc (.cells #[.pointer (some ⟨hb, 0, none⟩)] 134)).alloc (.cells #[.int .i64 i] 3)).alloc (.cells #[.slice none 0 0] 34)).alloc (.cells #[.pointer (some ⟨hb, 0, none⟩)] 134)).alloc (.cells #[.int .i64 i] 3)) := (((((Ext.refl w1).alloc _).alloc _).alloc _).alloc _).alloc _
  have g6 : (((((w1.alloc (.cells #[.pointer (some ⟨hb, 0, none⟩)] 134)).alloc (.cells #[.int .i64 i] 3)).alloc (.cells #[.slice none 0 0] 34)).alloc (.cells #[.pointer (some ⟨hb, 0, none⟩)] 134)).alloc (.cells #[.int .i64 i] 3)).heap[w1.heap.size]? = some (.cells #[.pointer (some ⟨hb, 0, none⟩)] 134 (0, 0)) := (((((Ext.refl _).alloc _).alloc _).alloc _).alloc _).heap (heap_alloc_new w1 _)
  have g8 : (((((w1.alloc (.cells #[.pointer (some ⟨hb, 0, none⟩)] 134)).alloc (.cells #[.int .i64 i] 3)).alloc (.cells #[.slice none 0 0] 34)).alloc (.cells #[.pointer (some ⟨hb, 0, none⟩)] 134)).alloc (.cells #[.int .i64 i] 3)).heap[w1.heap.size + 1]? = some (.cells #[.int .i64 i] 3 (0, 0)) := ((((Ext.refl _).alloc _).alloc _).alloc _).heap (alloc_at _ _ _ (by simp))
  have g10 : (((((w1.alloc (.cells #[.pointer (some ⟨hb, 0, none⟩)] 134)).alloc (.cells #[.int .i64 i] 3)).alloc (.cells #[.slice none 0 0] 34)).alloc (.cells #[.pointer (some ⟨hb, 0, none⟩)] 134)).alloc (.cells #[.int .i64 i] 3)).heap[w1.heap.size + 1 + 1]? = some (.cells #[.slice none 0 0] 34 (0, 0)) := (((Ext.refl _).alloc _).alloc _).heap (alloc_at _ _ _ (by simp))
  have gh : (((((w1.alloc (.cells #[.pointer (some ⟨hb, 0, none⟩)] 134)).alloc (.cells #[.int .i64 i] 3)).alloc (.cells #[.slice none 0 0] 34)).alloc (.cells #[.pointer (some ⟨hb, 0, none⟩)] 134)).alloc (.cells #[.int .i64 i] 3)).heap[w1.heap.size + 1 + 1 + 1]? = some (.cells #[.pointer (some ⟨hb, 0, none⟩)] 134 (0, 0)) := ((Ext.refl _).alloc _).heap (alloc_at _ _ _ (by simp))
  have gi : (((((w1.alloc (.cells #[.pointer (some ⟨hb, 0, none⟩)] 134)).alloc (.cells #[.int .i64 i] 3)).alloc (.cells #[.slice none 0 0] 34)).alloc (.cells #[.pointer (some ⟨hb, 0, none⟩)] 134)).alloc (.cells #[.int .i64 i] 3)).heap[w1.heap.size + 1 + 1 + 1 + 1]? = some (.cells #[.int .i64 i] 3 (0, 0)) := alloc_at _ _ _ (by simp)
  have hsz : (((((w1.alloc (.cells #[.pointer (some ⟨hb, 0, none⟩)] 134)).alloc (.cells #[.int .i64 i] 3)).alloc (.cells #[.slice none 0 0] 34)).alloc (.cells #[.pointer (some ⟨hb, 0, none⟩)] 134)).alloc (.cells #[.int .i64 i] 3)).heap.size = w1.heap.size + 1 + 1 + 1 + 1 + 1 := by simp
  generalize ((((w1.alloc (.cells #[.pointer (some ⟨hb, 0, none⟩)] 134)).alloc (.cells #[.int .i64 i] 3)).alloc (.cells #[.slice none 0 0] 34)).alloc (.cells #[.pointer (some ⟨hb, 0, none⟩)] 134)).alloc (.cells #[.int .i64 i] 3) = W4 at *
  have hma : ∀ x, ma = some x → x.block < w1.heap.size := fun x hx => by
    obtain ⟨b5, o5, _, e5, _, hl5, _⟩ := Hin.out.moms.get 0 (by omega)
    rw [hx] at e5
    cases e5
    exact hl5
  have hin4 := Hin.out.ext hx4
  have hsq := line_stopsF 1 (w1.heap.size + 1 + 1 + 1 + 1) (w1.heap.size + 1 + 1 + 1) hb mp a' ma l.length c' mc v l hok i hi (fun b => b = w1.heap.size + 1 + 1 ∨ w1.heap.size + 1 + 1 + 1 + 1 + 1 ≤ b) W4 gi gh hin4.box hin4.moms hin4.mcap.1 hin4.mcap.2 (by omega) (by omega) (by omega) (fun x hx => by have := hma x hx; omega) ⟨by omega, by omega, fun x hx => by have := hma x hx; omega⟩
  have hL := (hok.lineIs hi).len hi
  have hst : LnI w1 hb i 0 W4 := ⟨by omega, hx4, g6, g8, _, [], g10, rfl, Owns.nil _ _ _ _⟩
  clear hin4 g6 g8 g10 gh gi
  have Hsq := Lib.hid hsq
  have Hst := Lib.hid hst
  have Hx4 := Lib.hid hx4
  clear hsq hst hx4
  refine (wpIn_wide (n := 2)).1 (wpIn_rangeFunc_but rfl (by omega) (gf := 110) (lb := #[.pointer (some ⟨w1.heap.size + 1 + 1 + 1 + 1, 0, none⟩), .pointer (some ⟨w1.heap.size + 1 + 1 + 1, 0, none⟩)]) rfl trivial (enters_of Try.func110 (by kernel_rfl) rfl) Hsq.out kpO_t kpO_b (Ext.refl _) (fun b hb => by have : b = w1.heap.size + 1 + 1 + 1 + 1 := hb; omega) (fun _ => rfl)
    (fun (pre : List {x : Nat // x < l.length}) X => LnI w1 hb i (otherN i (pre.map (·.1))) X) (fun _ _ _ => False)
    (fun (q : List {x : Nat // x < l.length}) A B h k => LnI.f (n := otherN i (q.map (·.1))) h (by rw [hsz] at k; exact k))
    (fun c q A B h k => h.elim)
    Hst.out ?a1 ?assign ?body ?done ?stop)
  case assign =>
    intro y x X K hK
    gi_wp2
    simp [natEnc]
    exact hK
  case body =>
    rintro y pre0 ⟨x, hxm⟩ X hI hpre
    obtain ⟨pre, hpre0⟩ : ∃ pre, pre0.map (·.1) = pre := ⟨_, rfl⟩
    have hpl : pre0.length = pre.length := by rw [← hpre0]; simp
    have hfin : (pre0 ++ [(⟨x, hxm⟩ : {x : Nat // x < l.length})]).map (·.1) = pre ++ [x] := by rw [← hpre0]; simp
    rw [hpl] at hpre
    have hI : LnI w1 hb i (otherN i pre) X := by rw [← hpre0]; exact hI
    clear hpre0
    obtain ⟨y8, z8⟩ := (Ext.refl X).box hI.b8
    by_cases hxi : x = i
    · subst hxi
      have hB : ((x : Int) != (x : Int)) = false := by simp
      have hn := otherN_same x pre
      have HI := Lib.hid hI
      have Hfin := Lib.hid hfin
      have Hn := Lib.hid hn
      clear hI hfin hn
      gi_wp2
      exact ⟨KeepsOthers.refl _, KpO.refl _ _, by show LnI w1 hb x (otherN x ((pre0 ++ [(⟨x, hxm⟩ : {x : Nat // x < l.length})]).map (·.1))) X; rw [Hfin.out, Hn.out]; exact HI.out⟩
    · have hB : ((x : Int) != (i : Int)) = true := by simp; omega
      have hn := otherN_more hxi pre
      have hnle := otherN_le i pre
      obtain ⟨N, hN⟩ : ∃ N, otherN i pre = N := ⟨_, rfl⟩
      rw [hN] at hn hnle hI
      obtain ⟨v0, ids, hv, hil, ho⟩ := hI.all
      obtain ⟨va, vc, rfl, _, _, _, _⟩ := ints_of_owns ho
      rw [hil] at hv ho
      have hinX := Hin.out.ext hI.ext
      obtain ⟨b, off, z, ka, kn, kc, rfl, hxk, hbs, c0, c1, c2, c3, c4, q1, q2, hm⟩ := hinX.animals.get x hxm
      have hb6 := hI.b6
      have hbx := hinX.box
      have hnv : ∀ q, q < w1.heap.size + 1 + 1 + 1 + 1 + 1 → ¬((Value.slice va N vc).ownBlock = some q) := fun q hq e => by have := (ho.lt q e).1; omega
      have hrl : (intRows .i64 ids).length = N := by simp [intRows, hil]
      have hbB : b < w1.heap.size := by
        obtain ⟨b2, off2, _, _, _, _, e2, _, hb2, _⟩ := Hin.out.animals.get x hxm
        cases e2
        exact hb2
      clear hm hinX hxk c1 c2 c3 c4
      have HI := Lib.hid hI
      have Hfin := Lib.hid hfin
      have Hn := Lib.hid hn
      have Hv := Lib.hid hv
      have Ho := Lib.hid ho
      have C0 := Lib.hid c0
      have Hb6 := Lib.hid hb6
      have Hbx := Lib.hid hbx
      have Hnv := Lib.hid hnv
      have Hrl := Lib.hid hrl
      clear hI hfin hn hv ho c0 hb6 hbx hnv hrl
      gi_wp2
      have hS1 : But (fun q => (Value.slice va N vc).ownBlock = some q) X X.drew := ((Ext.refl X).drew).but _
      refine wpIn_region_EI (E := E11 (Value.slice va N vc).ownBlock) (by kernel_rfl) (by kernel_rfl) (fun hcl => ?_)
      refine anyE_take [0, 1, 2, 3, 4, 5, 6, 7, 8] [0, 1, 2, 3, 4, 5, 6, 7, 8, 9] (But (fun q => (Value.slice va N vc).ownBlock = some q) X) 3 _ hcl (by kernel_rfl) rfl hS1 (fun k hk w => E11.read _ k w) (fun k hk w w' hS h => E11.keep hk hS h) ?_
      clear hS1
      intro ι _ f hf
      have f0 := fun q => ((hf q).boxI Hv.out (Hnv.out _ (by omega))).1
      have f1 := fun q => ((hf q).boxI Hb6.out (Hnv.out _ (by omega))).1
      have f2 := fun q => ((hf q).boxI Hbx.out (Hnv.out _ (by omega))).1
      have f3 := fun q => (hf q).cellI C0.out (Hnv.out b (by omega))
      clear hf
      simp only [opsOf, consOp, List.getElem?_toArray, List.getElem?_cons_succ, List.getElem?_cons_zero]
      repeat (go_big_quiet_step (fail))
      refine wpQuiet_nil ?_
      clear f0 f1 f2 f3 hcl
      intro hcl
      refine anyE_one (k := 9) (by kernel_rfl) (by simp only [List.getElem?_toArray, List.getElem?_cons_succ, List.getElem?_cons_zero]; rfl) hcl ?_
      clear hcl
      go_wp2_with fail
      have hx3 : Ext X (X.alloc (.cells #[.int .i64 z.id] 3)).drew := ((Ext.refl X).alloc _).drew
      refine ⟨fun _ => ((Ext.refl X.drew).alloc _).but _, fun hcl => ?_⟩
      refine anyE_one (k := 10) (by kernel_rfl) (by simp only [List.getElem?_toArray, List.getElem?_cons_succ, List.getElem?_cons_zero]; rfl) hcl ?_
      clear hcl
      have hl6 : (ids ++ [z.id]).length = N + 1 := by rw [List.length_append, hil]; rfl
      have Hl6 := Lib.hid hl6
      clear hl6
      go_wp2_with (at_builtin; refine wpList_app elemI34 _ rfl (.tmp 38) (.tmp 47) rfl (w1.heap.size + 1 + 1 + 1 + 1 + 1) (.slice va N vc) (intRows .i64 ids) rfl (Ho.out.ext hx3) (some ⟨X.heap.size, 0, none⟩) 1 1 (intRows .i64 [z.id]) rfl rfl ((one_int X z.id 3).ext (Ext.refl _).drew) (intRows_row _ _) (by rw [Hrl.out]; omega) (by have := HI.out.size; have := hx3.size; omega) ?_; intro v8 w8 ho8 hg8 _; rw [← intRows_append] at ho8; obtain ⟨a8, c8, e8, _, _, _, _⟩ := ints_of_owns ho8; rw [Hl6.out] at e8; subst e8)
      have hb8 := (hx3.but (fun q => (Value.slice va N vc).ownBlock = some q)).trans (but_grownI hg8)
      have h68 := hb8.block _ _ Hv.out (Hnv.out _ (by omega))
      obtain ⟨y0, y1⟩ := (Ext.refl w8).box h68
      have hlt8 := heap_lt h68
      refine ⟨fun _ => but_grownI hg8, fun hcl => ?_⟩
      have hfi := HI.out.next Hv.out Ho.out hb8 Hl6.out ho8
      have Hfi := Lib.hid hfi
      clear hfi
      clear hg8 hb8 h68 ho8 hx3
      refine anyE_one (k := 11) (by kernel_rfl) (by simp only [List.getElem?_toArray, List.getElem?_cons_succ, List.getElem?_cons_zero]; rfl) hcl ?_
      clear hcl
      go_wp2_with fail
      refine ⟨fun h => absurd rfl h, fun hcl => ?_⟩
      refine anyE_done (by kernel_rfl) ?_
      show KeepsOthers _ _ ∧ KpO _ _ _ ∧ LnI w1 hb i (otherN i ((pre0 ++ [(⟨x, hxm⟩ : {x : Nat // x < l.length})]).map (·.1))) _
      refine ⟨Hfi.out.1, Hfi.out.2.1, ?_⟩
      rw [Hfin.out, Hn.out]
      exact Hfi.out.2.2
  case done =>
    intro D xs0 X hD hxs hI hK
    obtain ⟨v0, ids, h1, hil, h2⟩ := hI.all
    obtain ⟨va, vc, rfl, f1, f2, f3, f4⟩ := ints_of_owns h2
    have hxs : xs0.map (·.1) = lineOf l i := hxs
    rw [hxs] at hil
    have hil : ids.length = (lineOf l i).length - 1 := by have := Hcnt.out; omega
    rw [hil] at h1 f2
    obtain ⟨y0, y1⟩ := (Ext.refl X).box h1
    have hh : Hung (w.heap.size) [{ target := .collected D, args := #[] }] X := ⟨⟨D, rfl, by have := hx1.size; omega, hK, by simp⟩, trivial⟩
    have hxX := hx1.trans hI.ext
    have Hh := Lib.hid hh
    have HxX := Lib.hid hxX
    clear hh hxX
    clear hI h1 h2 hK f4 f1
    go_wp2_with fail
    refine marks_rets Hh.out fun w' ht => ?_
    exact ⟨.tuple #[.slice va ((lineOf l i).length - 1) vc, .int .i64 0], by simp [results, Try.f23, go_sem], va, vc, rfl, f2, f3, ht.ext HxX.out (Nat.le_refl _)⟩
  case stop =>
    intro D c pre X _ _ h
    exact h.elim
end Go.Proofs.Ytcoelhpmkhimpaa

namespace Go.Proofs.Ytcoelhpmkhimpaa
open Go.RowKit
set_option linter.unusedVariables false
set_option linter.unusedSimpArgs false
attribute [local go_sem] Oper.semAt_some
theorem idx_nats {L : List Nat} {x : Nat} : idxOf (natsI L) (x : Int) = match L.findIdx? (· == x) with | some d => (d : Int) | none => -1 := by
  unfold idxOf natsI
  rw [List.findIdx?_map]
  have e : ((fun y => (x : Int) == y) ∘ fun (z : Nat) => (z : Int)) = fun z : Nat => z == x := by
    funext z
    by_cases h : z = x
    · simp [h]
    · have h' : ¬((x : Int) = (z : Int)) := fun e => h (by omega)
      have b1 : ((x : Int) == (z : Int)) = false := by simpa using h'
      have b2 : (z == x) = false := by simpa using h
      show ((x : Int) == (z : Int)) = (z == x)
      rw [b1, b2]
  rw [e]
  try (cases L.findIdx? (fun z => z == x) <;> rfl)
theorem set_same {W : World} {b : Nat} {v : Value} {t : TypeId} (h : W.heap[b]? = some (.cells #[v] t (0, 0))) : Ext W (W.setCell ⟨b, 0, none⟩ v) :=
  But.ext (Ext.refl W) (O := fun _ => False) ⟨rfl, rfl, rfl, by simp [World.setCell], fun k o hk _ => by
    by_cases e : k = b
    · subst e
      rw [heap_setCell_box, h]
      rw [h] at hk
      exact hk
    · exact (Below.heap_setCell _ _ _ _ (by simp only; omega)).trans hk⟩ (fun _ h => h.elim)
theorem kinF_pre {T : List Nat} {r : List Nat} : ∀ (pre : List Nat) (k : Nat), (∀ y ∈ pre, T.findIdx? (· == y) = none) → kinF T (pre ++ r) k = kinF T r (k + pre.length)
  | [], k, _ => rfl
  | x :: p, k, h => by
    have e := h x (by simp)
    have ih := kinF_pre (r := r) p (k + 1) (fun y hy => h y (by simp [hy]))
    rw [List.cons_append, kinF, e]
    simp only
    rw [ih, List.length_cons]
    congr 1
    omega
theorem kinF_none {T pre : List Nat} (h : ∀ y ∈ pre, T.findIdx? (· == y) = none) : kinF T pre 0 = (0, 0, 6) := by
  have := kinF_pre (r := []) pre 0 h
  rw [List.append_nil] at this
  rw [this]
  rfl
theorem kinF_hit {T pre r : List Nat} {x d : Nat} (h : ∀ y ∈ pre, T.findIdx? (· == y) = none) (hx : T.findIdx? (· == x) = some d) : kinF T (pre ++ x :: r) 0 = ((pre.length : Int), (d : Int), 0) := by
  rw [kinF_pre pre 0 h, kinF, hx]
  simp
theorem IntsAt.butFI {q : IntKind} {O : Nat → Prop} {lo : Nat} {A B : World} {a : Option Addr} {n : Nat} {l : List Int} (h : IntsAt q A a n l) (k : ButF O lo A B) (hn : ∀ x, a = some x → ¬O x.block) : IntsAt q B a n l :=
  ⟨h.1, fun h0 => let ⟨b, off, ha, hc⟩ := h.2 h0; ⟨b, off, ha, fun i hi j v hv => by
    obtain ⟨o, ho, hoc⟩ := cells_of_cell (hc i hi j v hv)
    exact (World.cell?_of_block ((k.block _ o ho (hn ⟨b, off, none⟩ ha) (.inl hoc)).trans ho.symm)).trans (hc i hi j v hv)⟩⟩
/-- what the loop holds -/
structure KnI (w : World) (p14 : Nat) (a2 : Option Addr) (c2 : Nat) (T : List Nat) (n : Nat) (X : World) : Prop where
  ext : Ext w X
  b6 : X.heap[w.heap.size]? = some (.cells #[.int .i64 (n : Int)] 3 (0, 0))
  b7 : ∃ d, X.heap[w.heap.size + 1]? = some (.cells #[.int .i64 d] 3 (0, 0))
  b8 : X.heap[w.heap.size + 1 + 1]? = some (.cells #[.int .i64 0] 40 (0, 0))
  b14 : X.heap[p14]? = some (.cells #[.slice a2 T.length c2] 34 (0, 0))
  their : IntsAt .i64 X a2 T.length (natsI T)
theorem KnI.f {w A B : World} {p14 pi lo : Nat} {a2 : Option Addr} {c2 : Nat} {T : List Nat} {n : Nat} (h : KnI w p14 a2 c2 T n A) (h1 : w.heap.size + 1 + 1 < pi) (h2 : p14 ≠ pi) (h3 : ∀ x, a2 = some x → x.block ≠ pi) (h4 : w.heap.size ≤ lo) (k : ButF (fun q => q = pi) lo A B) : KnI w p14 a2 c2 T n B := by
  obtain ⟨d, hd⟩ := h.b7
  exact ⟨ButF.ext h.ext k (fun b e => by have : b = pi := e; omega) h4, k.cells h.b6 (fun e => by have : w.heap.size = pi := e; omega), ⟨d, k.cells hd (fun e => by have : w.heap.size + 1 = pi := e; omega)⟩, k.cells h.b8 (fun e => by have : w.heap.size + 1 + 1 = pi := e; omega), k.cells h.b14 h2, h.their.butFI k h3⟩
/-- it returns: they are kin -/
structure KnX (w : World) (n : Nat) (d : Int) (X : World) : Prop where
  ext : Ext w X
  b6 : X.heap[w.heap.size]? = some (.cells #[.int .i64 (n : Int)] 3 (0, 0))
  b7 : X.heap[w.heap.size + 1]? = some (.cells #[.int .i64 d] 3 (0, 0))
  b8 : X.heap[w.heap.size + 1 + 1]? = some (.cells #[.int .i64 0] 40 (0, 0))
theorem KnX.f {w A B : World} {pi lo n : Nat} {d : Int} (h : KnX w n d A) (h1 : w.heap.size + 1 + 1 < pi) (h4 : w.heap.size ≤ lo) (k : ButF (fun q => q = pi) lo A B) : KnX w n d B :=
  ⟨ButF.ext h.ext k (fun b e => by have : b = pi := e; omega) h4, k.cells h.b6 (fun e => by have : w.heap.size = pi := e; omega), k.cells h.b7 (fun e => by have : w.heap.size + 1 = pi := e; omega), k.cells h.b8 (fun e => by have : w.heap.size + 1 + 1 = pi := e; omega)⟩
theorem set3 {X : World} {b : Nat} {x y z x' y' z' : Value} {t : TypeId} (h6 : X.heap[b]? = some (.cells #[x] 3 (0, 0))) (h7 : X.heap[b + 1]? = some (.cells #[y] 3 (0, 0))) (h8 : X.heap[b + 1 + 1]? = some (.cells #[z] t (0, 0))) :
    (((X.setCell ⟨b, 0, none⟩ x').setCell ⟨b + 1, 0, none⟩ y').setCell ⟨b + 1 + 1, 0, none⟩ z').heap[b]? = some (.cells #[x'] 3 (0, 0)) ∧ (((X.setCell ⟨b, 0, none⟩ x').setCell ⟨b + 1, 0, none⟩ y').setCell ⟨b + 1 + 1, 0, none⟩ z').heap[b + 1]? = some (.cells #[y'] 3 (0, 0)) ∧ (((X.setCell ⟨b, 0, none⟩ x').setCell ⟨b + 1, 0, none⟩ y').setCell ⟨b + 1 + 1, 0, none⟩ z').heap[b + 1 + 1]? = some (.cells #[z'] t (0, 0)) := by
  refine ⟨?_, ?_, ?_⟩
  · refine (Below.heap_setCell _ _ _ _ (by simp only; omega)).trans ((Below.heap_setCell _ _ _ _ (by simp only; omega)).trans ?_)
    rw [heap_setCell_box, h6]
    rfl
  · refine (Below.heap_setCell _ _ _ _ (by simp only; omega)).trans ?_
    rw [heap_setCell_box, Below.heap_setCell _ _ _ _ (by simp only; omega), h7]
    rfl
  · rw [heap_setCell_box, Below.heap_setCell _ _ _ _ (by simp only; omega), Below.heap_setCell _ _ _ _ (by simp only; omega), h8]
    rfl
theorem KnI.more {w X : World} {p14 : Nat} {a2 : Option Addr} {c2 : Nat} {T : List Nat} {n : Nat} (h : KnI w p14 a2 c2 T n X) (h14 : w.heap.size + 1 + 1 < p14) (ha : ∀ x, a2 = some x → w.heap.size + 1 + 1 < x.block) (d : Int) :
    KeepsOthers X ((X.setCell ⟨w.heap.size + 1, 0, none⟩ (.int .i64 d)).setCell ⟨w.heap.size, 0, none⟩ (.int .i64 ((n : Int) + 1))) ∧ KpO (fun b => b = w.heap.size ∨ b = w.heap.size + 1 ∨ b = w.heap.size + 1 + 1) X ((X.setCell ⟨w.heap.size + 1, 0, none⟩ (.int .i64 d)).setCell ⟨w.heap.size, 0, none⟩ (.int .i64 ((n : Int) + 1)))
      ∧ KnI w p14 a2 c2 T (n + 1) ((X.setCell ⟨w.heap.size + 1, 0, none⟩ (.int .i64 d)).setCell ⟨w.heap.size, 0, none⟩ (.int .i64 ((n : Int) + 1))) := by
  have kp : ∀ b, b ≠ w.heap.size → b ≠ w.heap.size + 1 → ((X.setCell ⟨w.heap.size + 1, 0, none⟩ (.int .i64 d)).setCell ⟨w.heap.size, 0, none⟩ (.int .i64 ((n : Int) + 1))).heap[b]? = X.heap[b]? := fun b h1 h2 => (Below.heap_setCell _ _ _ _ h1).trans (Below.heap_setCell _ _ _ _ h2)
  obtain ⟨d0, hd⟩ := h.b7
  refine ⟨(KeepsOthers.setCell _ _ _).trans (KeepsOthers.setCell _ _ _), ⟨by simp [World.setCell], fun b o hb _ hn => ?_⟩, (h.ext.setCell (p := ⟨w.heap.size + 1, 0, none⟩) (by simp only; omega) _).setCell (p := ⟨w.heap.size, 0, none⟩) (by simp only; omega) _, ?_, ⟨d, ?_⟩, (kp _ (by omega) (by omega)).trans h.b8, (kp _ (by omega) (by omega)).trans h.b14, h.their.1, h.their.2.same fun x hx => kp _ (by have := ha x hx; omega) (by have := ha x hx; omega)⟩
  · have hn : ¬(b = w.heap.size ∨ b = w.heap.size + 1 ∨ b = w.heap.size + 1 + 1) := hn
    exact (kp b (by omega) (by omega)).trans hb
  · rw [heap_setCell_box, Below.heap_setCell _ _ _ _ (by simp only; omega), h.b6]
    rfl
  · refine (Below.heap_setCell _ _ _ _ (by simp only; omega)).trans ?_
    rw [heap_setCell_box, hd]
    rfl
theorem KnX.same {w V : World} {n : Nat} {d : Int} (h : KnX w n d V) : KnX w n d (V.setCell ⟨w.heap.size, 0, none⟩ (.int .i64 (n : Int))) ∧ KnX w n d (V.setCell ⟨w.heap.size + 1, 0, none⟩ (.int .i64 d)) ∧ KnX w n d (V.setCell ⟨w.heap.size + 1 + 1, 0, none⟩ (.int .i64 0)) := by
  have e1 := set_same h.b6
  have e2 := set_same h.b7
  have e3 := set_same h.b8
  exact ⟨⟨h.ext.trans e1, e1.heap h.b6, e1.heap h.b7, e1.heap h.b8⟩, ⟨h.ext.trans e2, e2.heap h.b6, e2.heap h.b7, e2.heap h.b8⟩, ⟨h.ext.trans e3, e3.heap h.b6, e3.heap h.b7, e3.heap h.b8⟩⟩
def KnIn (w : World) (p14 : Nat) (a2 : Option Addr) (c2 : Nat) (T : List Nat) (m : Nat) (pre : List {x : Nat // x < m}) (X : World) : Prop := KnI w p14 a2 c2 T pre.length X ∧ ∀ y ∈ pre.map (·.1), T.findIdx? (· == y) = none
def KnEx (w : World) (T : List Nat) (m : Nat) (e : Code) (pre : List {x : Nat // x < m}) (X : World) : Prop := e = .ret ∧ ∃ pre0 x d, pre.map (·.1) = pre0 ++ [x] ∧ (∀ y ∈ pre0, T.findIdx? (· == y) = none) ∧ T.findIdx? (· == x) = some d ∧ KnX w pre0.length (d : Int) X
def KinPost (r : Int × Int × Int) (w : World) (e : Ending) (w' : World) : Prop := e = .returned (.tuple #[.int .i64 r.1, .int .i64 r.2.1, .int .i64 r.2.2]) ∧ Ext w w'
set_option maxRecDepth 100000 in
set_option maxHeartbeats 4000000 in
theorem kin_any {w : World} {a : Option Addr} {c : Nat} {l : List Animal} (hok : HerdOk l) (hla : AnimalsAt w a l.length l) (hcc : l.length ≤ c ∧ c ≤ maxLen) {ida idb : Int} {i j : Nat} (hia : placeOf l ida = some i) (hjb : placeOf l idb = some j) :
    Calls Try.prog 26 #[.slice a l.length c, .int .i64 ida, .int .i64 idb] w (KinPost (kinOf l i j) w) := by
  have hlen := hok.len
  have hi := placeOf_lt hia
  have hj := placeOf_lt hjb
  have hop := fun (V : World) (hV : Ext w V) => openH_any hok (hla.ext hV) hcc
  have hlk := fun (V : World) (mp : Nat) (h : OMapIs V mp (placeV l)) (q : Int) => (run_lookup_int (P := Try.prog) h Try.underlying138 Try.underlying3 (z := .int .i64 0) (by kernel_rfl) q).1
  have e1 : (placeV l ida).getD (.int .i64 0) = .int .i64 (i : Int) := by unfold placeV; rw [hia]; rfl
  have e2 : (placeV l ida).isSome = true := by unfold placeV; rw [hia]; rfl
  have e3 : (placeV l idb).getD (.int .i64 0) = .int .i64 (j : Int) := by unfold placeV; rw [hjb]; rfl
  have e4 : (placeV l idb).isSome = true := by unfold placeV; rw [hjb]; rfl
  clear hia hjb hla
  have Hop := Lib.hid hop
  have Hlk := Lib.hid hlk
  have E1 := Lib.hid e1
  have E2 := Lib.hid e2
  have E3 := Lib.hid e3
  have E4 := Lib.hid e4
  clear hop hlk e1 e2 e3 e4
  refine (callsIn_wide (n := 2)).1 ?_
  refine callsIn_of_wp_marks Try.func26 rfl trivial ?_ rfl
  simp only [Try.ntmps26, List.size_toArray, List.length_cons, List.length_nil, Nat.reduceAdd, Nat.reduceSub, Array.replicate_succ, Array.replicate_zero, List.push_toArray, List.append_toArray, List.nil_append, List.cons_append]
  refine wpIn_wide.2 ?_
  have hx0 : Ext w (((w.alloc (.cells #[.int .i64 0] 3)).alloc (.cells #[.int .i64 0] 3)).alloc (.cells #[.int .i64 0] 40)) := (((Ext.refl w).alloc _).alloc _).alloc _
  have g6 : (((w.alloc (.cells #[.int .i64 0] 3)).alloc (.cells #[.int .i64 0] 3)).alloc (.cells #[.int .i64 0] 40)).heap[w.heap.size]? = some (.cells #[.int .i64 0] 3 (0, 0)) := (((Ext.refl _).alloc _).alloc _).heap (heap_alloc_new w _)
  have g7 : (((w.alloc (.cells #[.int .i64 0] 3)).alloc (.cells #[.int .i64 0] 3)).alloc (.cells #[.int .i64 0] 40)).heap[w.heap.size + 1]? = some (.cells #[.int .i64 0] 3 (0, 0)) := ((Ext.refl _).alloc _).heap (alloc_at _ _ _ (by simp))
  have g8 : (((w.alloc (.cells #[.int .i64 0] 3)).alloc (.cells #[.int .i64 0] 3)).alloc (.cells #[.int .i64 0] 40)).heap[w.heap.size + 1 + 1]? = some (.cells #[.int .i64 0] 40 (0, 0)) := alloc_at _ _ _ (by simp)
  have Hx0 := Lib.hid hx0
  have G6 := Lib.hid g6
  have G7 := Lib.hid g7
  have G8 := Lib.hid g8
  clear hx0 g6 g7 g8
  have hsz0 : (((w.alloc (.cells #[.int .i64 0] 3)).alloc (.cells #[.int .i64 0] 3)).alloc (.cells #[.int .i64 0] 40)).heap.size = w.heap.size + 1 + 1 + 1 := by simp
  go_upto_region 1 with fail
  generalize ((w.alloc (.cells #[.int .i64 0] 3)).alloc (.cells #[.int .i64 0] 3)).alloc (.cells #[.int .i64 0] 40) = W0 at *
  go_upto_region 4 with (go_at_call 62; refine (Hop.out _ Hx0.out).mono ?_; rintro e w1 ⟨hb, rfl, hhd, hx1⟩; have h81 := hx1.heap G8.out; obtain ⟨y0, y1⟩ := (Ext.refl w1).box h81; have hl1 := heap_lt h81; have H81 := Lib.hid h81; clear h81)
  obtain ⟨a', c', mp, ma, mc, v, hin, hf1, hf2⟩ := hhd
  have hse := set_same H81.out
  have hin1 := hin.ext hse
  have hx1' := hx1.trans hse
  clear y0 y1 hl1 hse H81 hin hx1
  generalize w1.setCell ⟨w.heap.size + 1 + 1, 0, none⟩ (.int .i64 0) = W1 at *
  have g61 := hx1'.heap G6.out
  have g71 := hx1'.heap G7.out
  have g81 := hx1'.heap G8.out
  have hxw1 := Hx0.out.trans hx1'
  have hl1 := Hlk.out W1 mp hin1.map ida
  have hl2 := Hlk.out W1 mp hin1.map idb
  rw [E1.out, E2.out] at hl1
  rw [E3.out, E4.out] at hl2
  obtain ⟨y0, _⟩ := (Ext.refl _).box hin1.box
  have hhb := heap_lt hin1.box
  have Hin1 := Lib.hid hin1
  have G61 := Lib.hid g61
  have G71 := Lib.hid g71
  have G81 := Lib.hid g81
  have Hxw1 := Lib.hid hxw1
  clear hin1 g61 g71 g81 hxw1
  clear Hlk Hop E1 E2 E3 E4 Hx0 G6 G7 G8 hx1'
  go_upto_region 8 with fail
  clear hl1 hl2 y0
  have hma : ∀ x, ma = some x → x.block < W1.heap.size := fun x hx => by
    obtain ⟨b5, o5, _, e5, _, hl5, _⟩ := Hin1.out.moms.get 0 (by omega)
    rw [hx] at e5
    cases e5
    exact hl5
  have hcol : Calls Try.prog 75 #[.func (.func 110) #[] #[.pointer (some ⟨W1.heap.size + 1, 0, none⟩), .pointer (some ⟨W1.heap.size, 0, none⟩)]] ((W1.alloc (.cells #[.pointer (some ⟨hb, 0, none⟩)] 134)).alloc (.cells #[.int .i64 j] 3)) (CollPost (lineOf l j) (W1.heap.size + 1) ((W1.alloc (.cells #[.pointer (some ⟨hb, 0, none⟩)] 134)).alloc (.cells #[.int .i64 j] 3))) := by
    have hx : Ext W1 ((W1.alloc (.cells #[.pointer (some ⟨hb, 0, none⟩)] 134)).alloc (.cells #[.int .i64 j] 3)) := ((Ext.refl W1).alloc _).alloc _
    have gh : ((W1.alloc (.cells #[.pointer (some ⟨hb, 0, none⟩)] 134)).alloc (.cells #[.int .i64 j] 3)).heap[W1.heap.size]? = some (.cells #[.pointer (some ⟨hb, 0, none⟩)] 134 (0, 0)) := ((Ext.refl _).alloc _).heap (heap_alloc_new W1 _)
    have gi : ((W1.alloc (.cells #[.pointer (some ⟨hb, 0, none⟩)] 134)).alloc (.cells #[.int .i64 j] 3)).heap[W1.heap.size + 1]? = some (.cells #[.int .i64 j] 3 (0, 0)) := alloc_at _ _ _ (by simp)
    have hsz : ((W1.alloc (.cells #[.pointer (some ⟨hb, 0, none⟩)] 134)).alloc (.cells #[.int .i64 j] 3)).heap.size = W1.heap.size + 1 + 1 := by simp
    generalize (W1.alloc (.cells #[.pointer (some ⟨hb, 0, none⟩)] 134)).alloc (.cells #[.int .i64 j] 3) = W2 at *
    have hin2 := Hin1.out.ext hx
    exact collect_any (by omega) (Nat.le_trans ((hok.lineIs hj).len hj) hlen) (line_stopsF 2 (W1.heap.size + 1) W1.heap.size hb mp a' ma l.length c' mc v l hok j hj (fun b => W2.heap.size ≤ b) W2 gi gh hin2.box hin2.moms hin2.mcap.1 hin2.mcap.2 (by omega) (by omega) (by omega) (fun x hx => by have := hma x hx; omega) ⟨by omega, by omega, fun x hx => by have := hma x hx; omega⟩)
  have Hcol := Lib.hid hcol
  clear hcol
  go_upto_region 9 with (first
    | (go_at_call 63; refine (line_any hb (j : Int) _).mono ?_; rintro e w3 ⟨rfl, rfl⟩)
    | (go_at_call 75; refine Hcol.out.mono ?_; rintro e w5 ⟨a2, c2, rfl, k1, k2, k3, k4, k5⟩))
  have hx5 : Ext W1 w5 := But.ext (((Ext.refl W1).alloc _).alloc _) k5 (fun b e => by omega)
  have hx6 := hx5.alloc (.cells #[.slice a2 (lineOf l j).length c2] 34)
  have g14 := heap_alloc_new w5 (.cells #[.slice a2 (lineOf l j).length c2] 34)
  have k6 := k1.ext ((Ext.refl w5).alloc (.cells #[.slice a2 (lineOf l j).length c2] 34))
  have hsz5 : (w5.alloc (.cells #[.slice a2 (lineOf l j).length c2] 34)).heap.size = w5.heap.size + 1 := by simp
  have hle5 := hx5.size
  clear Hcol k1 k5 hx5
  generalize w5.alloc (.cells #[.slice a2 (lineOf l j).length c2] 34) = W6 at *
  generalize w5.heap.size = p14 at *
  have Hx6 := Lib.hid hx6
  have G14 := Lib.hid g14
  have K6 := Lib.hid k6
  have Hsz5 := Lib.hid hsz5
  clear hx6 g14 k6 hsz5
  go_wp2_with (go_at_call 63; refine (line_any hb (i : Int) _).mono ?_; rintro e w3 ⟨rfl, rfl⟩)
  have hW7 : ∃ W7, (W6.alloc (.cells #[.pointer (some ⟨hb, 0, none⟩)] 134)).alloc (.cells #[.int .i64 i] 3) = W7 := ⟨_, rfl⟩
  have hx7 : Ext W6 ((W6.alloc (.cells #[.pointer (some ⟨hb, 0, none⟩)] 134)).alloc (.cells #[.int .i64 i] 3)) := ((Ext.refl W6).alloc _).alloc _
  have gh : ((W6.alloc (.cells #[.pointer (some ⟨hb, 0, none⟩)] 134)).alloc (.cells #[.int .i64 i] 3)).heap[W6.heap.size]? = some (.cells #[.pointer (some ⟨hb, 0, none⟩)] 134 (0, 0)) := ((Ext.refl _).alloc _).heap (heap_alloc_new W6 _)
  have gi : ((W6.alloc (.cells #[.pointer (some ⟨hb, 0, none⟩)] 134)).alloc (.cells #[.int .i64 i] 3)).heap[W6.heap.size + 1]? = some (.cells #[.int .i64 i] 3 (0, 0)) := alloc_at _ _ _ (by simp)
  have hsz7 : ((W6.alloc (.cells #[.pointer (some ⟨hb, 0, none⟩)] 134)).alloc (.cells #[.int .i64 i] 3)).heap.size = W6.heap.size + 1 + 1 := by simp
  clear hW7
  generalize (W6.alloc (.cells #[.pointer (some ⟨hb, 0, none⟩)] 134)).alloc (.cells #[.int .i64 i] 3) = W7 at *
  have hx17 := Hx6.out.trans hx7
  have hin7 := Hin1.out.ext hx17
  have hle1 := Hx6.out.size
  have hl81 := heap_lt G81.out
  have hsq := line_stopsF 1 (W6.heap.size + 1) W6.heap.size hb mp a' ma l.length c' mc v l hok i hi (fun b => b = w.heap.size ∨ b = w.heap.size + 1 ∨ b = w.heap.size + 1 + 1) W7 gi gh hin7.box hin7.moms hin7.mcap.1 hin7.mcap.2 (by omega) (by omega) (by omega) (fun x hx => by have := hf2 x hx; omega) ⟨by omega, by omega, fun x hx => by have := hma x hx; omega⟩
  have hst : KnI w p14 a2 c2 (lineOf l j) 0 W7 := ⟨Hxw1.out.trans hx17, hx17.heap G61.out, ⟨0, hx17.heap G71.out⟩, hx17.heap G81.out, hx7.heap G14.out, K6.out.ext hx7⟩
  have ha2 : ∀ x, a2 = some x → x.block ≠ W6.heap.size + 1 := fun x hx => by
    obtain ⟨b5, o5, _, e5, _, hl5, _⟩ := K6.out.get 0 (hok.lineIs hj).len_pos
    rw [hx] at e5
    cases e5
    simp only
    omega
  have hTL := (hok.lineIs hj).len hj
  clear hin7 gh gi hx17
  have Hsq := Lib.hid hsq
  have Hst := Lib.hid hst
  have Hx7 := Lib.hid hx7
  clear hsq hst hx7
  obtain ⟨T, hT⟩ : ∃ T, lineOf l j = T := ⟨_, rfl⟩
  have hko : kinOf l i j = kinF T (lineOf l i) 0 := by unfold kinOf; rw [hT]
  rw [hko]
  rw [hT] at Hst hTL
  have Hko := Lib.hid hko
  have HT := Lib.hid hT
  clear hko hT
  refine (wpIn_wide (n := 2)).1 (wpIn_rangeFunc_but rfl (by omega) (gf := 110) (lb := #[.pointer (some ⟨W6.heap.size + 1, 0, none⟩), .pointer (some ⟨W6.heap.size, 0, none⟩)]) rfl trivial (enters_of Try.func110 (by kernel_rfl) rfl) Hsq.out kpO_t kpO_b (Ext.refl _) (fun b hb => by have : b = W6.heap.size + 1 := hb; omega) (fun _ => rfl)
    (KnIn w p14 a2 c2 T l.length) (KnEx w T l.length)
    (fun q A B h k => ⟨h.1.f (by omega) (by have := heap_lt G14.out; omega) ha2 (by omega) k, h.2⟩)
    (fun e q A B h k => by
      obtain ⟨h0, pre0, x, d, h1, h2, h3, h4⟩ := h
      exact ⟨h0, pre0, x, d, h1, h2, h3, h4.f (by omega) (by omega) k⟩)
    ⟨Hst.out, by simp⟩ ?a1 ?assign ?body ?done ?stop)
  case assign =>
    intro y x X K hK
    gi_wp2
    simp [natEnc]
    exact hK
  case body =>
    rintro y pre0 ⟨x, hxm⟩ X ⟨hI, hno⟩ hpre
    have hp16 : pre0.length ≤ 16 := by have := (hok.lineIs hi).len hi; omega
    have hidx := index_any (c := c2) hI.their (by omega) (x : Int)
    rw [idx_nats] at hidx
    obtain ⟨d, hd⟩ := hI.b7
    have hb6 := hI.b6
    have hb8 := hI.b8
    have hb14 := hI.b14
    obtain ⟨y0, y1⟩ := (Ext.refl X).box hb6
    obtain ⟨y2, y3⟩ := (Ext.refl X).box hd
    obtain ⟨y6, y7⟩ := (Ext.refl X).box hb14
    have l6 := heap_lt hb6
    have l7 := heap_lt hd
    cases hf : T.findIdx? (· == x) with
    | none =>
      rw [hf] at hidx
      have Hidx := Lib.hid hidx
      have HI := Lib.hid hI
      have Hno := Lib.hid hno
      have Hf := Lib.hid hf
      have Hb6 := Lib.hid hb6
      have Hd := Lib.hid hd
      have Hb8 := Lib.hid hb8
      have Hb14 := Lib.hid hb14
      clear hidx hI hno hf hb6 hd hb8 hb14
      gi_wp2_with (first | (refine ⟨trivial, rfl, ?_⟩; gi_at_call 76; refine (((callsIn_wide (n := 0)).2 Hidx.out).inRound y).mono ?_; rintro e w3 ⟨rfl, rfl⟩) | (refine ⟨trivial, ?_⟩; gi_at_call 76; refine (((callsIn_wide (n := 0)).2 Hidx.out).inRound y).mono ?_; rintro e w3 ⟨rfl, rfl⟩))
      show KeepsOthers _ _ ∧ KpO _ _ _ ∧ KnIn w p14 a2 c2 T l.length (pre0 ++ [(⟨x, hxm⟩ : {x : Nat // x < l.length})]) _
      obtain ⟨m1, m2, m3⟩ := HI.out.more (by omega) (fun q hq => by have := k4 q hq; have e : ((W1.alloc (.cells #[.pointer (some ⟨hb, 0, none⟩)] 134)).alloc (.cells #[.int .i64 j] 3)).heap.size = W1.heap.size + 1 + 1 := by simp
                                                                    omega) (-1)
      refine ⟨m1, m2, by rw [List.length_append]; exact m3, fun z hz => ?_⟩
      rw [List.map_append] at hz
      rcases List.mem_append.1 hz with hz | hz
      · exact Hno.out z hz
      · simp at hz
        rw [hz]
        exact Hf.out
    | some k =>
      rw [hf] at hidx
      have hk0 : decide (0 ≤ (k : Int)) = true := by simp
      have Hidx := Lib.hid hidx
      have HI := Lib.hid hI
      have Hno := Lib.hid hno
      have Hf := Lib.hid hf
      have Hb6 := Lib.hid hb6
      have Hd := Lib.hid hd
      have Hb8 := Lib.hid hb8
      have Hb14 := Lib.hid hb14
      clear hidx hI hno hf hb6 hd hb8 hb14
      gi_wp2_with (first | (refine ⟨trivial, rfl, ?_⟩; gi_at_call 76; refine (((callsIn_wide (n := 0)).2 Hidx.out).inRound y).mono ?_; rintro e w3 ⟨rfl, rfl⟩) | (refine ⟨trivial, ?_⟩; gi_at_call 76; refine (((callsIn_wide (n := 0)).2 Hidx.out).inRound y).mono ?_; rintro e w3 ⟨rfl, rfl⟩))
      have hX0 : KnX w pre0.length (k : Int) (w3.setCell ⟨w.heap.size + 1, 0, none⟩ (.int .i64 (k : Int))) := ⟨HI.out.ext.setCell (p := ⟨w.heap.size + 1, 0, none⟩) (by simp only; omega) _, (Below.heap_setCell _ _ _ _ (by simp only; omega)).trans Hb6.out, by rw [heap_setCell_box, Hd.out]; rfl, (Below.heap_setCell _ _ _ _ (by simp only; omega)).trans Hb8.out⟩
      have hK0 : KeepsOthers w3 (w3.setCell ⟨w.heap.size + 1, 0, none⟩ (.int .i64 (k : Int))) := KeepsOthers.setCell _ _ _
      generalize w3.setCell ⟨w.heap.size + 1, 0, none⟩ (.int .i64 (k : Int)) = W8 at *
      clear y0 y1 y2 y3 y6 y7
      have HX0 := Lib.hid hX0
      have HK0 := Lib.hid hK0
      clear hX0 hK0
      refine wpIn_region_tree (.take [0, 1] (.one 2 (.one 3 (.one 4 .done)))) (fun V => KnX w pre0.length (k : Int) V ∧ KeepsOthers w3 V) _ (by kernel_rfl) (by kernel_rfl) rfl (⟨⟨HX0.out.ext.drew, HX0.out.b6, HX0.out.b7, HX0.out.b8⟩, HK0.out.trans (KeepsOthers.drew _)⟩) ?_
      intro ι _ f hf hs
      have f0 := fun q => ((Ext.refl _).box (hf q).1.b6).1
      have f1 := fun q => ((Ext.refl _).box (hf q).1.b7).1
      have HS := Lib.hid hs
      clear hf hs
      simp only [treeOf, oneOp, twoOp, opsOf, consOp, List.getElem?_toArray, List.getElem?_cons_succ, List.getElem?_cons_zero]
      refine wpOT_take ?_
      repeat (go_big_quiet_step (fail))
      refine wpQuiet_nil ?_
      clear f0 f1
      have hX1 : KnX w pre0.length (k : Int) W8.drew := ⟨HX0.out.ext.drew, HX0.out.b6, HX0.out.b7, HX0.out.b8⟩
      have hK1 : KeepsOthers w3 W8.drew := HK0.out.trans (KeepsOthers.drew _)
      generalize W8.drew = W9 at *
      obtain ⟨y0, y1⟩ := (Ext.refl W9).box hX1.b6
      have l9 := heap_lt hX1.b6
      have hX2 := hX1.same.1
      have hK2 := hK1.trans (KeepsOthers.setCell W9 ⟨w.heap.size, 0, none⟩ (.int .i64 (pre0.length : Int)))
      have HX1 := Lib.hid hX1
      have HX2 := Lib.hid hX2
      have HK2 := Lib.hid hK2
      clear hX1 hX2 hK2
      refine wpOT_one ?_
      go_wp2_with fail
      refine ⟨HS.out _ ⟨HX2.out, HK2.out⟩, ?_⟩
      generalize W9.setCell ⟨w.heap.size, 0, none⟩ (.int .i64 (pre0.length : Int)) = W10 at *
      clear y0 y1 l9
      obtain ⟨y0, y1⟩ := (Ext.refl W10).box HX2.out.b7
      have l9 := heap_lt HX2.out.b7
      have hX3 := HX2.out.same.2.1
      have hK3 := HK2.out.trans (KeepsOthers.setCell W10 ⟨w.heap.size + 1, 0, none⟩ (.int .i64 (k : Int)))
      have HX3 := Lib.hid hX3
      have HK3 := Lib.hid hK3
      clear hX3 hK3
      refine wpOT_one ?_
      go_wp2_with fail
      refine ⟨HS.out _ ⟨HX3.out, HK3.out⟩, ?_⟩
      generalize W10.setCell ⟨w.heap.size + 1, 0, none⟩ (.int .i64 (k : Int)) = W11 at *
      clear y0 y1 l9
      obtain ⟨y0, y1⟩ := (Ext.refl W11).box HX3.out.b8
      have l9 := heap_lt HX3.out.b8
      have hX4 := HX3.out.same.2.2
      have hK4 := HK3.out.trans (KeepsOthers.setCell W11 ⟨w.heap.size + 1 + 1, 0, none⟩ (.int .i64 0))
      have HX4 := Lib.hid hX4
      have HK4 := Lib.hid hK4
      clear hX4 hK4
      refine wpOT_one ?_
      go_wp2_with fail
      refine ⟨HS.out _ ⟨HX4.out, HK4.out⟩, ?_⟩
      refine wpOT_done ?_
      gi_wp2
      exact ⟨HK4.out, rfl, pre0.map (·.1), x, k, by simp, Hno.out, Hf.out, by rw [List.length_map]; exact HX4.out⟩
  case done =>
    rintro D xs0 X hD hxs ⟨hI, hno⟩ hK
    have hxs : xs0.map (·.1) = lineOf l i := hxs
    have hkn := kinF_none hno
    rw [hxs] at hkn
    obtain ⟨d, hd⟩ := hI.b7
    have hb6 := hI.b6
    have hb8 := hI.b8
    have hxI := hI.ext
    obtain ⟨y0, y1⟩ := (Ext.refl X).box hb6
    obtain ⟨y2, y3⟩ := (Ext.refl X).box hd
    obtain ⟨y4, y5⟩ := (Ext.refl X).box hb8
    have l6 := heap_lt hb6
    have l7 := heap_lt hd
    have l8 := heap_lt hb8
    have hDD : w.heap.size ≤ D := by have := Hx7.out.size; omega
    have hh : Hung w.heap.size [{ target := .collected D, args := #[] }] X := ⟨⟨D, rfl, hDD, hK, by simp⟩, trivial⟩
    have hs3 := set3 (x' := .int .i64 0) (y' := .int .i64 0) (z' := .int .i64 6) hb6 hd hb8
    have hx9 := ((hxI.setCell (p := ⟨w.heap.size, 0, none⟩) (by simp only; omega) (.int .i64 0)).setCell (p := ⟨w.heap.size + 1, 0, none⟩) (by simp only; omega) (.int .i64 0)).setCell (p := ⟨w.heap.size + 1 + 1, 0, none⟩) (by simp only; omega) (.int .i64 6)
    have hh9 := ((hh.others (KeepsOthers.setCell X ⟨w.heap.size, 0, none⟩ (.int .i64 0))).others (KeepsOthers.setCell _ ⟨w.heap.size + 1, 0, none⟩ (.int .i64 0))).others (KeepsOthers.setCell _ ⟨w.heap.size + 1 + 1, 0, none⟩ (.int .i64 6))
    clear hI hno hK hh hb6 hd hb8 hxI
    have Hs3 := Lib.hid hs3
    have Hx9 := Lib.hid hx9
    have Hh9 := Lib.hid hh9
    have Hkn := Lib.hid hkn
    clear hs3 hx9 hh9 hkn
    go_wp2_with fail
    generalize ((X.setCell ⟨w.heap.size, 0, none⟩ (.int .i64 0)).setCell ⟨w.heap.size + 1, 0, none⟩ (.int .i64 0)).setCell ⟨w.heap.size + 1 + 1, 0, none⟩ (.int .i64 6) = V2 at *
    refine marks_rets Hh9.out fun w' ht => ?_
    obtain ⟨s6, s7, s8⟩ := Hs3.out
    have c6 := ((Ext.refl w').box (ht.cells _ _ _ _ s6)).1 0
    have c7 := ((Ext.refl w').box (ht.cells _ _ _ _ s7)).1 0
    have c8 := ((Ext.refl w').box (ht.cells _ _ _ _ s8)).1 0
    refine ⟨.tuple #[.int .i64 0, .int .i64 0, .int .i64 6], by simp [results, Try.f26, go_sem, c6, c7, c8], ?_, ht.ext Hx9.out (Nat.le_refl _)⟩
    rw [Hko.out, Hkn.out]
  case stop =>
    rintro D e pre X hD hp ⟨rfl, pre0, x, d, h1, h2, h3, h4⟩ hK
    obtain ⟨r, hr⟩ := hp
    have hkn := kinF_hit (r := r) h2 h3
    have hLi : lineOf l i = pre0 ++ x :: r := by
      rw [← hr]
      show pre.map (·.1) ++ r = _
      rw [h1]
      simp
    rw [← hLi] at hkn
    have hDD : w.heap.size ≤ D := by have := Hx7.out.size; omega
    have hh : Hung w.heap.size [{ target := .collected D, args := #[] }] X := ⟨⟨D, rfl, hDD, hK, by simp⟩, trivial⟩
    have Hkn := Lib.hid hkn
    have H4 := Lib.hid h4
    have Hh := Lib.hid hh
    clear hkn h4 hh
    clear h1 h2 h3 hr hLi hK
    refine wpIn_wide.2 ?_
    go_wp2_with fail
    refine marks_rets Hh.out fun w' ht => ?_
    have c6 := ((Ext.refl w').box (ht.cells _ _ _ _ H4.out.b6)).1 0
    have c7 := ((Ext.refl w').box (ht.cells _ _ _ _ H4.out.b7)).1 0
    have c8 := ((Ext.refl w').box (ht.cells _ _ _ _ H4.out.b8)).1 0
    refine ⟨.tuple #[.int .i64 (pre0.length : Int), .int .i64 (d : Int), .int .i64 0], by simp [results, Try.f26, go_sem, c6, c7, c8], ?_, ht.ext H4.out.ext (Nat.le_refl _)⟩
    rw [Hkn.out]
end Go.Proofs.Ytcoelhpmkhimpaa

namespace Go.Proofs.Ytcoelhpmkhimpaa
open Go.RowKit
set_option linter.unusedVariables false
set_option linter.unusedSimpArgs false
theorem rangd_any (a b : Int) (w : World) : Calls Try.prog 37 #[.int .i64 a, .int .i64 b] w fun e w' => e = .returned (.agg #[.int .i64 a, .int .i64 b]) ∧ Ext w w' := by
  go_enter Try.func37, Try.ntmps37
  go_wp2_with fail
  refine bodyPost_ret (results_cell_row rfl _ _ w.heap.size 23 #[.int .i64 a, .int .i64 b] (0, 0) _ rfl (heap_alloc_new w _) Try.underlying23 rfl (by kernel_rfl)) rfl ?_
  exact ⟨rfl, (Ext.refl _).alloc _⟩
def familyL : List Animal := [⟨1, -1, ⟨0, 0⟩, []⟩, ⟨2, 1, ⟨1400, 2000⟩, []⟩, ⟨3, 2, ⟨3000, 4000⟩, []⟩, ⟨9, -1, ⟨0, 0⟩, []⟩]
theorem family_ok : HerdOk familyL := by
  have hm : ∀ l : List Mark, l = [] → MarksOk l := fun l h => by subst h; intro k m hm; simp at hm
  have hl : familyL.length = 4 := rfl
  refine ⟨by decide, fun i a h => ?_, fun i hi => ?_⟩
  · have hi : i < 4 := (List.getElem?_eq_some_iff.1 h).1
    have : i = 0 ∨ i = 1 ∨ i = 2 ∨ i = 3 := by omega
    rcases this with rfl | rfl | rfl | rfl <;> (cases h; exact ⟨by decide, by decide, by first | exact .inl rfl | exact .inr ⟨0, by decide⟩ | exact .inr ⟨1, by decide⟩, by decide, hm _ rfl⟩)
  · rw [hl] at hi
    have h0 : Line familyL 0 [0] := .root (by decide)
    have h1 : Line familyL 1 [1, 0] := .step (by decide) h0
    have : i = 0 ∨ i = 1 ∨ i = 2 ∨ i = 3 := by omega
    rcases this with rfl | rfl | rfl | rfl
    · exact ⟨_, h0⟩
    · exact ⟨_, h1⟩
    · exact ⟨_, .step (by decide) h1⟩
    · exact ⟨_, .root (by decide)⟩
theorem family_kin : kinOf familyL 2 0 = (2, 0, 0) := by decide
theorem family_mange : mangeOf 2 [0] [⟨0, 1, 5, true⟩] ⟨3, 4⟩ 9 = [2, 2] := by decide
theorem family_at {V : World} {b : Nat} (h : V.heap[b]? = some (.cells #[.int .i64 1, .int .i64 (-1), .int .i64 0, .int .i64 0, .slice none 0 0, .int .i64 2, .int .i64 1, .int .i64 1400, .int .i64 2000, .slice none 0 0, .int .i64 3, .int .i64 2, .int .i64 3000, .int .i64 4000, .slice none 0 0, .int .i64 9, .int .i64 (-1), .int .i64 0, .int .i64 0, .slice none 0 0] 69 (0, 0))) :
    AnimalsAt V (some ⟨b, 0, none⟩) 4 familyL := by
  refine ⟨rfl, fun _ => ⟨b, 0, rfl, fun k f hf => ?_⟩⟩
  have hk : k < 4 := (List.getElem?_eq_some_iff.1 hf).1
  have : k = 0 ∨ k = 1 ∨ k = 2 ∨ k = 3 := by omega
  rcases this with rfl | rfl | rfl | rfl <;>
  · cases hf
    refine ⟨none, 0, 0, fun j v hv => ?_, by decide, by decide, rfl, fun h => by omega⟩
    have hj : j < 5 := (List.getElem?_eq_some_iff.1 hv).1
    have : j = 0 ∨ j = 1 ∨ j = 2 ∨ j = 3 ∨ j = 4 := by omega
    rw [cell_of_row _ _ _ _ _ _ h]
    rcases this with rfl | rfl | rfl | rfl | rfl <;> (cases hv; rfl)
theorem family_any (w : World) : Calls Try.prog 60 #[] w fun e w' => ∃ b, e = .returned (.slice (some ⟨b, 0, none⟩) 4 4) ∧ Ext w w' ∧ AnimalsAt w' (some ⟨b, 0, none⟩) 4 familyL := by
  have hr := rangd_any
  have Hr := Lib.hid hr
  clear hr
  go_enter Try.func60, Try.ntmps60
  go_wp2_with (go_at_call 37; refine (Hr.out _ _ _).mono ?_; rintro e w1 ⟨rfl, hx1⟩)
  go_ret
  refine ⟨_, rfl, Ext.alloc (Ext.trans (by assumption) (by assumption)) _, family_at (heap_alloc_new _ _)⟩
theorem meets_one {V : World} {b : Nat} {m : Meet} (h : V.heap[b]? = some (.cells #[.int .i64 m.a, .int .i64 m.b, .int .i64 m.day, .bool m.close] 74 (0, 0))) : MeetsAt V (some ⟨b, 0, none⟩) 1 [m] := by
  refine ⟨rfl, fun _ => ⟨b, 0, rfl, fun k hk j v hv => ?_⟩⟩
  obtain rfl : k = 0 := by omega
  rw [cell_of_row _ _ _ _ _ _ h, ← hv]
  simp [Meet.cells]
set_option maxRecDepth 100000 in
theorem alive02_any (w : World) : Calls Try.prog 20 #[] w fun e w' => e = .returned (.bool true) ∧ Ext w w' := by
  have hr := rangd_any
  have hf := family_any
  have hk := fun (V : World) (b : Nat) (h : AnimalsAt V (some ⟨b, 0, none⟩) 4 familyL) => kin_any (w := V) (c := 4) (l := familyL) family_ok h (by decide) (ida := 3) (idb := 1) (i := 2) (j := 0) (by decide) (by decide)
  rw [family_kin, show familyL.length = 4 from rfl] at hk
  have hm := fun (V : World) (b1 b2 : Nat) (h1 : V.heap[b1]? = some (.cells #[.int .i64 0] 3 (0, 0))) (h2 : MeetsAt V (some ⟨b2, 0, none⟩) 1 [⟨0, 1, 5, true⟩]) => mange_any 2 (some ⟨b1, 0, none⟩) 1 1 [0] (some ⟨b2, 0, none⟩) 1 1 [⟨0, 1, 5, true⟩] 3 4 9 V (ints_built (l := [0]) h1) h2 (by simp) (fun x hx => by cases hx; exact ⟨_, _, rfl⟩)
    ⟨by decide, by decide, by decide, ⟨by decide, by simp⟩, ⟨by decide, fun m hm => by simp at hm; subst hm; exact ⟨by decide, by decide, by decide, by decide⟩⟩, fun m hm => by simp at hm; subst hm; rfl⟩
  unfold MangePost at hm
  rw [family_mange] at hm
  have Hr := Lib.hid hr
  have Hf := Lib.hid hf
  have Hk := Lib.hid hk
  have Hm := Lib.hid hm
  clear hr hf hk hm
  go_enter Try.func20, Try.ntmps20
  go_upto_region 2 with (first
    | (have q := hx1; clear q; go_at_call 26; refine (Hk.out _ _ ha1).mono ?_; rintro e w2 ⟨rfl, hx2⟩)
    | (go_at_call 60; refine (Hf.out _).mono ?_; rintro e w1 ⟨b, rfl, hx1, ha1⟩))
  have hxa := hx1.trans hx2
  have Hxa := Lib.hid hxa
  clear hxa
  clear hx1 hx2 ha1 Hf Hk
  go_upto_region 3 with (first
    | (go_at_call 37; refine (Hr.out _ _ _).mono ?_; rintro e w4 ⟨rfl, hx4⟩)
    | (go_at_call 25; refine (Hm.out _ _ _ (hx4.heap (((Ext.refl _).alloc _).heap (heap_alloc_new _ _))) (meets_one (m := ⟨0, 1, 5, true⟩) (hx4.heap (alloc_at _ _ _ (by simp))))).mono ?_; rintro e w5 ⟨g, rfl, hx5, hg5, hi5⟩))
  have hcv : (convert 75 9 (.slice (some ⟨g, 0, none⟩) 2 2)).run Try.prog w5 = .ok (.string ⟨#[2, 2]⟩) w5 := by
    refine run_convert_bytes_back w5 75 9 5 ⟨g, 0, none⟩ 2 [2, 2] Try.underlying75 Try.underlying5 Try.underlying9 (fun j hj => ?_)
    obtain ⟨b, off, x, e1, e2, _, e4⟩ := hi5.get j hj
    cases e1
    rw [addr_add', e4]
    have hj2 : j = 0 ∨ j = 1 := by simp at hj; omega
    rcases hj2 with rfl | rfl <;> (cases e2; rfl)
  have hxb := Hxa.out.trans (((Ext.refl w2).alloc _).alloc _ |>.trans hx4 |>.trans hx5)
  have Hxb := Lib.hid hxb
  clear hxb
  clear hx4 hx5 hi5 Hm Hr Hxa
  go_wp2_with fail
  go_ret
  exact ⟨rfl, Hxb.out⟩
end Go.Proofs.Ytcoelhpmkhimpaa

namespace Go.Proofs.Ytcoelhpmkhimpaa
open Go.RowKit
set_option linter.unusedVariables false
def fateOf : List DayStep → Int
  | [] => 0
  | x :: l => max x.f (fateOf l)
theorem fateOf_nonneg : ∀ (l : List DayStep), 0 ≤ fateOf l
  | [] => Int.le_refl _
  | x :: l => by
    have := fateOf_nonneg l
    unfold fateOf
    omega
theorem fateOf_snoc : ∀ (l : List DayStep) (x : DayStep), 0 ≤ x.f → fateOf (l ++ [x]) = max (fateOf l) x.f
  | [], x, h => by simp only [List.nil_append, fateOf]; omega
  | y :: l, x, h => by
    have := fateOf_snoc l x h
    simp only [List.cons_append, fateOf, this]
    omega
theorem fateOf_le : ∀ (l : List DayStep), (∀ x ∈ l, x.f = 0 ∨ x.f = 1) → fateOf l ≤ 1
  | [], _ => by unfold fateOf; omega
  | x :: l, h => by
    have h1 := fateOf_le l (fun y hy => h y (List.mem_cons_of_mem _ hy))
    have h2 := h x (List.mem_cons_self ..)
    unfold fateOf
    omega
theorem days_seq {s : Breed} : ∀ {l : List March} {c : Camel} {r : List Camel × Int}, daysOf s c l = some r → (seqOf s c l).map (·.c) = r.1 ∧ fateOf (seqOf s c l) = r.2 ∧ ∀ x ∈ seqOf s c l, x.f = 0 ∨ x.f = 1
  | [], c, r, h => by
    cases h
    exact ⟨rfl, rfl, fun x hx => by cases hx⟩
  | m :: l, c, r, h => by
    unfold daysOf at h
    unfold seqOf
    cases hd : diesB s c m with
    | true => rw [hd, if_pos rfl] at h; cases h
    | false =>
      rw [hd, if_neg (by simp)] at h
      rw [if_neg (by simp)]
      cases hr : daysOf s (nextOf s c m) l with
      | none => rw [hr] at h; cases h
      | some r' =>
        rw [hr] at h
        cases h
        obtain ⟨h1, h2, h3⟩ := days_seq hr
        have hf := stepOf_f s c m hd
        have hc : (stepOf s c m).c = nextOf s c m := by unfold stepOf; rw [hd]; rfl
        refine ⟨by simp [h1, hc], by simp only [fateOf, h2, hf], fun x hx => ?_⟩
        rcases List.mem_cons.1 hx with rfl | hx
        · rw [hf]
          split
          · exact .inl rfl
          · exact .inr rfl
        · exact h3 x hx
theorem days_len {s : Breed} : ∀ {l : List March} {c : Camel} {r : List Camel × Int}, daysOf s c l = some r → r.1.length = l.length
  | [], c, r, h => by cases h; rfl
  | m :: l, c, r, h => by
    unfold daysOf at h
    split at h
    · cases h
    · cases hr : daysOf s (nextOf s c m) l with
      | none => rw [hr] at h; cases h
      | some r' =>
        rw [hr] at h
        cases h
        simp [days_len hr]
def fateL (l : List DayStep) : Int := l.foldl (fun a x => max a x.f) 0
theorem fateL_snoc (l : List DayStep) (x : DayStep) : fateL (l ++ [x]) = max (fateL l) x.f := by simp [fateL]
theorem foldl_max (l : List DayStep) : ∀ a, 0 ≤ a → l.foldl (fun a x => max a x.f) a = max a (fateOf l) := by
  induction l with
  | nil => intro a h; simp only [List.foldl_nil, fateOf]; omega
  | cons x l ih =>
    intro a h
    rw [List.foldl_cons, ih _ (by omega)]
    have := fateOf_nonneg l
    show max (max a x.f) (fateOf l) = max a (max x.f (fateOf l))
    omega
theorem fateL_eq (l : List DayStep) : fateL l = fateOf l := by
  unfold fateL
  rw [foldl_max l 0 (by omega)]
  have := fateOf_nonneg l
  omega
def camelRows (l : List Camel) : List (List Value) := l.map Camel.cells
theorem camelRows_row (l : List Camel) : ∀ r ∈ camelRows l, r.length = 7 ∧ ∀ u ∈ r, u.oneCell' = true := by
  intro r hr
  obtain ⟨s, _, rfl⟩ := List.mem_map.1 hr
  refine ⟨rfl, fun u hu => ?_⟩
  simp only [Camel.cells, List.mem_cons, List.not_mem_nil, or_false] at hu
  rcases hu with rfl | rfl | rfl | rfl | rfl | rfl | rfl <;> rfl
theorem camelRows_append (l m : List Camel) : camelRows (l ++ m) = camelRows l ++ camelRows m := by simp [camelRows]
theorem camels_of_owns {w : World} {B : Nat} {e : TypeId} {v : Value} {l : List Camel} (h : Owns w B e 7 v (camelRows l)) : ∃ a c, v = .slice a l.length c ∧ From B a ∧ l.length ≤ c ∧ c ≤ maxLen ∧ CamelsAt w a l.length l := by
  obtain ⟨a, c, hv, h0, h1, h2, h3⟩ := h.slAt
  have e : (camelRows l).length = l.length := by simp [camelRows]
  rw [e] at hv h1 h3
  refine ⟨a, c, hv, h0, h1, h2, rfl, h3.congr fun i hi => ?_⟩
  simp [camelRows, List.getD, List.getElem?_map, List.getElem?_eq_getElem hi]
theorem info27 : (Try.prog.info? 27).map (fun i => (i.zero, i.size, i.bytes)) = some (some (.agg #[.int .i64 0, .int .i64 0, .int .i64 0, .int .i64 0, .int .i64 0, .int .i64 0, .bool false]), 7, 56) := by kernel_rfl
theorem elem49 : Elem Try.prog 49 27 7 := by
  obtain ⟨i, h1, h2, h3, h4⟩ := info_parts info27
  exact ⟨Try.underlying49, ⟨i, _, _, h1, h2, h3, h4, rfl, by decide⟩, by decide⟩
def dayRows (l : List March) : List (List Value) := l.map March.cells
theorem dayRows_row (l : List March) : ∀ r ∈ dayRows l, r.length = 8 ∧ ∀ u ∈ r, u.oneCell' = true := by
  intro r hr
  obtain ⟨s, _, rfl⟩ := List.mem_map.1 hr
  refine ⟨rfl, fun u hu => ?_⟩
  simp only [March.cells, List.mem_cons, List.not_mem_nil, or_false] at hu
  rcases hu with rfl | rfl | rfl | rfl | rfl | rfl | rfl | rfl <;> rfl
theorem dayRows_append (l m : List March) : dayRows (l ++ m) = dayRows l ++ dayRows m := by simp [dayRows]
theorem days_of_owns {w : World} {B : Nat} {e : TypeId} {v : Value} {l : List March} (h : Owns w B e 8 v (dayRows l)) : ∃ a c, v = .slice a l.length c ∧ From B a ∧ l.length ≤ c ∧ c ≤ maxLen ∧ DaysAt w a l.length l := by
  obtain ⟨a, c, hv, h0, h1, h2, h3⟩ := h.slAt
  have e : (dayRows l).length = l.length := by simp [dayRows]
  rw [e] at hv h1 h3
  refine ⟨a, c, hv, h0, h1, h2, rfl, h3.congr fun i hi => ?_⟩
  simp [dayRows, List.getD, List.getElem?_map, List.getElem?_eq_getElem hi]
end Go.Proofs.Ytcoelhpmkhimpaa

namespace Go.Proofs.Ytcoelhpmkhimpaa
open Go.RowKit
set_option linter.unusedVariables false
variable {F : Fence} {n : Nat} {P : Program}
/-- the contract of an iterator whose consumer keeps to V -/
def SeqStopsK {α : Type} (F : Fence) (n : Nat) (P : Program) (g : Nat) (lb : Array Value) (encs : α → Array Value) (V : World → Prop) (Kp : World → World → Prop) (S Sp : List α → Prop) (N : Nat) (O : Nat → Prop) (w : World) : Prop :=
  ∀ (l : Nat) (J Jx : List α → World → Prop) (W : World), Ext w W → (∀ s A, J s A → V A) → (∀ s A B, J s A → But O A B → J s B) → (∀ s A B, Jx s A → But O A B → Jx s B) →
    (∀ pre x W1, J pre W1 → pre.length < N → YieldAt F (n - 1) P l (encs x) W1 fun e W' =>
      (e = .returned (.bool true) ∧ J (pre ++ [x]) W' ∧ Kp W1 W') ∨ (e = .returned (.bool false) ∧ Jx (pre ++ [x]) W')) →
    J [] W →
    CallsIn F n P g (#[.func (.yield l) #[] #[]] ++ lb) W fun e W' => (∃ v, e = .returned v) ∧ ((∃ xs, S xs ∧ J xs W') ∨ (∃ pre, Sp pre ∧ Jx pre W'))
theorem wpIn_rangeFunc_box {α : Type} {g : Operand} {ps : Array Tmp} {assign body : Code} {Q : Exit → Act → World → Prop} {a : Act} {w : World}
    (hro : F.round = none) (h1 : 1 ≤ n) {gf : Nat} {lb : Array Value} (hg : a.eval g = .func (.func gf) #[] lb) (hFg : F.fn gf) (eg : ∀ args w, (callFunc gf args).run P w = .ok (.enter gf args) w)
    {encs : α → Array Value} {V : World → Prop} {Kp : World → World → Prop} {S Sp : List α → Prop} {N : Nat} {O : Nat → Prop} {w0 : World} (hseq : SeqStopsK F (n - 1) P gf lb encs V Kp S Sp N O w0)
    (hKt : ∀ {A B C : World}, Kp A B → Kp B C → Kp A C) (hKb : ∀ (W : World) (l : Nat) (o o' : Obj), w.heap.size ≤ l → W.heap[l]? = some o → o.isCells = false → o.isWalk = false → Kp W (W.putObj l o')) (hb0 : Ext w0 w) (hO : ∀ b, O b → b < w.heap.size) (hps : ∀ x, (encs x).size = ps.size)
    (I : List α → World → Prop) (Ix : Code → List α → World → Prop) (hI : ∀ s A B, I s A → ButF O w.heap.size A B → I s B) (hIx : ∀ c s A B, Ix c s A → ButF O w.heap.size A B → Ix c s B) (h0 : I [] w) (hIV : ∀ s A, I s A → V A) (hKx : ∀ {A B : World}, w.heap.size ≤ A.heap.size → Ext A B → Kp A B) (A : α → Act → World → Prop) (hA : ∀ x a B C, A x a B → ButF (fun _ => False) w.heap.size B C → A x a C)
    (hassign : ∀ (l : Nat) (x : α) (W : World) (K : Act → World → Prop), w.heap.size ≤ W.heap.size → (∀ a' W', Ext W W' → A x a' W' → K a' W') →
      assign.wpIn (F.inRound l) (n - 1 - 1) P (Exit.then K (fun _ _ _ => False)) { tmps := (ps.zip (encs x)).foldl (fun t (p, v) => t.setIfInBounds p v) a.tmps, defers := [] } W)
    (hbody : ∀ (l : Nat) (pre : List α) (x : α) (a' : Act) (W : World), I pre W → A x a' W → pre.length < N → body.wpIn (F.inRound l) (n - 1 - 1) P (ownPostK Kp I Ix (pre ++ [x]) W) a' W)
    (hdone : ∀ (D : Nat) (xs : List α) (W : World), w.heap.size ≤ D → S xs → I xs W → W.heap[D]? = some (.deferred (some [])) → Q .normal { a with defers := { target := .collected D, args := #[] } :: a.defers } W)
    (hstop : ∀ (D : Nat) (c : Code) (pre : List α) (W : World), w.heap.size ≤ D → Sp pre → Ix c pre W → W.heap[D]? = some (.deferred (some [])) → c.wpIn F n P Q { a with defers := { target := .collected D, args := #[] } :: a.defers } W) :
    (Code.rangeFunc g ps assign body).wpIn F n P Q a w := by
  refine wpIn_rangeFunc ?_
  intro fn hfn
  rw [hro]
  obtain ⟨rec, hrec⟩ : ∃ rec : LoopState → Option Code → Loop, rec = fun st pe => { state := st, pending := pe, fn, tmps := a.tmps, params := ps, assign, body, defers := w.heap.size } := ⟨_, rfl⟩
  obtain ⟨W1, hW1⟩ : ∃ W1, (w.alloc (.deferred (some []))).alloc (.loop (rec .ready none)) = W1 := ⟨_, rfl⟩
  have hL1 : W1.heap[w.heap.size + 1]? = some (.loop (rec .ready none)) := by
    rw [← hW1]; have := World.alloc_heap_new (w.alloc (.deferred (some []))) (.loop (rec .ready none)); rwa [World.size_alloc] at this
  have hK1 : W1.heap[w.heap.size]? = some (.deferred (some [])) := by
    rw [← hW1]; exact (Below.heap_alloc _ _ _ (by simp)).trans (World.alloc_heap_new w _)
  have hx1 : Ext w W1 := by rw [← hW1]; exact ((Ext.refl w).alloc _).alloc _
  have hI1 : I [] W1 := hI _ _ _ h0 ((hx1.but O).f _)
  have hb1 : Ext w0 W1 := hb0.trans hx1
  have hO0 : ¬O w.heap.size := fun h => by have := hO _ h; omega
  have hO1 : ¬O (w.heap.size + 1) := fun h => by have := hO _ h; omega
  refine ⟨w.heap.size + 1, [{ target := .collected w.heap.size, args := #[] }], W1, { target := .fn (.func gf) lb, args := #[.func (.yield (w.heap.size + 1)) #[] #[]] }, W1, gf,
    #[.func (.yield (w.heap.size + 1)) #[] #[]] ++ lb, W1, ?_, ?_, ?_, ?_, fun _ => h1, ?_⟩
  · rw [← hW1, hrec]; exact run_enterLoop_outer _ _ _ _ _
  · simp only [resolve, hg]
    simp [go_sem]
  · intro f' hf'; simp [Target.leads] at hf'; subst hf'; exact hFg
  · simp [invoke, go_sem, eg]
  · refine (hseq (w.heap.size + 1)
      (fun pre W => I pre W ∧ W.heap[w.heap.size + 1]? = some (.loop (rec .ready none)) ∧ W.heap[w.heap.size]? = some (.deferred (some [])))
      (fun pre W => ∃ c, Ix c pre W ∧ W.heap[w.heap.size + 1]? = some (.loop (rec .done (some c))) ∧ W.heap[w.heap.size]? = some (.deferred (some [])))
      W1 hb1 (fun s A hs => hIV s A hs.1)
      (fun s A B hs hg' => ⟨hI s A B hs.1 (hg'.f _), hg'.block _ _ hs.2.1 hO1, hg'.block _ _ hs.2.2 hO0⟩)
      (fun s A B hs hg' => by
        obtain ⟨c, hc, hl, hk⟩ := hs
        exact ⟨c, hIx c s A B hc (hg'.f _), hg'.block _ _ hl hO1, hg'.block _ _ hk hO0⟩)
      ?_ ⟨hI1, hL1, hK1⟩).mono ?_
    · rintro pre x W ⟨hi, hl, hk⟩ hlen
      have hlt : w.heap.size + 1 < W.heap.size := (Array.getElem?_eq_some_iff.1 hl).1
      have hy := run_yield (P := P) (args := encs x) hl (by rw [hrec]; exact hps x)
      rw [hrec] at hy
      refine ⟨fn, _, assign, body, hy, roundIn_of_wpIn hfn (hassign _ x W _ (by omega) (fun a' W' hx' ha' => ?_))⟩
      have hwx : Kp W W' := hKx (by omega) hx'
      replace hi := hI _ _ _ hi ((hx'.but O).f _)
      replace hl := hx'.heap hl
      replace hk := hx'.heap hk
      replace hlt : w.heap.size + 1 < W'.heap.size := (Array.getElem?_eq_some_iff.1 hl).1
      refine ⟨_, run_beginRound hl (by rw [hrec]), ?_⟩
      have hl2 : (W'.putObj (w.heap.size + 1) (.loop { rec .ready none with state := .busy })).heap[w.heap.size + 1]? = some (.loop { rec .ready none with state := .busy }) := World.putObj_heap_same hlt
      have hk2 : (W'.putObj (w.heap.size + 1) (.loop { rec .ready none with state := .busy })).heap[w.heap.size]? = some (.deferred (some [])) := (World.putObj_heap_other (by omega)).trans hk
      have hw2 : Kp W (W'.putObj (w.heap.size + 1) (.loop { rec .ready none with state := .busy })) := hKt hwx (hKb _ _ _ _ (by omega) hl rfl rfl)
      refine wpIn_mono (hbody _ pre x _ _ (hI _ _ _ hi (ButF.put _ hl rfl (by omega))) (hA _ _ _ _ ha' (ButF.put _ hl rfl (by omega))) hlen) ?_
      have fin : ∀ (jump : Option Code) (W3 : World), KeepsOthers (W'.putObj (w.heap.size + 1) (.loop { rec .ready none with state := .busy })) W3 →
          (Instr.endRound (w.heap.size + 1) jump).run P W3 = .ok (.bool jump.isNone) (W3.putObj (w.heap.size + 1) (.loop (rec (if jump.isNone then .ready else .done) jump))) ∧
          W3.heap[w.heap.size + 1]? = some (.loop { rec .ready none with state := .busy }) ∧
          (W3.putObj (w.heap.size + 1) (.loop (rec (if jump.isNone then .ready else .done) jump))).heap[w.heap.size + 1]? = some (.loop (rec (if jump.isNone then .ready else .done) jump)) ∧
          (W3.putObj (w.heap.size + 1) (.loop (rec (if jump.isNone then .ready else .done) jump))).heap[w.heap.size]? = some (.deferred (some [])) := fun jump W3 hk3 => by
        have hl3 := hk3.same _ _ hl2 rfl
        have := run_endRound (P := P) jump hl3
        rw [hrec] at this ⊢
        exact ⟨this, by rw [hrec] at hl3; exact hl3, World.putObj_heap_same (Array.getElem?_eq_some_iff.1 hl3).1, (World.putObj_heap_other (by omega)).trans (hk3.same _ _ hk2 rfl)⟩
      rintro e a3 W3 hp
      cases e with
      | normal =>
        obtain ⟨hk3, hkp3, hi3⟩ := hp
        obtain ⟨hr, hl3, hl4, hk4⟩ := fin none W3 hk3
        exact ⟨_, _, hr, .inl ⟨rfl, ⟨hI _ _ _ hi3 (ButF.put _ hl3 rfl (by omega)), hl4, hk4⟩, hKt (hKt hw2 hkp3) (hKb _ _ _ _ (by omega) hl3 rfl rfl)⟩⟩
      | ret =>
        obtain ⟨hk3, hi3⟩ := hp
        obtain ⟨hr, hl3, hl4, hk4⟩ := fin (some .ret) W3 hk3
        exact ⟨_, _, hr, .inr ⟨rfl, .ret, hIx _ _ _ _ hi3 (ButF.put _ hl3 rfl (by omega)), hl4, hk4⟩⟩
      | exit id =>
        obtain ⟨hk3, hi3⟩ := hp
        obtain ⟨hr, hl3, hl4, hk4⟩ := fin (some (.exit id)) W3 hk3
        exact ⟨_, _, hr, .inr ⟨rfl, .exit id, hIx _ _ _ _ hi3 (ButF.put _ hl3 rfl (by omega)), hl4, hk4⟩⟩
      | goto t =>
        obtain ⟨hk3, hi3⟩ := hp
        obtain ⟨hr, hl3, hl4, hk4⟩ := fin (some (.goto t)) W3 hk3
        exact ⟨_, _, hr, .inr ⟨rfl, .goto t, hIx _ _ _ _ hi3 (ButF.put _ hl3 rfl (by omega)), hl4, hk4⟩⟩
      | panic ch => exact hp.elim
      | outgrown => exact hp.elim
    · rintro e W2 ⟨⟨v, rfl⟩, (⟨xs, hS, hi, hl, hk⟩ | ⟨pre, hSp, c, hi, hl, hk⟩)⟩
      · exact ⟨none, _, by have := run_endLoop (P := P) hl (by rw [hrec]; simp); rw [hrec] at this; exact this, hdone _ xs _ (Nat.le_refl _) hS (hI _ _ _ hi (ButF.put _ hl rfl (by omega))) ((World.putObj_heap_other (by omega)).trans hk)⟩
      · exact ⟨some c, _, by have := run_endLoop (P := P) hl (by rw [hrec]; simp); rw [hrec] at this; exact this, hstop _ c pre _ (Nat.le_refl _) hSp (hIx _ _ _ _ hi (ButF.put _ hl rfl (by omega))) ((World.putObj_heap_other (by omega)).trans hk)⟩
end Go.Proofs.Ytcoelhpmkhimpaa

namespace Go.Proofs.Ytcoelhpmkhimpaa
open Go.RowKit
set_option linter.unusedVariables false
set_option linter.unusedSimpArgs false
attribute [local go_sem] Oper.semAt_some
set_option maxRecDepth 100000 in
set_option maxHeartbeats 8000000 in
theorem days1K_any (n : Nat) (y pl pa : Nat) (la : Option Addr) (ln lc : Nat) (l : List March) (s : Breed) (c : Camel) (O : Nat → Prop) (W : World) (hL : W.heap[pl]? = some (.cells #[.slice la ln lc] 48 (0, 0))) (hA : W.heap[pa]? = some (.cells (bCells s c).toArray 122 (0, 0))) (hl : DaysAt W la ln l)
    (hb : BreedOk s) (hc : CamelOk s c) (hd : ∀ m ∈ l, DayOk m) (hln : ln ≤ 1000000) (hlc : ln ≤ lc) (hlm : lc ≤ maxLen)
    (B0 : Nat) (hBl : pl < B0) (hBa : pa < B0) (hBw : B0 ≤ W.heap.size) (hOl : ¬O pl) (hOa : ¬O pa) (hOs : ∀ x, la = some x → ¬O x.block ∧ x.block ≠ pa ∧ x.block < B0) (hne : pl ≠ pa) (hO : ∀ b, O b → b < B0) (V : World → Prop) (Kp : World → World → Prop) (hK : ∀ wr A B, V wr → Ext wr A → Kp A B → KpO (fun b => O b ∨ (B0 ≤ b ∧ b < wr.heap.size)) A B) (J Jx : List DayStep → World → Prop) (hV : ∀ s A, J s A → V A) (hJ : ∀ s A B, J s A → But (fun b => b = pa) A B → J s B)
    (hY : ∀ pre x W1, J pre W1 → pre.length < (seqOf s c l).length → YieldAt Fence.wide (n - 1) Try.prog y (DayStep.enc x) W1 fun e W' =>
      (e = .returned (.bool true) ∧ J (pre ++ [x]) W' ∧ Kp W1 W') ∨ (e = .returned (.bool false) ∧ Jx (pre ++ [x]) W'))
    (h0 : J [] W) :
    CallsIn Fence.wide n Try.prog 97 #[.func (.yield y) #[] #[], .pointer (some ⟨pl, 0, none⟩), .pointer (some ⟨pa, 0, none⟩)] W fun e W' => (∃ v, e = .returned v) ∧ ((∃ xs, xs = seqOf s c l ∧ J xs W') ∨ (∃ pre, pre <+: seqOf s c l ∧ Jx pre W')) := by
  have hll := hl.1
  unfold maxLen at hlm
  obtain ⟨z, _⟩ := (Ext.refl W).box hL
  have HL := Lib.hid hL
  have HA := Lib.hid hA
  have Hl := Lib.hid hl
  have Hb := Lib.hid hb
  have Hc := Lib.hid hc
  have Hd := Lib.hid hd
  have HOl := Lib.hid hOl
  have HOa := Lib.hid hOa
  have HOs := Lib.hid hOs
  have HO := Lib.hid hO
  have HV := Lib.hid hV
  have HK := Lib.hid hK
  have HJ := Lib.hid hJ
  have HY := Lib.hid hY
  have Hll := Lib.hid hll
  clear hL hA hl hb hc hd hOl hOa hOs hO hV hK hJ hY hll
  refine callsIn_of_wp Try.func97 rfl trivial ?_ rfl
  simp only [Try.ntmps97, List.size_toArray, List.length_cons, List.length_nil, Nat.reduceAdd, Nat.reduceSub, Array.replicate_succ, Array.replicate_zero, List.push_toArray, List.append_toArray, List.nil_append, List.cons_append]
  gi_wp2
  gi_loopw [10] (fun i wr => ∃ (k : Nat) (pre : List DayStep) (c' : Camel), k ≤ ln ∧ i = .int .i64 k ∧ J pre wr ∧ pre ++ seqOf s c' (l.drop k) = seqOf s c l ∧ CamelOk s c' ∧ wr.heap[pa]? = some (.cells (bCells s c').toArray 122 (0, 0)) ∧ wr.heap[pl]? = some (.cells #[.slice la ln lc] 48 (0, 0)) ∧ DaysAt wr la ln l ∧ W.heap.size ≤ wr.heap.size) (fun i _ => ln - (intOf i).toNat)
  case atStart => exact ⟨0, [], c, Nat.zero_le _, rfl, h0, rfl, Hc.out, HA.out, HL.out, Hl.out, Nat.le_refl _⟩
  case round =>
    obtain ⟨k, pre, c', hk, rfl, hj, hseq, hcc, ha, hlw, hlt', hsz⟩ := hrel
    clear h0
    by_cases hlt : k < ln
    · have hltB : decide ((k : Int) < (ln : Int)) = true := by simp; omega
      have hVw := HV.out _ _ hj
      obtain ⟨lb, lo, m, rfl, hmk, hlb, c0, c1, c2, c3, c4, c5, c6, c7⟩ := hlt'.get k hlt
      have hdm := Hd.out m (List.mem_of_getElem? hmk)
      rw [seq_drop hmk] at hseq
      have hday := fun W => day_any s c' m W Hb.out hcc hdm
      rw [(dayVal_step s c' m).1, (dayVal_step s c' m).2, beastVal_eq, beastVal_eq] at hday
      obtain ⟨hh, ll, ⟨e0, e1⟩, ⟨g0, g1⟩, ⟨d0, d1⟩⟩ := m
      unfold March.val at hday
      simp only at c0 c1 c2 c3 c4 c5 c6 c7 hday
      have hx1 : Ext wr (wr.alloc (.cells #[.int .i64 hh, .int .i64 ll, .int .i64 e0, .int .i64 e1, .int .i64 g0, .int .i64 g1, .int .i64 d0, .int .i64 d1] 29)) := (Ext.refl _).alloc _
      have ha1 := hx1.heap ha
      have hpl := heap_lt ha
      cases hdi : diesB s c' ⟨hh, ll, ⟨e0, e1⟩, ⟨g0, g1⟩, ⟨d0, d1⟩⟩ with
      | true =>
        rw [hdi] at hseq
        simp only [if_true] at hseq
        have hst : stepOf s c' ⟨hh, ll, ⟨e0, e1⟩, ⟨g0, g1⟩, ⟨d0, d1⟩⟩ = ⟨zBreed, zcamel, 2⟩ := by unfold stepOf; rw [hdi]; rfl
        rw [hst] at hday
        have hY2 := fun W4 (hx : Ext wr W4) => HY.out pre ⟨zBreed, zcamel, 2⟩ W4 (HJ.out _ _ _ hj (hx.but _)) (by rw [← hseq]; simp)
        have hxs : pre ++ [⟨zBreed, zcamel, 2⟩] = seqOf s c l := hseq
        unfold DayStep.enc at hY2
        rw [beastVal_eq] at hY2
        simp only at hY2
        have Hday := Lib.hid hday
        have Hx1 := Lib.hid hx1
        have Ha1 := Lib.hid ha1
        have HY2 := Lib.hid hY2
        have Hseq := Lib.hid hseq
        have Hcc := Lib.hid hcc
        have Ha := Lib.hid ha
        have Hlw := Lib.hid hlw
        have Hlt' := Lib.hid hlt'
        have Hxs := Lib.hid hxs
        have HVw := Lib.hid hVw
        clear hday hx1 ha1 hY2 hseq hcc ha hlw hlt' hxs hVw
        clear hdm hmk hst hj hdi
        gi_wp2_with (first | (refine wpListW_load_part rfl 122 (.tmp 2) rfl pa 0 rfl 122 _ (0, 0) _ Ha1.out (bCells s c') rfl Try.underlying122 rfl (by kernel_rfl) ?_) | (refine ⟨trivial, fun h => (by cases h), ?_⟩; gi_at_call 91; refine (callsIn_wide.2 (Hday.out _)).mono ?_; rintro e w2 ⟨rfl, hx2⟩) | (refine wpListW_store_row rfl 122 (.tmp 6) (.tmp 18) rfl w2.heap.size (bCells zBreed zcamel).toArray rfl rfl 122 zbCells (heap_alloc_new w2 _) (by kernel_rfl) (by kernel_rfl) (by kernel_rfl) ?_; have hx24 : Ext wr w2 := Hx1.out.trans hx2; have hx4 : Ext wr ((w2.alloc (.cells #[.int .i64 0, .int .i64 0, .int .i64 0, .int .i64 0, .int .i64 0, .int .i64 0, .int .i64 0, .int .i64 0, .int .i64 0, .int .i64 0, .int .i64 0, .int .i64 0, .int .i64 0, .int .i64 0, .int .i64 0, .int .i64 0, .int .i64 0, .int .i64 0, .int .i64 0, .int .i64 0, .int .i64 0, .int .i64 0, .int .i64 0, .bool false] 122)).setRow w2.heap.size (bCells zBreed zcamel).toArray) := below_setRow (hx24.alloc _) hx24.size _; have hb4 := setRow_heap _ w2.heap.size _ (bCells zBreed zcamel).toArray 122 (0, 0) (heap_alloc_new w2 (.cells #[.int .i64 0, .int .i64 0, .int .i64 0, .int .i64 0, .int .i64 0, .int .i64 0, .int .i64 0, .int .i64 0, .int .i64 0, .int .i64 0, .int .i64 0, .int .i64 0, .int .i64 0, .int .i64 0, .int .i64 0, .int .i64 0, .int .i64 0, .int .i64 0, .int .i64 0, .int .i64 0, .int .i64 0, .int .i64 0, .int .i64 0, .bool false] 122)); have hp6 : wr.heap.size ≤ w2.heap.size := hx24.size; generalize (w2.alloc (.cells #[.int .i64 0, .int .i64 0, .int .i64 0, .int .i64 0, .int .i64 0, .int .i64 0, .int .i64 0, .int .i64 0, .int .i64 0, .int .i64 0, .int .i64 0, .int .i64 0, .int .i64 0, .int .i64 0, .int .i64 0, .int .i64 0, .int .i64 0, .int .i64 0, .int .i64 0, .int .i64 0, .int .i64 0, .int .i64 0, .int .i64 0, .bool false] 122)).setRow w2.heap.size (bCells zBreed zcamel).toArray = W4 at *; generalize w2.heap.size = p6 at *; obtain ⟨fn', tmps, assign, body, hy, hR⟩ := HY2.out W4 hx4; have HR := Lib.hid hR; clear hR; have Hb4 := Lib.hid hb4; clear hb4; have Hx4 := Lib.hid hx4; clear hx4) | (refine wpListW_load_part rfl 122 (.tmp 6) rfl p6 0 rfl 122 _ (0, 0) _ Hb4.out (bCells zBreed zcamel) rfl Try.underlying122 rfl (by kernel_rfl) ?_))
        refine ⟨fun h => (by cases h), HR.out.mono ?_⟩
        rintro e W3 (⟨rfl, hj3, hk3⟩ | ⟨rfl, hjx3⟩)
        · gi_wp2
          refine bodyPost_ret (results_none rfl _ _ _) rfl ?_
          exact ⟨⟨_, rfl⟩, .inl ⟨_, Hxs.out, hj3⟩⟩
        · gi_wp2
          refine bodyPost_ret (results_none rfl _ _ _) rfl ?_
          exact ⟨⟨_, rfl⟩, .inr ⟨_, by rw [Hxs.out]; exact List.prefix_refl _, hjx3⟩⟩
      | false =>
        rw [hdi] at hseq
        simp only [Bool.false_eq_true, if_false] at hseq
        have hcn := next_is Hb.out hcc hdm hdi
        obtain ⟨F, hF, hF2⟩ : ∃ F : Int, (if safeB s c' ⟨hh, ll, ⟨e0, e1⟩, ⟨g0, g1⟩, ⟨d0, d1⟩⟩ then 0 else 1) = F ∧ (F == 2) = false := ⟨_, rfl, by split <;> rfl⟩
        have hst : stepOf s c' ⟨hh, ll, ⟨e0, e1⟩, ⟨g0, g1⟩, ⟨d0, d1⟩⟩ = ⟨s, nextOf s c' ⟨hh, ll, ⟨e0, e1⟩, ⟨g0, g1⟩, ⟨d0, d1⟩⟩, F⟩ := by unfold stepOf; rw [hdi, hF]; rfl
        rw [hst] at hday hseq
        generalize nextOf s c' ⟨hh, ll, ⟨e0, e1⟩, ⟨g0, g1⟩, ⟨d0, d1⟩⟩ = cn at *
        have hY2 := fun W4 (hx : Ext wr W4) => HY.out pre ⟨s, cn, F⟩ W4 (HJ.out _ _ _ hj (hx.but _)) (by rw [← hseq]; simp)
        have hxs : (pre ++ [⟨s, cn, F⟩]) ++ seqOf s cn (l.drop (k + 1)) = seqOf s c l := by rw [← hseq]; simp
        have Hcn := Lib.hid hcn
        clear hcn
        clear hF
        unfold DayStep.enc at hY2
        rw [beastVal_eq] at hY2
        simp only at hY2
        have Hday := Lib.hid hday
        have Hx1 := Lib.hid hx1
        have Ha1 := Lib.hid ha1
        have HY2 := Lib.hid hY2
        have Hseq := Lib.hid hseq
        have Hcc := Lib.hid hcc
        have Ha := Lib.hid ha
        have Hlw := Lib.hid hlw
        have Hlt' := Lib.hid hlt'
        have Hxs := Lib.hid hxs
        have HVw := Lib.hid hVw
        clear hday hx1 ha1 hY2 hseq hcc ha hlw hlt' hxs hVw
        clear hdm hmk hst hj hdi
        gi_wp2_with (first | (refine wpListW_load_part rfl 122 (.tmp 2) rfl pa 0 rfl 122 _ (0, 0) _ Ha1.out (bCells s c') rfl Try.underlying122 rfl (by kernel_rfl) ?_) | (refine ⟨trivial, fun h => (by cases h), ?_⟩; gi_at_call 91; refine (callsIn_wide.2 (Hday.out _)).mono ?_; rintro e w2 ⟨rfl, hx2⟩) | (refine wpListW_store_row rfl 122 (.tmp 6) (.tmp 18) rfl w2.heap.size (bCells s cn).toArray rfl rfl 122 zbCells (heap_alloc_new w2 _) (by kernel_rfl) (by kernel_rfl) (by kernel_rfl) ?_; have hx24 : Ext wr w2 := Hx1.out.trans hx2; have hx4 : Ext wr ((w2.alloc (.cells #[.int .i64 0, .int .i64 0, .int .i64 0, .int .i64 0, .int .i64 0, .int .i64 0, .int .i64 0, .int .i64 0, .int .i64 0, .int .i64 0, .int .i64 0, .int .i64 0, .int .i64 0, .int .i64 0, .int .i64 0, .int .i64 0, .int .i64 0, .int .i64 0, .int .i64 0, .int .i64 0, .int .i64 0, .int .i64 0, .int .i64 0, .bool false] 122)).setRow w2.heap.size (bCells s cn).toArray) := below_setRow (hx24.alloc _) hx24.size _; have hb4 := setRow_heap _ w2.heap.size _ (bCells s cn).toArray 122 (0, 0) (heap_alloc_new w2 (.cells #[.int .i64 0, .int .i64 0, .int .i64 0, .int .i64 0, .int .i64 0, .int .i64 0, .int .i64 0, .int .i64 0, .int .i64 0, .int .i64 0, .int .i64 0, .int .i64 0, .int .i64 0, .int .i64 0, .int .i64 0, .int .i64 0, .int .i64 0, .int .i64 0, .int .i64 0, .int .i64 0, .int .i64 0, .int .i64 0, .int .i64 0, .bool false] 122)); have hp6 : wr.heap.size ≤ w2.heap.size := hx24.size; generalize (w2.alloc (.cells #[.int .i64 0, .int .i64 0, .int .i64 0, .int .i64 0, .int .i64 0, .int .i64 0, .int .i64 0, .int .i64 0, .int .i64 0, .int .i64 0, .int .i64 0, .int .i64 0, .int .i64 0, .int .i64 0, .int .i64 0, .int .i64 0, .int .i64 0, .int .i64 0, .int .i64 0, .int .i64 0, .int .i64 0, .int .i64 0, .int .i64 0, .bool false] 122)).setRow w2.heap.size (bCells s cn).toArray = W4 at *; generalize w2.heap.size = p6 at *; obtain ⟨fn', tmps, assign, body, hy, hR⟩ := HY2.out W4 hx4; have HR := Lib.hid hR; clear hR; have Hb4 := Lib.hid hb4; clear hb4; have Hx4 := Lib.hid hx4; clear hx4) | (refine wpListW_load_part rfl 122 (.tmp 6) rfl p6 0 rfl 122 _ (0, 0) _ Hb4.out (bCells s cn) rfl Try.underlying122 rfl (by kernel_rfl) ?_))
        refine ⟨fun h => (by cases h), HR.out.mono ?_⟩
        rintro e W3 (⟨rfl, hj3, hk3⟩ | ⟨rfl, hjx3⟩)
        · replace hk3 := HK.out _ _ _ HVw.out Hx4.out hk3
          have hn6 : ¬(O p6 ∨ (B0 ≤ p6 ∧ p6 < wr.heap.size)) := fun h => by
            rcases h with h | h
            · have := HO.out _ h
              have := Hx4.out.size
              omega
            · omega
          have hna : ¬(O pa ∨ (B0 ≤ pa ∧ pa < wr.heap.size)) := fun h => h.elim HOa.out (fun h => by omega)
          have hnl : ¬(O pl ∨ (B0 ≤ pl ∧ pl < wr.heap.size)) := fun h => h.elim HOl.out (fun h => by omega)
          have hb6 := hk3.cells Hb4.out hn6
          have ha3 := hk3.cells (Hx4.out.heap Ha.out) hna
          have hl3 := hk3.cells (Hx4.out.heap Hlw.out) hnl
          have hm3 : DaysAt W3 (some ⟨lb, lo, none⟩) ln l := ⟨Hll.out, (Hlt'.out.ext Hx4.out).2.kpO hk3 (fun x hx h => h.elim (HOs.out x hx).1 (fun h => by have := (HOs.out x hx).2.2; omega))⟩
          have hbu : But (fun b => b = pa) W3 (W3.setRow pa (bCells s cn).toArray) := but_setRow _ _ _ rfl
          have hj5 := HJ.out _ _ _ hj3 hbu
          have ha5 := setRow_heap W3 pa _ (bCells s cn).toArray 122 (0, 0) ha3
          have hl5 := hbu.block _ _ hl3 hne
          have hm5 : DaysAt (W3.setRow pa (bCells s cn).toArray) (some ⟨lb, lo, none⟩) ln l := hm3.same (fun x hx => setRow_other _ _ _ _ (HOs.out x hx).2.1)
          have hs5 : W.heap.size ≤ (W3.setRow pa (bCells s cn).toArray).heap.size := Nat.le_trans hsz (Nat.le_trans Hx4.out.size (Nat.le_trans hk3.size hbu.size))
          have Hb6 := Lib.hid hb6
          have Ha3 := Lib.hid ha3
          have Hj5 := Lib.hid hj5
          have Ha5 := Lib.hid ha5
          have Hl5 := Lib.hid hl5
          have Hm5 := Lib.hid hm5
          have Hs5 := Lib.hid hs5
          clear hb6 ha3 hj5 ha5 hl5 hm5 hs5
          clear hj3 hk3 hbu hl3 hm3 hn6 hna hnl
          gi_wp2_with (first | (refine wpListW_load_part rfl 122 (.tmp 6) rfl p6 0 rfl 122 _ (0, 0) _ Hb6.out (bCells s cn) rfl Try.underlying122 rfl (by kernel_rfl) ?_) | (refine wpListW_store_row rfl 122 (.tmp 2) (.tmp 29) rfl pa (bCells s cn).toArray rfl rfl 122 _ Ha3.out (by kernel_rfl) (by kernel_rfl) (by kernel_rfl) ?_))
          go_roundw
          case rel => exact ⟨k + 1, _, cn, by omega, by go_num, Hj5.out, Hxs.out, Hcn.out, Ha5.out, Hl5.out, Hm5.out, Hs5.out⟩
          case measure => simp [intOf]; omega
        · gi_wp2
          refine bodyPost_ret (results_none rfl _ _ _) rfl ?_
          exact ⟨⟨_, rfl⟩, .inr ⟨_, by rw [← Hxs.out]; exact List.prefix_append _ _, hjx3⟩⟩
    · have hltB : decide ((k : Int) < (ln : Int)) = false := by simp; omega
      obtain rfl : k = ln := by omega
      have hall : pre = seqOf s c l := by
        rw [List.drop_of_length_le (by have := Hll.out; omega)] at hseq
        simpa [seqOf] using hseq
      have Hall := Lib.hid hall
      have Hj := Lib.hid hj
      clear hall hj
      clear hseq hcc ha hlw hlt'
      gi_wp2
      go_end0
      exact ⟨⟨_, rfl⟩, .inl ⟨_, Hall.out, Hj.out⟩⟩
theorem days_stopsK (n : Nat) (pl pa : Nat) (la : Option Addr) (ln lc : Nat) (l : List March) (s : Breed) (c : Camel) (O : Nat → Prop) (w : World) (hL : w.heap[pl]? = some (.cells #[.slice la ln lc] 48 (0, 0))) (hA : w.heap[pa]? = some (.cells (bCells s c).toArray 122 (0, 0))) (hl : DaysAt w la ln l)
    (hb : BreedOk s) (hc : CamelOk s c) (hd : ∀ m ∈ l, DayOk m) (hln : ln ≤ 1000000) (hlc : ln ≤ lc) (hlm : lc ≤ maxLen)
    (hOl : ¬O pl) (hOa : ¬O pa) (hOs : ∀ x, la = some x → ¬O x.block ∧ x.block ≠ pa ∧ x.block < w.heap.size) (hne : pl ≠ pa) (hO : ∀ b, O b → b < w.heap.size) (V : World → Prop) (Kp : World → World → Prop) (hK : ∀ wr A B, V wr → Ext wr A → Kp A B → KpO (fun b => O b ∨ (w.heap.size ≤ b ∧ b < wr.heap.size)) A B) :
    SeqStopsK Fence.wide n Try.prog 97 #[.pointer (some ⟨pl, 0, none⟩), .pointer (some ⟨pa, 0, none⟩)] DayStep.enc V Kp (fun xs => xs = seqOf s c l) (fun pre => pre <+: seqOf s c l) (seqOf s c l).length (fun b => b = pa) w := fun y J Jx W hW hV hJ _ hY h0 =>
  days1K_any n y pl pa la ln lc l s c O W (hW.heap hL) (hW.heap hA) (hl.ext hW) hb hc hd hln hlc hlm w.heap.size (heap_lt hL) (heap_lt hA) hW.size hOl hOa hOs hne hO V Kp hK J Jx hV hJ hY h0
end Go.Proofs.Ytcoelhpmkhimpaa

namespace Go.Proofs.Ytcoelhpmkhimpaa
open Go.RowKit
set_option linter.unusedVariables false
set_option linter.unusedSimpArgs false
attribute [local go_sem] Oper.semAt_some
def lastsVal (s : Breed) (c : Camel) (m : March) : Span × Int := if askDays s c [m] ≠ 0 then (⟨0, 0⟩, askDays s c [m]) else (⟨(lastsOf s m c 60).1, (lastsOf s m c 60).2⟩, 0)
theorem ask_zero {s : Breed} {c : Camel} {l : List March} (h : askDays s c l = 0) : BreedOk s ∧ CamelOk s c ∧ l.length ≤ 60 ∧ ∀ m ∈ l, DayOk m := by
  unfold askDays at h
  by_cases h1 : camelErr s c = 0
  · rw [if_neg (by simp [h1])] at h
    by_cases h2 : 60 < l.length
    · rw [if_pos h2] at h; omega
    · rw [if_neg h2] at h
      unfold camelErr at h1
      unfold daysErr at h
      cases hb : breedOk s with
      | false => rw [hb] at h1; simp at h1
      | true =>
        cases hc : camelOk s c with
        | false => rw [hb, hc] at h1; simp at h1
        | true =>
          cases hd : l.all dayOk with
          | false => rw [hd] at h; simp at h
          | true => exact ⟨breedIs hb, camelIs.1 hc, by omega, fun m hm => dayIs (List.all_eq_true.1 hd m hm)⟩
  · rw [if_pos h1] at h
    exact absurd h h1
/-- the slice that holds a day sixty times -/
def IsRep (B : Nat) (m : March) : Rel := fun v W => ∃ g, v = .slice (some ⟨g, 0, none⟩) 60 60 ∧ B ≤ g ∧ DaysAt W (some ⟨g, 0, none⟩) 60 (List.replicate 60 m)
theorem isRep_ec (B : Nat) (m : March) (v : Value) : EC (IsRep B m v) := fun _ _ ⟨g, h1, h2, h3⟩ e => ⟨g, h1, h2, h3.ext e⟩
def LastsPost (s : Breed) (c : Camel) (m : March) (w : World) (e : Ending) (w' : World) : Prop := e = .returned (.tuple #[(lastsVal s c m).1.val, .int .i64 (lastsVal s c m).2]) ∧ Ext w w'
structure LastsI (w : World) (bn : Nat) (pre : List DayStep) (V : World) : Prop where
  ext : Ext w V
  r : V.heap[w.heap.size + 1 + 1 + 1]? = some (.cells #[.int .i64 0, .int .i64 0] 23 (0, 0))
  n : V.heap[bn]? = some (.cells #[.int .i64 (sureOf pre : Nat), .int .i64 (pre.length : Nat)] 23 (0, 0))
  s : V.heap[bn + 1]? = some (.cells #[.bool (allSure pre)] 4 (0, 0))
  ne : ∀ x ∈ pre, x.f ≠ 2
def LastsX (w : World) (bn : Nat) (c : Code) (pre : List DayStep) (V : World) : Prop := ∃ p x, pre = p ++ [x] ∧ x.f = 2 ∧ c = .exit 0 ∧ LastsI w bn p V
theorem LastsI.f {w : World} {bn pa lo : Nat} {pre : List DayStep} {A B : World} (h : LastsI w bn pre A) (h1 : w.heap.size ≤ pa) (h2 : w.heap.size ≤ lo) (h3 : w.heap.size + 1 + 1 + 1 ≠ pa) (h4 : bn ≠ pa) (h5 : bn + 1 ≠ pa) (k : ButF (fun b => b = pa) lo A B) : LastsI w bn pre B :=
  ⟨ButF.ext h.ext k (fun b hb => by subst hb; exact h1) h2, k.cells h.r h3, k.cells h.n h4, k.cells h.s h5, h.ne⟩
theorem LastsX.f {w : World} {bn pa lo : Nat} {c : Code} {pre : List DayStep} {A B : World} (h : LastsX w bn c pre A) (h1 : w.heap.size ≤ pa) (h2 : w.heap.size ≤ lo) (h3 : w.heap.size + 1 + 1 + 1 ≠ pa) (h4 : bn ≠ pa) (h5 : bn + 1 ≠ pa) (k : ButF (fun b => b = pa) lo A B) : LastsX w bn c pre B := by
  obtain ⟨p, x, e1, e2, e3, h⟩ := h
  exact ⟨p, x, e1, e2, e3, h.f h1 h2 h3 h4 h5 k⟩
theorem kpO_set {O : Nat → Prop} (W : World) {b i : Nat} (v : Value) (hO : O b) : KpO O W (W.setCell ⟨b, i, none⟩ v) :=
  ⟨by simp [World.setCell], fun k o hk _ hn => (Below.heap_setCell _ _ _ _ (fun e => hn (by simp only at e; rw [e]; exact hO))).trans hk⟩
theorem LastsI.two {w : World} {bn N M : Nat} {S T : Bool} {ps : List DayStep} {W : World} (hx : Ext w W) (hr : W.heap[w.heap.size + 1 + 1 + 1]? = some (.cells #[.int .i64 0, .int .i64 0] 23 (0, 0))) (hn : W.heap[bn]? = some (.cells #[.int .i64 (N : Nat), .int .i64 (M : Nat)] 23 (0, 0))) (hs : W.heap[bn + 1]? = some (.cells #[.bool S] 4 (0, 0)))
    (e1 : sureOf ps = N) (e2 : ps.length = M + 1) (e3 : allSure ps = T) (ne : ∀ x ∈ ps, x.f ≠ 2) (h1 : w.heap.size + 1 + 1 + 1 < bn) : LastsI w bn ps ((W.setCell ⟨bn, 1, none⟩ (.int .i64 ((M : Int) + 1))).setCell ⟨bn + 1, 0, none⟩ (.bool T)) := by
  refine ⟨(hx.setCell (p := ⟨bn, 1, none⟩) (by simp only; omega) _).setCell (p := ⟨bn + 1, 0, none⟩) (by simp only; omega) _, ?_, ?_, ?_, ne⟩
  · exact (Below.heap_setCell _ _ _ _ (by simp only; omega)).trans ((Below.heap_setCell _ _ _ _ (by simp only; omega)).trans hr)
  · refine (Below.heap_setCell _ _ _ _ (by simp only; omega)).trans ?_
    rw [heap_setCell_box, hn, e1, e2]
    rfl
  · rw [heap_setCell_box, (Below.heap_setCell _ _ _ _ (by simp only; omega)).trans hs, e3]
    rfl
theorem LastsI.three {w : World} {bn N M : Nat} {S T : Bool} {ps : List DayStep} {W : World} (hx : Ext w W) (hr : W.heap[w.heap.size + 1 + 1 + 1]? = some (.cells #[.int .i64 0, .int .i64 0] 23 (0, 0))) (hn : W.heap[bn]? = some (.cells #[.int .i64 (N : Nat), .int .i64 (M : Nat)] 23 (0, 0))) (hs : W.heap[bn + 1]? = some (.cells #[.bool S] 4 (0, 0)))
    (e1 : sureOf ps = N + 1) (e2 : ps.length = M + 1) (e3 : allSure ps = T) (ne : ∀ x ∈ ps, x.f ≠ 2) (h1 : w.heap.size + 1 + 1 + 1 < bn) : LastsI w bn ps (((W.setCell ⟨bn, 1, none⟩ (.int .i64 ((M : Int) + 1))).setCell ⟨bn + 1, 0, none⟩ (.bool T)).setCell ⟨bn, 0, none⟩ (.int .i64 ((N : Int) + 1))) := by
  refine ⟨((hx.setCell (p := ⟨bn, 1, none⟩) (by simp only; omega) _).setCell (p := ⟨bn + 1, 0, none⟩) (by simp only; omega) _).setCell (p := ⟨bn, 0, none⟩) (by simp only; omega) _, ?_, ?_, ?_, ne⟩
  · exact (Below.heap_setCell _ _ _ _ (by simp only; omega)).trans ((Below.heap_setCell _ _ _ _ (by simp only; omega)).trans ((Below.heap_setCell _ _ _ _ (by simp only; omega)).trans hr))
  · rw [heap_setCell_box, (Below.heap_setCell _ _ _ _ (by simp only; omega)), heap_setCell_box, hn, e1, e2]
    rfl
  · refine (Below.heap_setCell _ _ _ _ (by simp only; omega)).trans ?_
    rw [heap_setCell_box, (Below.heap_setCell _ _ _ _ (by simp only; omega)).trans hs, e3]
    rfl
set_option maxRecDepth 100000 in
set_option maxHeartbeats 8000000 in
theorem lasts_any (s : Breed) (c : Camel) (m : March) (w : World) : Calls Try.prog 14 #[s.val, c.val, m.val] w (LastsPost s c m w) := by
  have hck := fun (W : World) (b : Nat) (h : W.heap[b]? = some (.cells m.cells.toArray 29 (0, 0))) => check_any s c (some ⟨b, 0, none⟩) 1 1 [m] W (days_built (m := m) (n := 1) (by simpa [repCells] using h)) (by omega)
  have hrep := fun (W : World) (b : Nat) (h : W.heap[b]? = some (.cells m.cells.toArray 29 (0, 0))) => repeat_any b m W h
  have hfn := fun (ln lc : Nat) (la : Option Addr) (W : World) => daysFn_any s c la ln lc W
  rw [beastVal_eq] at hfn
  have hdef : lastsVal s c m = if askDays s c [m] ≠ 0 then (⟨0, 0⟩, askDays s c [m]) else (⟨(lastsOf s m c 60).1, (lastsOf s m c 60).2⟩, 0) := rfl
  have hz := @ask_zero s c [m]
  obtain ⟨Q, hQ⟩ : ∃ Q, LastsPost s c m w = Q := ⟨_, rfl⟩
  have hfin : ∀ lo hi k, lastsVal s c m = (⟨lo, hi⟩, k) → ∀ w', Ext w w' → Q (.returned (.tuple #[.agg #[.int .i64 lo, .int .i64 hi], .int .i64 k])) w' := fun lo hi k h w' hx => by
    rw [← hQ]
    unfold LastsPost
    rw [h]
    exact ⟨rfl, hx⟩
  rw [hQ]
  clear hQ
  obtain ⟨K, hK⟩ : ∃ K, askDays s c [m] = K := ⟨_, rfl⟩
  rw [hK] at hck hdef hz
  obtain ⟨W0, hW0⟩ : ∃ W0, (((w.alloc (.cells s.cells.toArray 25)).alloc (.cells c.cells.toArray 27)).alloc (.cells m.cells.toArray 29)).alloc (.cells #[.int .i64 0, .int .i64 0] 23) = W0 := ⟨_, rfl⟩
  have hx0 : Ext w W0 := by rw [← hW0]; exact ((((Ext.refl w).alloc _).alloc _).alloc _).alloc _
  have hb0 : W0.heap[w.heap.size]? = some (.cells s.cells.toArray 25 (0, 0)) := by rw [← hW0]; exact alloc_heap (alloc_heap (alloc_heap (heap_alloc_new w _) _) _) _
  have hc0 : W0.heap[w.heap.size + 1]? = some (.cells c.cells.toArray 27 (0, 0)) := by rw [← hW0]; exact alloc_heap (alloc_heap (alloc_at _ _ _ (by simp)) _) _
  have hm0 : W0.heap[w.heap.size + 1 + 1]? = some (.cells m.cells.toArray 29 (0, 0)) := by rw [← hW0]; exact alloc_heap (alloc_at _ _ _ (by simp)) _
  have hr0 : W0.heap[w.heap.size + 1 + 1 + 1]? = some (.cells #[.int .i64 0, .int .i64 0] 23 (0, 0)) := by rw [← hW0]; exact alloc_at _ _ _ (by simp)
  have hseq1 := @seq_lasts s m 60 c
  have hseq2 := @seq_lasts_stop s m 60 c
  have hsl := seq_len s (List.replicate 60 m) c
  rw [List.length_replicate] at hsl
  have hst := fun (W : World) (pl pa : Nat) (la : Option Addr) (ln lc : Nat) (O : Nat → Prop) (h1 : W.heap[pl]? = some (.cells #[.slice la ln lc] 48 (0, 0))) (h2 : W.heap[pa]? = some (.cells (bCells s c).toArray 122 (0, 0))) (h3 : DaysAt W la ln (List.replicate 60 m)) (hb : BreedOk s) (hc : CamelOk s c) (hd : DayOk m) => days_stops 2 pl pa la ln lc (List.replicate 60 m) s c O W h1 h2 h3 hb hc (fun x hx => by rw [(List.mem_replicate.1 hx).2]; exact hd)
  obtain ⟨ys, hys⟩ : ∃ ys, seqOf s c (List.replicate 60 m) = ys := ⟨_, rfl⟩
  obtain ⟨L, hL⟩ : ∃ L, lastsOf s m c 60 = L := ⟨_, rfl⟩
  rw [hys] at hseq1 hseq2 hsl hst
  rw [hL] at hseq1 hseq2 hdef
  clear hys hL hK
  have hd48 : ∀ (W W' : World) (a : Option Addr), DaysAt W a 60 (List.replicate 60 m) → True := fun _ _ _ _ => trivial
  clear hd48
  generalize lastsVal s c m = LV at *
  unfold bCells at hfn hst
  obtain ⟨fu, fe, ⟨r0, r1⟩, ⟨h0, h1⟩, ⟨t0, t1⟩, ⟨b0, b1⟩, ⟨u0, u1⟩, ⟨m0, m1⟩, hl, ⟨s0, s1⟩⟩ := s
  obtain ⟨⟨w0, w1⟩, ⟨k0, k1⟩, ⟨o0, o1⟩, mk⟩ := c
  obtain ⟨hh, ll, ⟨e0, e1⟩, ⟨g0, g1⟩, ⟨d0, d1⟩⟩ := m
  unfold Breed.val Camel.val at hck ⊢
  unfold March.val
  unfold Breed.cells at hb0 hW0
  unfold Camel.cells at hc0 hW0
  unfold March.cells at hm0 hW0 hck hrep
  simp only at hck hrep hfn hst hb0 hc0 hm0 hW0 ⊢
  have Hck := Lib.hid hck
  have Hrep := Lib.hid hrep
  have Hfn := Lib.hid hfn
  have Hx0 := Lib.hid hx0
  have Hb0 := Lib.hid hb0
  have Hc0 := Lib.hid hc0
  have Hm0 := Lib.hid hm0
  have Hr0 := Lib.hid hr0
  have Hfin := Lib.hid hfin
  have Hseq1 := Lib.hid hseq1
  have Hseq2 := Lib.hid hseq2
  have Hsl := Lib.hid hsl
  have Hz := Lib.hid hz
  have Hdef := Lib.hid hdef
  have Hst := Lib.hid hst
  clear hck hrep hfn hx0 hb0 hc0 hm0 hr0 hfin hseq1 hseq2 hsl hz hdef hst
  refine (callsIn_wide (n := 3)).1 ?_
  refine callsIn_of_wp_marks Try.func14 rfl trivial ?_ rfl
  simp only [Try.ntmps14, List.size_toArray, List.length_cons, List.length_nil, Nat.reduceAdd, Nat.reduceSub, Array.replicate_succ, Array.replicate_zero, List.push_toArray, List.append_toArray, List.nil_append, List.cons_append]
  refine wpIn_wide.2 ?_
  by_cases hk : K ≠ 0
  · have hkB : (K != 0) = true := by simpa using hk
    have hfk := Hfin.out 0 0 K (by rw [Hdef.out, if_pos hk])
    have Hfk := Lib.hid hfk
    clear hfk
    clear hk
    go_wp2_with (first | (refine wpList_load_part rfl 25 (.tmp 3) rfl w.heap.size 0 rfl 25 _ (0, 0) _ Hb0.out [.int .i64 fu, .int .i64 fe, .int .i64 r0, .int .i64 r1, .int .i64 h0, .int .i64 h1, .int .i64 t0, .int .i64 t1, .int .i64 b0, .int .i64 b1, .int .i64 u0, .int .i64 u1, .int .i64 m0, .int .i64 m1, .int .i64 hl, .int .i64 s0, .int .i64 s1] rfl Try.underlying25 rfl (by kernel_rfl) ?_) | (refine wpList_load_part rfl 27 (.tmp 4) rfl (w.heap.size + 1) 0 rfl 27 _ (0, 0) _ Hc0.out [.int .i64 w0, .int .i64 w1, .int .i64 k0, .int .i64 k1, .int .i64 o0, .int .i64 o1, .bool mk] rfl Try.underlying27 rfl (by kernel_rfl) ?_) | (refine wpList_load_part rfl 29 (.tmp 5) rfl (w.heap.size + 1 + 1) 0 rfl 29 _ (0, 0) _ Hm0.out [.int .i64 hh, .int .i64 ll, .int .i64 e0, .int .i64 e1, .int .i64 g0, .int .i64 g1, .int .i64 d0, .int .i64 d1] rfl Try.underlying29 rfl (by kernel_rfl) ?_) | (go_at_call 51; refine (Hck.out _ _ (heap_alloc_new _ _)).mono ?_; rintro e w1 ⟨rfl, hx1⟩; have hx01 := ((Ext.refl W0).alloc _).trans hx1; have hr1 := hx01.heap Hr0.out; have hrl := heap_lt hr1; obtain ⟨z1, z2⟩ := (Ext.refl w1).box hr1))
    refine marks_ret0 (results_cell_tmp (P := Try.prog) (fn := Try.f14) rfl _ _ (w.heap.size + 1 + 1 + 1) 23 #[.int .i64 0, .int .i64 0] (0, 0) _ rfl (set2_box hr1 _ _) Try.underlying23 rfl (by kernel_rfl)) ?_
    exact Hfk.out _ (set2_ext (Hx0.out.trans hx01) (by omega) _ _)
  · obtain rfl : K = 0 := by omega
    obtain ⟨hbo, hco, -, hdo⟩ := Hz.out rfl
    have hdo := hdo _ (List.mem_singleton_self _)
    have hdf := Hdef.out
    rw [if_neg (by simp)] at hdf
    have Hbo := Lib.hid hbo
    have Hco := Lib.hid hco
    have Hdo := Lib.hid hdo
    have Hdf := Lib.hid hdf
    clear hbo hco hdo hdf
    clear hk Hz Hdef
    go_upto_region 6 with (first | (refine wpList_load_part rfl 25 (.tmp 3) rfl w.heap.size 0 rfl 25 _ (0, 0) _ Hb0.out [.int .i64 fu, .int .i64 fe, .int .i64 r0, .int .i64 r1, .int .i64 h0, .int .i64 h1, .int .i64 t0, .int .i64 t1, .int .i64 b0, .int .i64 b1, .int .i64 u0, .int .i64 u1, .int .i64 m0, .int .i64 m1, .int .i64 hl, .int .i64 s0, .int .i64 s1] rfl Try.underlying25 rfl (by kernel_rfl) ?_) | (refine wpList_load_part rfl 27 (.tmp 4) rfl (w.heap.size + 1) 0 rfl 27 _ (0, 0) _ Hc0.out [.int .i64 w0, .int .i64 w1, .int .i64 k0, .int .i64 k1, .int .i64 o0, .int .i64 o1, .bool mk] rfl Try.underlying27 rfl (by kernel_rfl) ?_) | (refine wpList_load_part rfl 29 (.tmp 5) rfl (w.heap.size + 1 + 1) 0 rfl 29 _ (0, 0) _ Hm0.out [.int .i64 hh, .int .i64 ll, .int .i64 e0, .int .i64 e1, .int .i64 g0, .int .i64 g1, .int .i64 d0, .int .i64 d1] rfl Try.underlying29 rfl (by kernel_rfl) ?_) | (go_at_call 51; refine (Hck.out _ _ (heap_alloc_new _ _)).mono ?_; rintro e WA ⟨rfl, hx1⟩; have hx01 := ((Ext.refl W0).alloc _).trans hx1))
    have hn2 : ((WA.alloc (.cells #[.int .i64 0, .int .i64 0] 23)).alloc (.cells #[.bool true] 4)).heap[WA.heap.size]? = some (.cells #[.int .i64 0, .int .i64 0] 23 (0, 0)) := alloc_heap (heap_alloc_new WA _) _
    have hs2 : ((WA.alloc (.cells #[.int .i64 0, .int .i64 0] 23)).alloc (.cells #[.bool true] 4)).heap[WA.heap.size + 1]? = some (.cells #[.bool true] 4 (0, 0)) := alloc_at _ _ _ (by simp)
    have hx2 : Ext W0 ((WA.alloc (.cells #[.int .i64 0, .int .i64 0] 23)).alloc (.cells #[.bool true] 4)) := (hx01.alloc _).alloc _
    have hwa : w.heap.size + 1 + 1 + 1 < WA.heap.size := by
      have := heap_lt Hr0.out
      have := hx01.size
      omega
    generalize (WA.alloc (.cells #[.int .i64 0, .int .i64 0] 23)).alloc (.cells #[.bool true] 4) = W2 at *
    generalize WA.heap.size = bn at *
    clear hx01 hx1 hW0
    have hb2 := hx2.heap Hb0.out
    have hc2 := hx2.heap Hc0.out
    have hm2 := hx2.heap Hm0.out
    have Hn2 := Lib.hid hn2
    have Hs2 := Lib.hid hs2
    have Hx2 := Lib.hid hx2
    have Hb2 := Lib.hid hb2
    have Hc2 := Lib.hid hc2
    have Hm2 := Lib.hid hm2
    clear hn2 hs2 hx2 hb2 hc2 hm2
    refine wp_region_flow (.take [0, 1, 2, 3] (.flow [4, 5] [26, 27] [[], [0]] (.one 6 .done))) [6] (Ext W2) _ (by kernel_rfl) (by kernel_rfl) rfl (EC.ext W2) ((Ext.refl _).drew) ?_
    simp only [flowOf, treeOf, oneOp, twoOp, opsOf, consOp, callOF, List.getElem?_toArray, List.getElem?_cons_succ, List.getElem?_cons_zero]
    intro ι _ f hf
    have q0 := fun q => ((hf q).box Hb2.out).1
    have q1 := fun q => ((hf q).box Hc2.out).1
    have q2 := fun q => ((hf q).box Hm2.out).1
    clear hf
    repeat (go_big_quiet_step (fail))
    refine wpQuiet_nil ?_
    clear q0 q1 q2
    refine wpOF_flow [IsSl 29 1 #[.int .i64 hh, .int .i64 ll, .int .i64 e0, .int .i64 e1, .int .i64 g0, .int .i64 g1, .int .i64 d0, .int .i64 d1], IsRep W2.heap.size ⟨hh, ll, ⟨e0, e1⟩, ⟨g0, g1⟩, ⟨d0, d1⟩⟩] rfl ⟨isSl_ec 29 1 #[.int .i64 hh, .int .i64 ll, .int .i64 e0, .int .i64 e1, .int .i64 g0, .int .i64 g1, .int .i64 d0, .int .i64 d1], isRep_ec W2.heap.size ⟨hh, ll, ⟨e0, e1⟩, ⟨g0, g1⟩, ⟨d0, d1⟩⟩, trivial⟩ (flowSteps_cons ?_ (flowSteps_cons ?_ flowSteps_nil)) ?_
    · intro xs W hlen hS hn
      obtain ⟨x0, x1, rfl⟩ := len2 hlen
      simp only [puts, Act.put, List.setIfInBounds_toArray, List.set_cons_succ, List.set_cons_zero]
      go_wp2_with fail
      exact FlowPost.mk (.slice (some ⟨W.heap.size, 0, none⟩) 1 1) rfl ((Ext.refl _).alloc _) IsSl.new
    · intro xs W hlen hS hn
      obtain ⟨x0, x1, rfl⟩ := len2 hlen
      simp only [puts, Act.put, List.setIfInBounds_toArray, List.set_cons_succ, List.set_cons_zero]
      obtain ⟨b, rfl, hbs⟩ : IsSl 29 1 #[.int .i64 hh, .int .i64 ll, .int .i64 e0, .int .i64 e1, .int .i64 g0, .int .i64 g1, .int .i64 d0, .int .i64 d1] x0 W := hn.1
      go_wp2_with (go_at_call 53; refine (Hrep.out W b hbs).mono ?_; rintro e W1 ⟨g, rfl, hx1, hg1, hg2⟩)
      exact FlowPost.mk (.slice (some ⟨g, 0, none⟩) 60 60) rfl hx1 ⟨g, rfl, Nat.le_trans hS.size hg1, hg2⟩
    intro xs W hlen hS hn
    obtain ⟨x0, x1, rfl⟩ := len2 hlen
    simp only [puts, Act.put, List.setIfInBounds_toArray, List.set_cons_succ, List.set_cons_zero]
    obtain ⟨-, ⟨g, rfl, hg0, hg⟩, -⟩ := hn
    refine wpOT_one ?_
    go_wp2_with (go_at_call 52; refine (Hfn.out 60 60 _ _).mono ?_; rintro e W4 ⟨rfl, rfl⟩)
    refine wpOT_done ?_
    have hx4 : Ext W ((W.alloc (.cells #[.int .i64 fu, .int .i64 fe, .int .i64 r0, .int .i64 r1, .int .i64 h0, .int .i64 h1, .int .i64 t0, .int .i64 t1, .int .i64 b0, .int .i64 b1, .int .i64 u0, .int .i64 u1, .int .i64 m0, .int .i64 m1, .int .i64 hl, .int .i64 s0, .int .i64 s1, .int .i64 w0, .int .i64 w1, .int .i64 k0, .int .i64 k1, .int .i64 o0, .int .i64 o1, .bool mk] 122)).alloc (.cells #[.slice (some ⟨g, 0, none⟩) 60 60] 48)) := ((Ext.refl W).alloc _).alloc _
    have hpa : ((W.alloc (.cells #[.int .i64 fu, .int .i64 fe, .int .i64 r0, .int .i64 r1, .int .i64 h0, .int .i64 h1, .int .i64 t0, .int .i64 t1, .int .i64 b0, .int .i64 b1, .int .i64 u0, .int .i64 u1, .int .i64 m0, .int .i64 m1, .int .i64 hl, .int .i64 s0, .int .i64 s1, .int .i64 w0, .int .i64 w1, .int .i64 k0, .int .i64 k1, .int .i64 o0, .int .i64 o1, .bool mk] 122)).alloc (.cells #[.slice (some ⟨g, 0, none⟩) 60 60] 48)).heap[W.heap.size]? = some (.cells #[.int .i64 fu, .int .i64 fe, .int .i64 r0, .int .i64 r1, .int .i64 h0, .int .i64 h1, .int .i64 t0, .int .i64 t1, .int .i64 b0, .int .i64 b1, .int .i64 u0, .int .i64 u1, .int .i64 m0, .int .i64 m1, .int .i64 hl, .int .i64 s0, .int .i64 s1, .int .i64 w0, .int .i64 w1, .int .i64 k0, .int .i64 k1, .int .i64 o0, .int .i64 o1, .bool mk] 122 (0, 0)) := alloc_heap (heap_alloc_new W _) _
    have hpl : ((W.alloc (.cells #[.int .i64 fu, .int .i64 fe, .int .i64 r0, .int .i64 r1, .int .i64 h0, .int .i64 h1, .int .i64 t0, .int .i64 t1, .int .i64 b0, .int .i64 b1, .int .i64 u0, .int .i64 u1, .int .i64 m0, .int .i64 m1, .int .i64 hl, .int .i64 s0, .int .i64 s1, .int .i64 w0, .int .i64 w1, .int .i64 k0, .int .i64 k1, .int .i64 o0, .int .i64 o1, .bool mk] 122)).alloc (.cells #[.slice (some ⟨g, 0, none⟩) 60 60] 48)).heap[W.heap.size + 1]? = some (.cells #[.slice (some ⟨g, 0, none⟩) 60 60] 48 (0, 0)) := alloc_at _ _ _ (by simp)
    have hgW : g < W.heap.size := by
      obtain ⟨b, off, _, e, _, hb, _⟩ := hg.get 0 (by omega)
      cases e
      exact hb
    have hnW := heap_lt (hS.heap Hn2.out)
    have hsW := heap_lt (hS.heap Hs2.out)
    have hn2W := heap_lt Hn2.out
    have hs2W := heap_lt Hs2.out
    have hrW := heap_lt (hS.heap (Hx2.out.heap Hr0.out))
    have hwW := Nat.le_trans Hx0.out.size (Nat.le_trans Hx2.out.size hS.size)
    have hseq := Hst.out _ (W.heap.size + 1) W.heap.size (some ⟨g, 0, none⟩) 60 60 (fun b => b = bn ∨ b = bn + 1) hpl hpa (hg.ext hx4) Hbo.out Hco.out Hdo.out (by omega) (by omega) (by unfold maxLen; omega) (by omega) (by omega) (fun x hx => by cases hx; simp only; omega) (by omega) (fun b hb => by simp; omega)
    have hI0 : Ext w ((W.alloc (.cells #[.int .i64 fu, .int .i64 fe, .int .i64 r0, .int .i64 r1, .int .i64 h0, .int .i64 h1, .int .i64 t0, .int .i64 t1, .int .i64 b0, .int .i64 b1, .int .i64 u0, .int .i64 u1, .int .i64 m0, .int .i64 m1, .int .i64 hl, .int .i64 s0, .int .i64 s1, .int .i64 w0, .int .i64 w1, .int .i64 k0, .int .i64 k1, .int .i64 o0, .int .i64 o1, .bool mk] 122)).alloc (.cells #[.slice (some ⟨g, 0, none⟩) 60 60] 48)) := Hx0.out.trans (Hx2.out.trans (hS.trans hx4))
    have hIn := (hS.trans hx4).heap Hn2.out
    have hIs := (hS.trans hx4).heap Hs2.out
    have hIr := (Hx2.out.trans (hS.trans hx4)).heap Hr0.out
    have hsz4 : ((W.alloc (.cells #[.int .i64 fu, .int .i64 fe, .int .i64 r0, .int .i64 r1, .int .i64 h0, .int .i64 h1, .int .i64 t0, .int .i64 t1, .int .i64 b0, .int .i64 b1, .int .i64 u0, .int .i64 u1, .int .i64 m0, .int .i64 m1, .int .i64 hl, .int .i64 s0, .int .i64 s1, .int .i64 w0, .int .i64 w1, .int .i64 k0, .int .i64 k1, .int .i64 o0, .int .i64 o1, .bool mk] 122)).alloc (.cells #[.slice (some ⟨g, 0, none⟩) 60 60] 48)).heap.size = W.heap.size + 1 + 1 := by simp
    generalize ((W.alloc (.cells #[.int .i64 fu, .int .i64 fe, .int .i64 r0, .int .i64 r1, .int .i64 h0, .int .i64 h1, .int .i64 t0, .int .i64 t1, .int .i64 b0, .int .i64 b1, .int .i64 u0, .int .i64 u1, .int .i64 m0, .int .i64 m1, .int .i64 hl, .int .i64 s0, .int .i64 s1, .int .i64 w0, .int .i64 w1, .int .i64 k0, .int .i64 k1, .int .i64 o0, .int .i64 o1, .bool mk] 122)).alloc (.cells #[.slice (some ⟨g, 0, none⟩) 60 60] 48)) = W4 at *
    generalize W.heap.size = pa at *
    have Hseq := Lib.hid hseq
    have HI0 := Lib.hid hI0
    have HIn := Lib.hid hIn
    have HIs := Lib.hid hIs
    have HIr := Lib.hid hIr
    clear hseq hI0 hIn hIs hIr
    clear hx4 hpa hpl hg hS hlen hg0 Hst
    go_wp2_with fail
    refine (wpIn_wide (n := 3)).1 (wpIn_rangeFunc_but rfl (by omega) (gf := 97) (lb := #[.pointer (some ⟨pa + 1, 0, none⟩), .pointer (some ⟨pa, 0, none⟩)]) rfl trivial (enters_of Try.func97 (by kernel_rfl) rfl) Hseq.out kpO_t kpO_b (Ext.refl _) (fun b hb => by subst hb; omega) (fun _ => rfl)
      (LastsI w bn) (LastsX w bn)
      (fun q A B h k => h.f (by omega) (by omega) (by omega) (by omega) (by omega) k)
      (fun c q A B h k => h.f (by omega) (by omega) (by omega) (by omega) (by omega) k)
      ⟨HI0.out, HIr.out, HIn.out, HIs.out, by simp⟩ ?a1 ?assign ?body ?done ?stop)
    case assign =>
      intro l x W K hK
      gi_wp2
      simp [DayStep.enc]
      exact hK
    case body =>
      intro l pre x W hI hlt
      have hrl := heap_lt hI.r
      obtain ⟨y0, y1⟩ := (Ext.refl W).box hI.n
      obtain ⟨y2, y3⟩ := (Ext.refl W).box hI.s
      have hnl := heap_lt hI.n
      have hsl := heap_lt hI.s
      have hple : pre.length ≤ 60 := by have := Hsl.out; omega
      have hsle := sure_le pre
      obtain ⟨xb, xc, xf⟩ := x
      by_cases h2 : xf = 2
      · have h2B : (xf == 2) = true := by simpa using h2
        have HI := Lib.hid hI
        clear hI
        gi_wp2
        exact ⟨KeepsOthers.refl _, pre, ⟨xb, xc, xf⟩, rfl, h2, rfl, HI.out⟩
      · have h2B : (xf == 2) = false := by simpa using h2
        obtain ⟨S, hS⟩ : ∃ S, allSure pre = S := ⟨_, rfl⟩
        obtain ⟨N, hN⟩ : ∃ N, sureOf pre = N := ⟨_, rfl⟩
        have hsn := sure_snoc pre ⟨xb, xc, xf⟩
        have han := allSure_snoc pre ⟨xb, xc, xf⟩
        have hin := hI.n
        have his := hI.s
        rw [hS, hN] at hsn
        rw [hS] at han y2 his
        rw [hN] at y0 hsle hin
        simp only at hsn han
        have hsm : ∀ y ∈ pre ++ [⟨xb, xc, xf⟩], y.f ≠ 2 := fun y hy => by
          rcases List.mem_append.1 hy with h | h
          · exact hI.ne y h
          · rw [List.mem_singleton.1 h]
            exact h2
        have hle2 : (pre ++ [(⟨xb, xc, xf⟩ : DayStep)]).length = pre.length + 1 := by simp
        generalize pre.length = M at *
        have hIe := hI.ext
        have hIr := hI.r
        by_cases h0 : xf = 0
        · have h0B : (xf == 0) = true := by simpa using h0
          rw [h0B, Bool.and_true] at hsn han
          cases S
          · rw [if_neg (by simp)] at hsn
            have HIe := Lib.hid hIe
            have HIr := Lib.hid hIr
            have Hin := Lib.hid hin
            have His := Lib.hid his
            have Hsn := Lib.hid hsn
            have Han := Lib.hid han
            have Hsm := Lib.hid hsm
            have Hle2 := Lib.hid hle2
            clear hIe hIr hin his hsn han hsm hle2
            clear hS hN hI h2 h0
            gi_wp2
            exact ⟨(KeepsOthers.setCell _ _ _).trans (KeepsOthers.setCell _ _ _), (kpO_set _ _ (.inl rfl)).trans (kpO_set _ _ (.inr rfl)), LastsI.two HIe.out HIr.out Hin.out His.out Hsn.out Hle2.out Han.out Hsm.out (by omega)⟩
          · rw [if_pos rfl] at hsn
            have HIe := Lib.hid hIe
            have HIr := Lib.hid hIr
            have Hin := Lib.hid hin
            have His := Lib.hid his
            have Hsn := Lib.hid hsn
            have Han := Lib.hid han
            have Hsm := Lib.hid hsm
            have Hle2 := Lib.hid hle2
            clear hIe hIr hin his hsn han hsm hle2
            clear hS hN hI h2 h0
            gi_wp2
            exact ⟨((KeepsOthers.setCell _ _ _).trans (KeepsOthers.setCell _ _ _)).trans (KeepsOthers.setCell _ _ _), ((kpO_set _ _ (.inl rfl)).trans (kpO_set _ _ (.inr rfl))).trans (kpO_set _ _ (.inl rfl)), LastsI.three HIe.out HIr.out Hin.out His.out Hsn.out Hle2.out Han.out Hsm.out (by omega)⟩
        · have h0B : (xf == 0) = false := by simpa using h0
          rw [h0B, Bool.and_false, if_neg (by simp)] at hsn
          rw [h0B, Bool.and_false] at han
          have HIe := Lib.hid hIe
          have HIr := Lib.hid hIr
          have Hin := Lib.hid hin
          have His := Lib.hid his
          have Hsn := Lib.hid hsn
          have Han := Lib.hid han
          have Hsm := Lib.hid hsm
          have Hle2 := Lib.hid hle2
          clear hIe hIr hin his hsn han hsm hle2
          clear hS hN hI h2 h0
          cases S
          · gi_wp2
            exact ⟨(KeepsOthers.setCell _ _ _).trans (KeepsOthers.setCell _ _ _), (kpO_set _ _ (.inl rfl)).trans (kpO_set _ _ (.inr rfl)), LastsI.two HIe.out HIr.out Hin.out His.out Hsn.out Hle2.out Han.out Hsm.out (by omega)⟩
          · gi_wp2
            exact ⟨(KeepsOthers.setCell _ _ _).trans (KeepsOthers.setCell _ _ _), (kpO_set _ _ (.inl rfl)).trans (kpO_set _ _ (.inr rfl)), LastsI.two HIe.out HIr.out Hin.out His.out Hsn.out Hle2.out Han.out Hsm.out (by omega)⟩
    case done =>
      rintro D xs W hD hxs hI hK
      have hL := Hseq1.out xs hxs hI.ne
      have hf := Hfin.out (sureOf xs : Nat) (xs.length : Nat) 0 (by rw [Hdf.out, hL])
      clear hxs
      obtain ⟨y0, y1⟩ := (Ext.refl W).box hI.n
      obtain ⟨y2, y3⟩ := (Ext.refl W).box hI.r
      have hnl := heap_lt hI.n
      have hrl := heap_lt hI.r
      have hIe := hI.ext
      have hIr := hI.r
      have HIe := Lib.hid hIe
      have HIr := Lib.hid hIr
      have Hf := Lib.hid hf
      clear hIe hIr hf
      clear hI hL
      gi_wp2
      go_wp2_with fail
      have hK' := (((KeepsOthers.setCell W ⟨w.heap.size + 1 + 1 + 1, 0, none⟩ (.int .i64 (sureOf xs : Nat))).trans (KeepsOthers.setCell _ ⟨w.heap.size + 1 + 1 + 1, 1, none⟩ (.int .i64 (xs.length : Nat))))).same D _ hK rfl
      have hr9 := set2_box HIr.out (.int .i64 (sureOf xs : Nat)) (.int .i64 (xs.length : Nat))
      have hx9 := set2_ext HIe.out (b := w.heap.size + 1 + 1 + 1) (by omega) (.int .i64 (sureOf xs : Nat)) (.int .i64 (xs.length : Nat))
      generalize (W.setCell ⟨w.heap.size + 1 + 1 + 1, 0, none⟩ (.int .i64 (sureOf xs : Nat))).setCell ⟨w.heap.size + 1 + 1 + 1, 1, none⟩ (.int .i64 (xs.length : Nat)) = W9 at *
      refine marks_ret1 hK' (results_cell_tmp (P := Try.prog) (fn := Try.f14) rfl _ _ (w.heap.size + 1 + 1 + 1) 23 #[.int .i64 (sureOf xs : Nat), .int .i64 (xs.length : Nat)] (0, 0) _ rfl (taken_heap hr9 hK') Try.underlying23 rfl (by kernel_rfl)) ?_
      exact Hf.out _ (ext_taken hx9 (by omega))
    case stop =>
      rintro D c pre W hD hpre ⟨xs, x, rfl, hx2, rfl, hI⟩ hK
      have hL := Hseq2.out xs x hpre hx2 hI.ne
      have hf := Hfin.out (sureOf xs : Nat) (xs.length : Nat) 0 (by rw [Hdf.out, hL])
      obtain ⟨y0, y1⟩ := (Ext.refl W).box hI.n
      obtain ⟨y2, y3⟩ := (Ext.refl W).box hI.r
      have hnl := heap_lt hI.n
      have hrl := heap_lt hI.r
      have hIe := hI.ext
      have hIr := hI.r
      have HIe := Lib.hid hIe
      have HIr := Lib.hid hIr
      have Hf := Lib.hid hf
      clear hIe hIr hf
      clear hI hL
      gi_wp2
      go_wp2_with fail
      have hK' := (((KeepsOthers.setCell W ⟨w.heap.size + 1 + 1 + 1, 0, none⟩ (.int .i64 (sureOf xs : Nat))).trans (KeepsOthers.setCell _ ⟨w.heap.size + 1 + 1 + 1, 1, none⟩ (.int .i64 (xs.length : Nat))))).same D _ hK rfl
      have hr9 := set2_box HIr.out (.int .i64 (sureOf xs : Nat)) (.int .i64 (xs.length : Nat))
      have hx9 := set2_ext HIe.out (b := w.heap.size + 1 + 1 + 1) (by omega) (.int .i64 (sureOf xs : Nat)) (.int .i64 (xs.length : Nat))
      generalize (W.setCell ⟨w.heap.size + 1 + 1 + 1, 0, none⟩ (.int .i64 (sureOf xs : Nat))).setCell ⟨w.heap.size + 1 + 1 + 1, 1, none⟩ (.int .i64 (xs.length : Nat)) = W9 at *
      refine marks_ret1 hK' (results_cell_tmp (P := Try.prog) (fn := Try.f14) rfl _ _ (w.heap.size + 1 + 1 + 1) 23 #[.int .i64 (sureOf xs : Nat), .int .i64 (xs.length : Nat)] (0, 0) _ rfl (taken_heap hr9 hK') Try.underlying23 rfl (by kernel_rfl)) ?_
      exact Hf.out _ (ext_taken hx9 (by omega))
end Go.Proofs.Ytcoelhpmkhimpaa

namespace Go.Proofs.Ytcoelhpmkhimpaa
open Go.RowKit
set_option linter.unusedVariables false
set_option linter.unusedSimpArgs false
def WalkPost (w : World) (r : List Stop × Int × Int) (e : Ending) (w' : World) : Prop := ∃ a c, e = .returned (.tuple #[.slice a r.1.length c, .int .i64 r.2.1, .int .i64 r.2.2]) ∧ From w.heap.size a ∧ r.1.length ≤ c ∧ c ≤ maxLen ∧ StopsAt w' a r.1.length r.1 ∧ Ext w w'
/-- the second loop: the blocks p13 (caravan) and p18 (where one is) -/
structure WkIn (W2 : World) (p18 : Nat) (a : Span) (ss : List Stop) (v : Value) (V : World) : Prop where
  but : But (fun b => b = p18) W2 V
  at' : V.heap[p18]? = some (.cells #[.int .i64 a.lo, .int .i64 a.hi] 114 (0, 0))
  own : Owns V W2.heap.size 44 6 v (stopRows ss)
theorem WkIn.next {W2 : World} {p18 : Nat} {a : Span} {ss : List Stop} {v : Value} {V V' : World} (h : WkIn W2 p18 a ss v V) (hx : Ext V V') : WkIn W2 p18 a ss v V' := ⟨h.but.trans (hx.but _), hx.heap h.at', h.own.ext hx⟩
theorem WkIn.put {W2 : World} {p18 : Nat} {a : Span} {ss : List Stop} {v : Value} {V : World} (h : WkIn W2 p18 a ss v V) (hp : p18 < W2.heap.size) (x y : Int) : WkIn W2 p18 ⟨x, y⟩ ss v ((V.setCell ⟨p18, 0, none⟩ (.int .i64 x)).setCell ⟨p18, 1, none⟩ (.int .i64 y)) := by
  refine ⟨h.but.trans ((But.setCell (O := fun b => b = p18) V _ rfl).trans (But.setCell (O := fun b => b = p18) _ _ rfl)), set2_box h.at' _ _, ?_⟩
  have hg : V.grownBy ((V.setCell ⟨p18, 0, none⟩ (.int .i64 x)).setCell ⟨p18, 1, none⟩ (.int .i64 y)) (some p18) := ⟨rfl, rfl, rfl, by simp [World.setCell], fun k _ hk => (Below.heap_setCell _ _ _ _ (fun e => hk (by simp only at e; rw [e]))).trans (Below.heap_setCell _ _ _ _ (fun e => hk (by simp only at e; rw [e])))⟩
  refine h.own.kept hg (.inr fun e => ?_)
  have := (h.own.lt _ e).1
  omega
theorem But.cell {O : Nat → Prop} {A B : World} (h : But O A B) {x : Addr} {v : Value} (hc : A.cell? x = some v) (hn : ¬O x.block) : B.cell? x = some v := by
  obtain ⟨o, ho, _⟩ := cells_of_cell hc
  exact (World.cell?_of_block ((h.block _ o ho hn).trans ho.symm)).trans hc
theorem stop_src (W : World) (s : Stop) : SlAt (W.alloc (.cells s.cells.toArray 44)) 6 (some ⟨W.heap.size, 0, none⟩) 1 (fun k => (stopRows [s]).getD k []) :=
  slAt_one (fun j v hv => by
    rw [cell_of_row _ _ _ _ 44 (0, 0) (heap_alloc_new W _), Nat.zero_add, List.getElem?_toArray]
    exact hv)
theorem one_src (W : World) (x : Int) (T : TypeId) : SlAt (W.alloc (.cells #[.int .i64 x] T)) 1 (some ⟨W.heap.size, 0, none⟩) 1 (fun k => (intRows .i64 [x]).getD k []) :=
  slAt_one (cells_one (by rw [cell_of_row _ _ _ _ T (0, 0) (heap_alloc_new W _)]; rfl))
set_option maxRecDepth 100000 in
set_option maxHeartbeats 1000000 in
theorem walk_any (wa : Option Addr) (wn wc : Nat) (la : Option Addr) (ln lc : Nat) (l : Land) (p : Span) (frw day : Int) (ga : Option Addr) (gn gc : Nat) (gs : List Int) (w : World) (h : LandAt w wa wn wc la ln lc l) (hg : IntsAt .i64 w ga gn gs) (hgc : gn ≤ gc) (hgm : gc ≤ maxLen) (hls : ∀ x, la = some x → x.block < w.heap.size) (hgs : ∀ x, ga = some x → x.block < w.heap.size) :
    Calls Try.prog 12 #[.agg #[.slice wa wn wc, .slice la ln lc], .int .i64 frw, .int .i64 day, p.val, .slice ga gn gc] w (WalkPost w (walkOf l p frw day gs)) := by
  have hop : ∀ W, Ext w W → Calls Try.prog 44 #[.agg #[.slice wa wn wc, .slice la ln lc], p.val] W fun e w' => e = .returned (.tuple #[openVal wa wn wc la ln lc l p, .int .i64 (openErr l p)]) ∧ Ext W w' := fun W hW => open_any wa wn wc la ln lc l p W (h.ext hW)
  have hov : openVal wa wn wc la ln lc l p = if openErr l p = 0 then .agg #[.slice wa wn wc, .slice la ln lc, .int .i64 p.lo, .int .i64 p.hi] else .agg #[.slice none 0 0, .slice none 0 0, .int .i64 0, .int .i64 0] := rfl
  have hdef : walkOf l p frw day gs = if openErr l p ≠ 0 then ([], 0, openErr l p) else if (inB frw 0 (l.wells.length - 1) && inB day 0 100000) = false then ([], 0, 2) else if 24 < gs.length then ([], 0, 4) else
    match endsOf l frw gs with
    | .error k => ([], (k : Int), 8)
    | .ok es => match stopsOf l p ⟨day, day⟩ gs es with
      | .error k => ([], (k : Int), 34)
      | .ok ss => (ss, 0, 0) := rfl
  have hgl := hg.1
  have hwl := h.wells.1
  have hn1 := h.n1
  have hn2 := h.n2
  unfold maxLen at hgm
  obtain ⟨Q, hQ⟩ : ∃ Q, WalkPost w (walkOf l p frw day gs) = Q := ⟨_, rfl⟩
  have hbad : ∀ k err, walkOf l p frw day gs = ([], k, err) → ∀ w', Ext w w' → Q (.returned (.tuple #[.slice none 0 0, .int .i64 k, .int .i64 err])) w' := fun k err hr w' hx => by
    rw [← hQ, hr]
    exact ⟨none, 0, rfl, From.none _, Nat.le_refl _, by decide, ⟨rfl, fun h => absurd h (Nat.lt_irrefl _)⟩, hx⟩
  have hok : ∀ ss, walkOf l p frw day gs = (ss, 0, 0) → ∀ w' a c, From w.heap.size a → ss.length ≤ c → c ≤ maxLen → StopsAt w' a ss.length ss → Ext w w' → Q (.returned (.tuple #[.slice a ss.length c, .int .i64 0, .int .i64 0])) w' := fun ss hr w' a c h1 h2 h3 h4 h5 => by
    rw [← hQ, hr]
    exact ⟨a, c, rfl, h1, h2, h3, h4, h5⟩
  rw [hQ]
  clear hQ
  generalize hres : walkOf l p frw day gs = R at *
  clear hres
  obtain ⟨B1, hB1⟩ : ∃ B, inB frw 0 (l.wells.length - 1) = B := ⟨_, rfl⟩
  obtain ⟨B2, hB2⟩ : ∃ B, inB day 0 100000 = B := ⟨_, rfl⟩
  obtain ⟨E, hE⟩ : ∃ E, openErr l p = E := ⟨_, rfl⟩
  rw [hB1, hB2, hE] at hdef
  rw [hE] at hov hop
  rw [hov] at hop
  rw [hwl] at hB1
  clear hov
  obtain ⟨p0, p1⟩ := p
  unfold Span.val at *
  simp only at *
  obtain ⟨W0, hW0⟩ : ∃ W0, (w.alloc (.cells #[.slice wa wn wc, .slice la ln lc] 33)).alloc (.cells #[.int .i64 p0, .int .i64 p1] 23) = W0 := ⟨_, rfl⟩
  have hx0 : Ext w W0 := by rw [← hW0]; exact ((Ext.refl w).alloc _).alloc _
  have hb0 : W0.heap[w.heap.size]? = some (.cells #[.slice wa wn wc, .slice la ln lc] 33 (0, 0)) := by rw [← hW0]; exact alloc_heap (heap_alloc_new w _) _
  have hb1 : W0.heap[w.heap.size + 1]? = some (.cells #[.int .i64 p0, .int .i64 p1] 23 (0, 0)) := by rw [← hW0]; exact alloc_at _ _ _ (by simp)
  obtain ⟨z0, _⟩ := (Ext.refl W0).box hb0
  obtain ⟨z1, _⟩ := (Ext.refl W0).box hb1
  by_cases hE0 : E ≠ 0
  · rw [if_pos hE0] at hdef
    rw [if_neg hE0] at hop
    have hf := hbad _ _ hdef
    have hEB : (E != 0) = true := by simpa using hE0
    have hEC : (E == 0) = false := by simpa using hE0
    have Hop := Lib.hid hop
    have Hx0 := Lib.hid hx0
    have Hb0 := Lib.hid hb0
    have Hb1 := Lib.hid hb1
    have Hf := Lib.hid hf
    clear hop hx0 hb0 hb1 hf
    clear hok hbad hdef hE0 hg h hgs hls
    go_enter Try.func12, Try.ntmps12
    go_wp2_with (go_at_call 44; refine (Hop.out _ Hx0.out).mono ?_; rintro e w1 ⟨rfl, hx1⟩; clear hW0 z0 z1)
    refine bodyPost_ret (results_tmp3 rfl _ _ _) rfl ?_
    exact Hf.out _ (Hx0.out.trans (hx1.alloc _))
  obtain rfl : E = 0 := by omega
  rw [if_neg (by simp)] at hdef
  rw [if_pos rfl] at hop
  have hopk := open_ok hE
  cases B1
  · simp only [Bool.false_and, if_true] at hdef
    have hf := hbad _ _ hdef
    have Hop := Lib.hid hop
    have Hx0 := Lib.hid hx0
    have Hb0 := Lib.hid hb0
    have Hb1 := Lib.hid hb1
    have Hf := Lib.hid hf
    have HB1 := Lib.hid hB1
    clear hop hx0 hb0 hb1 hf hB1
    clear hok hbad hdef hE0 hg h hgs hls hopk hE
    go_enter Try.func12, Try.ntmps12
    go_wp2_with (first | (go_at_call 44; refine (Hop.out _ Hx0.out).mono ?_; rintro e w1 ⟨rfl, hx1⟩; clear hW0 z0 z1; obtain ⟨z2, _⟩ := (Ext.refl w1).box (hx1.heap Hb0.out); have hzb := heap_lt (hx1.heap Hb0.out); have hzc := Nat.lt_succ_of_lt hzb) | (go_at_call 45; refine (fromW1 (alloc_at _ _ _ (by simp)) HB1.out).mono ?_; rintro e w2 ⟨rfl, hx2⟩; have hx12 := ((hx1.alloc _).alloc _).trans hx2; clear z2))
    refine bodyPost_ret (results_tmp3 rfl _ _ _) rfl ?_
    exact Hf.out _ (Hx0.out.trans hx12)
  cases B2
  · simp only [Bool.and_false, if_true] at hdef
    have hf := hbad _ _ hdef
    have Hop := Lib.hid hop
    have Hx0 := Lib.hid hx0
    have Hb0 := Lib.hid hb0
    have Hb1 := Lib.hid hb1
    have Hf := Lib.hid hf
    have HB1 := Lib.hid hB1
    have HB2 := Lib.hid hB2
    clear hop hx0 hb0 hb1 hf hB1 hB2
    clear hok hbad hdef hE0 hg h hgs hls hopk hE
    have gg1 := trivial
    go_enter Try.func12, Try.ntmps12
    go_wp2_with (first | (go_at_call 44; refine (Hop.out _ Hx0.out).mono ?_; rintro e w1 ⟨rfl, hx1⟩; clear hW0 z0 z1; obtain ⟨z2, _⟩ := (Ext.refl w1).box (hx1.heap Hb0.out); have hzb := heap_lt (hx1.heap Hb0.out); have hzc := Nat.lt_succ_of_lt hzb) | (go_at_call 45; first | (have q := gg1; clear q gg1; refine (fromW1 (alloc_at _ _ _ (by simp)) HB1.out).mono ?_; rintro e w2 ⟨rfl, hx2⟩; have hx12 := ((hx1.alloc _).alloc _).trans hx2; clear z2) | (refine (fromW1 (alloc_at _ _ _ (by simp)) HB2.out).mono ?_; rintro e w3 ⟨rfl, hx3⟩; have hx13 := (hx12.alloc _).trans hx3)))
    refine bodyPost_ret (results_tmp3 rfl _ _ _) rfl ?_
    exact Hf.out _ (Hx0.out.trans hx13)
  simp only [Bool.and_true, Bool.true_eq_false, if_false] at hdef
  rw [hgl] at hdef
  have gg1 := trivial
  by_cases hlen : 24 < gn
  · rw [if_pos hlen] at hdef
    have hf := hbad _ _ hdef
    have hlB : decide (24 < (gn : Int)) = true := by simp; omega
    have Hop := Lib.hid hop
    have Hx0 := Lib.hid hx0
    have Hb0 := Lib.hid hb0
    have Hb1 := Lib.hid hb1
    have Hf := Lib.hid hf
    have HB1 := Lib.hid hB1
    have HB2 := Lib.hid hB2
    clear hop hx0 hb0 hb1 hf hB1 hB2
    clear hok hbad hdef hE0 hg h hgs hls hopk hE
    go_enter Try.func12, Try.ntmps12
    go_wp2_with (first | (go_at_call 44; refine (Hop.out _ Hx0.out).mono ?_; rintro e w1 ⟨rfl, hx1⟩; clear hW0 z0 z1; obtain ⟨z2, _⟩ := (Ext.refl w1).box (hx1.heap Hb0.out); have hzb := heap_lt (hx1.heap Hb0.out); have hzc := Nat.lt_succ_of_lt hzb) | (go_at_call 45; first | (have q := gg1; clear q gg1; refine (fromW1 (alloc_at _ _ _ (by simp)) HB1.out).mono ?_; rintro e w2 ⟨rfl, hx2⟩; have hx12 := ((Ext.refl (w1.alloc (.cells #[.slice wa wn wc, .slice la ln lc, .int .i64 p0, .int .i64 p1] 108))).alloc _).trans hx2; clear z2) | (refine (fromW1 (alloc_at _ _ _ (by simp)) HB2.out).mono ?_; rintro e w3 ⟨rfl, hx3⟩; have hx13 := (hx12.alloc _).trans hx3)))
    refine bodyPost_ret (results_tmp3 rfl _ _ _) rfl ?_
    exact Hf.out _ (Hx0.out.trans ((hx1.alloc _).trans hx13))
  rw [if_neg hlen] at hdef
  have hlB : decide (24 < (gn : Int)) = false := by simp; omega
  have hall := fun es (he : endsOf l frw gs = .ok es) => ends_legs hopk.1 he
  have hend := fun (W : World) (hW : Ext w W) (g wl : Int) => end_any wa wn wc la ln lc l p0 p1 g wl W (h.ext hW).legs.cells h.n2 h.c3 h.c4 (fun x hx => Nat.lt_of_lt_of_le (hls x hx) hW.size)
  have hlv := fun (W : World) (hW : Ext w W) (a : Span) (g : Nat) (hx : l.legs[g]? = some (legAt l g)) (hL : LegOk l.wells.length (legAt l g)) (ha : SpanIs a 0 100000) => leave_any wa wn wc la ln lc l.legs ⟨p0, p1⟩ a g _ W (h.ext hW).legs hx hL hopk.2 ha h.c3 h.c4
  have hav := fun (W : World) (hW : Ext w W) (a : Span) (g : Nat) (hx : l.legs[g]? = some (legAt l g)) (hL : LegOk l.wells.length (legAt l g)) (ha : SpanIs a 0 100000) => arrive_any wa wn wc la ln lc l.legs ⟨p0, p1⟩ a g _ W (h.ext hW).legs hx hL hopk.2 ha h.c3 h.c4
  have hdy := inB_is hB2
  have hp := hopk.2
  have Hop := Lib.hid hop
  have Hx0 := Lib.hid hx0
  have Hb0 := Lib.hid hb0
  have Hb1 := Lib.hid hb1
  have Hok := Lib.hid hok
  have Hbad := Lib.hid hbad
  have Hdef := Lib.hid hdef
  have Hg := Lib.hid hg
  have Hall := Lib.hid hall
  have Hend := Lib.hid hend
  have Hlv := Lib.hid hlv
  have Hav := Lib.hid hav
  have HB1 := Lib.hid hB1
  have HB2 := Lib.hid hB2
  have Hgs := Lib.hid hgs
  have Hdy := Lib.hid hdy
  have Hp := Lib.hid hp
  clear hop hx0 hb0 hb1 hok hbad hdef hg hall hend hlv hav hB1 hB2 hgs hdy hp
  have hgn24 : gn ≤ 24 := by omega
  clear h hE hE0 hlen hopk hls
  go_enter Try.func12, Try.ntmps12
  go_upto_region 10 with (first | (go_at_call 44; refine (Hop.out _ Hx0.out).mono ?_; rintro e w1 ⟨rfl, hx1⟩; clear hW0 z0 z1; obtain ⟨z2, _⟩ := (Ext.refl w1).box (hx1.heap Hb0.out); have hzb := heap_lt (hx1.heap Hb0.out); have hzc := Nat.lt_succ_of_lt hzb) | (go_at_call 45; first | (have q := gg1; clear q gg1; refine (fromW1 (alloc_at _ _ _ (by simp)) HB1.out).mono ?_; rintro e w2 ⟨rfl, hx2⟩; have hx12 := ((Ext.refl (w1.alloc (.cells #[.slice wa wn wc, .slice la ln lc, .int .i64 p0, .int .i64 p1] 108))).alloc _).trans hx2; clear z2) | (refine (fromW1 (alloc_at _ _ _ (by simp)) HB2.out).mono ?_; rintro e w3 ⟨rfl, hx3⟩; have hx13 := (hx12.alloc _).trans hx3)))
  have hx2 : Ext w w3 := Hx0.out.trans ((hx1.alloc _).trans hx13)
  have hc2 := hx13.heap (heap_alloc_new w1 _)
  generalize w1.heap.size = p13 at *
  have Hx2 := Lib.hid hx2
  have Hc2 := Lib.hid hc2
  clear hx2 hc2
  clear hx1 hx12 hx13 hx3 hzb hzc Hop Hx0 Hb0 Hb1 hlB
  clear HB1 HB2
  go_wp2_with fail
  generalize w3 = W2 at *
  go_loopw [54, 14, 15, 10] (fun i v c r10 wr => ∃ (k : Nat) (es : List Int) (wl : Int), i = .int .i64 k ∧ r10 = .slice none 0 0 ∧ c = .int .i64 wl ∧ k ≤ gn ∧ es.length = k ∧ Ext W2 wr ∧ Owns wr W2.heap.size 3 1 v (intRows .i64 es) ∧ addE k es (endsOf l wl (gs.drop k)) = endsOf l frw gs) (fun i _ _ _ _ => gn - (intOf i).toNat)
  case atStart => exact ⟨0, [], frw, rfl, rfl, rfl, by omega, rfl, Ext.refl _, Owns.nil _ _ _ _, addE_zero _⟩
  case round =>
    obtain ⟨k, es, wl, rfl, rfl, rfl, hk, hel, hx, hown, hadd⟩ := hrel
    obtain ⟨va, vc, rfl, hfr, hvc, hvm, hia⟩ := ints_of_owns hown
    rw [hel] at hvc hia hown ⊢
    unfold maxLen at hvm
    by_cases hlt : k < gn
    · have hltB : decide ((k : Int) < (gn : Int)) = true := by simp; omega
      clear hia hfr
      obtain ⟨b, off, g, rfl, hgk, hb, c0⟩ := (Hg.out.ext (Hx2.out.trans hx)).get k hlt
      rw [ends_step hgk] at hadd
      have hcw := hx.heap Hc2.out
      have hpl := heap_lt hcw
      have hen := fun W (hW : Ext wr W) => Hend.out W (Hx2.out.trans (hx.trans hW)) g wl
      obtain ⟨E, hE⟩ : ∃ E, endOf l g wl = E := ⟨_, rfl⟩
      rw [hE] at hadd hen
      have Hen := Lib.hid hen
      have Hcw := Lib.hid hcw
      have Hown := Lib.hid hown
      have Hx := Lib.hid hx
      clear hen hcw hown hx
      by_cases hE0 : E < 0
      · rw [if_pos hE0] at hadd
        have hdf := Hdef.out
        rw [← hadd] at hdf
        have hf := Hbad.out _ _ hdf
        have hEB : decide (E < 0) = true := decide_eq_true hE0
        have Hf := Lib.hid hf
        clear hf
        clear hadd hdf hgk hE
        go_wp2_with (first | (refine wpList_load_row rfl 108 (.tmp 13) rfl p13 rfl 108 _ (0, 0) _ Hcw.out Try.underlying108 rfl (by kernel_rfl) ?_) | (go_at_call 46; refine (Hen.out _ (Ext.refl _)).mono ?_; rintro e w5 ⟨rfl, hx5⟩))
        refine bodyPost_ret (results_tmp3 rfl _ _ _) rfl ?_
        exact Hf.out _ (Hx2.out.trans (Hx.out.trans hx5))
      · rw [if_neg hE0] at hadd
        have hEB : decide (E < 0) = false := decide_eq_false hE0
        have Hadd := Lib.hid hadd
        clear hadd
        clear hgk hE
        go_wp2_with (first | (refine wpList_load_row rfl 108 (.tmp 13) rfl p13 rfl 108 _ (0, 0) _ Hcw.out Try.underlying108 rfl (by kernel_rfl) ?_) | (go_at_call 46; refine (Hen.out _ (Ext.refl _)).mono ?_; rintro e w5 ⟨rfl, hx5⟩) | (at_builtin; refine wpList_app elem34 _ rfl (.tmp 66) (.tmp 68) rfl W2.heap.size (.slice va k vc) (intRows .i64 es) rfl ((Hown.out.ext hx5).alloc _) (some ⟨w5.heap.size, 0, none⟩) 1 1 (intRows .i64 [E]) rfl rfl (one_src w5 E 3) (intRows_row _ _) (by simp [intRows]; omega) (by have := Hx.out.size; have := hx5.size; simp; omega) ?_; intro v6 w6 ho6 hg6 _; have hx6 := ((Hx.out.trans hx5).alloc (.cells #[.int .i64 E] 3)).app ((Hown.out.ext hx5).alloc _) hg6; rw [← intRows_append] at ho6; clear hg6; obtain ⟨va6, vc6, hv6, -⟩ := ints_of_owns ho6; rw [show (es ++ [E]).length = k + 1 from by simp; omega] at hv6; subst hv6; have Ho6 := Lib.hid ho6; have Hx6 := Lib.hid hx6; clear ho6 hx6))
        go_roundw
        case rel => exact ⟨k + 1, es ++ [E], E, by go_num, rfl, rfl, by omega, by simp; omega, Hx6.out, Ho6.out, Hadd.out⟩
        case measure => simp [intOf]; omega
    · have hltB : decide ((k : Int) < (gn : Int)) = false := by simp; omega
      obtain rfl : k = gn := by omega
      rw [List.drop_of_length_le (by omega)] at hadd
      have he : endsOf l frw gs = .ok es := by rw [← hadd, show endsOf l wl [] = .ok [] from rfl]; exact addE_end _ _
      have hdf := Hdef.out
      rw [he] at hdf
      obtain ⟨hal, hal2⟩ := Hall.out es he
      have hgt := Hg.out.ext (Hx2.out.trans hx)
      have hpw : p13 < W2.heap.size := heap_lt Hc2.out
      have hx3 := Hx2.out.trans hx
      have hc3 := hx.heap Hc2.out
      have hbase := hx3.size
      have Hdf := Lib.hid hdf
      have Hal2 := Lib.hid hal2
      have Hgt := Lib.hid hgt
      have Hx3 := Lib.hid hx3
      have Hc3 := Lib.hid hc3
      have Hia := Lib.hid hia
      have Hfr := Lib.hid hfr
      clear hdf hal2 hgt hx3 hc3 hia hfr
      clear hown hadd he hx Hdef Hall Hx2 Hc2 hlt
      go_upto_region 19 with fail
      have hx4 := Hx3.out.alloc (.cells #[.int .i64 day, .int .i64 day] 114)
      have hc4 := alloc_heap Hc3.out (.cells #[.int .i64 day, .int .i64 day] 114)
      have hat4 := heap_alloc_new wr (.cells #[.int .i64 day, .int .i64 day] 114)
      have hgt4 := Hgt.out.ext ((Ext.refl wr).alloc (.cells #[.int .i64 day, .int .i64 day] 114))
      have hia4 := Hia.out.ext ((Ext.refl wr).alloc (.cells #[.int .i64 day, .int .i64 day] 114))
      have hin : ∀ x, 0 < k → va = some x → x.block < wr.heap.size := fun x h0 hx => by
        obtain ⟨b, off, _, e, _, hb, _⟩ := Hia.out.get 0 h0
        rw [hx] at e
        cases e
        exact hb
      have hp13 : p13 < wr.heap.size := heap_lt Hc3.out
      generalize wr.alloc (.cells #[.int .i64 day, .int .i64 day] 114) = W3 at *
      generalize hp18 : wr.heap.size = p18 at *
      have hp83 := heap_lt hat4
      have hgb : ∀ x, ga = some x → ¬x.block = p18 := fun x hx => by have := Hgs.out x hx; omega
      have hst0 := addE_zero (stopsOf l ⟨p0, p1⟩ ⟨day, day⟩ gs es)
      have hD0 : WkIn W3 p18 ⟨day, day⟩ [] (.slice none 0 0) W3 := ⟨But.refl _ _, hat4, Owns.nil _ _ _ _⟩
      have hd0 : SpanIs ⟨day, day⟩ 0 100000 := ⟨Hdy.out.1, Int.le_refl _, Hdy.out.2⟩
      have Hx4 := Lib.hid hx4
      have Hc4 := Lib.hid hc4
      have Hgt4 := Lib.hid hgt4
      have Hia4 := Lib.hid hia4
      have Hin := Lib.hid hin
      have Hp18 := Lib.hid hp18
      have Hgb := Lib.hid hgb
      have Hst0 := Lib.hid hst0
      have HD0 := Lib.hid hD0
      have Hd0 := Lib.hid hd0
      clear hx4 hc4 hgt4 hia4 hin hp18 hgb hst0 hD0 hd0
      clear Hx3 Hc3 Hgt Hia hat4 Hend
      go_wp2_with fail
      go_loopw [76, 10] (fun i v wr => ∃ (k2 : Nat) (ss : List Stop) (a : Span), i = .int .i64 k2 ∧ k2 ≤ k ∧ ss.length = k2 ∧ SpanIs a 0 100000 ∧ WkIn W3 p18 a ss v wr ∧ addE k2 ss (stopsOf l ⟨p0, p1⟩ a (gs.drop k2) (es.drop k2)) = stopsOf l ⟨p0, p1⟩ ⟨day, day⟩ gs es) (fun i _ _ => k - (intOf i).toNat)
      case atStart => exact ⟨0, [], ⟨day, day⟩, rfl, by omega, rfl, Hd0.out, HD0.out, Hst0.out⟩
      case round =>
        clear HD0 Hd0 Hst0
        obtain ⟨k2, ss, a, rfl, hk2, hsl, hasp, hD, hadd⟩ := hrel
        obtain ⟨sa, sc, rfl, hsf, hsc, hsm, hsi⟩ := stops_of_owns hD.own
        rw [hsl] at hsc hsi hD ⊢
        unfold maxLen at hsm
        have hxV := But.ext Hx4.out hD.but (fun b hb => by have := Hx4.out.size; omega)
        by_cases hlt2 : k2 < k
        · have hltB : decide ((k2 : Int) < (k : Int)) = true := by simp; omega
          clear hsi hsf
          have hgw : IntsAt .i64 wr ga k gs := ⟨Hgt4.out.1, Hgt4.out.2.but hD.but Hgb.out⟩
          have hew : IntsAt .i64 wr va k es := ⟨Hia4.out.1, Hia4.out.2.but hD.but (fun x hx e => by have := Hin.out x (by omega) hx; omega)⟩
          obtain ⟨b, off, g, rfl, hgk, hb, c0⟩ := hgw.get k2 hlt2
          obtain ⟨b3, off3, e3, rfl, hek, hb3, c3⟩ := hew.get k2 hlt2
          obtain ⟨hgl2, hgL⟩ := Hal2.out g (List.mem_of_getElem? hgk)
          obtain ⟨gi, rfl⟩ := Int.eq_ofNat_of_zero_le hgl2.1
          have hgx : l.legs[gi]? = some (legAt l gi) := by
            unfold legAt
            rw [Int.toNat_natCast, List.getD_eq_getElem?_getD, List.getElem?_eq_getElem (show gi < l.legs.length by omega)]
            rfl
          rw [stops_step hgk hek] at hadd
          have hlw := fun W (hW : Ext wr W) => Hlv.out W (hxV.trans hW) a gi hgx hgL hasp
          have haw := fun W (hW : Ext wr W) => Hav.out W (hxV.trans hW) a gi hgx hgL hasp
          have har := fun h => (arrive_is hgL Hp.out hasp h).2.2
          generalize arriveOf (legAt l gi) ⟨p0, p1⟩ a = AR at *
          generalize leaveOf (legAt l gi) ⟨p0, p1⟩ a = LV at *
          obtain ⟨r0, r1⟩ := AR
          obtain ⟨l0, l1⟩ := LV
          obtain ⟨a0, a1⟩ := a
          unfold Span.val at hlw haw
          simp only at hlw haw har hadd
          have hcw := hD.but.block _ _ Hc4.out (by omega)
          have hpl := heap_lt hcw
          have hat' := hD.at'
          simp only at hat'
          obtain ⟨z3, _⟩ := (Ext.refl wr).box hat'
          have hatl := heap_lt hat'
          have Hlw := Lib.hid hlw
          have Haw := Lib.hid haw
          have Har := Lib.hid har
          have Hcw := Lib.hid hcw
          have Hat' := Lib.hid hat'
          have HD := Lib.hid hD
          have HxV := Lib.hid hxV
          have Hasp := Lib.hid hasp
          clear hlw haw har hcw hat' hD hxV hasp
          clear hgk hek hgl2 hgL hgx hgw hew
          go_upto_region 24 with (first | (refine wpList_load_row rfl 108 (.tmp 13) rfl p13 rfl 108 _ (0, 0) _ (by first | exact Hcw.out | exact Hcw5.out) Try.underlying108 rfl (by kernel_rfl) ?_) | (go_at_call 47; refine (Hlw.out _ (Ext.refl _)).mono ?_; rintro e w5 ⟨rfl, hx5⟩; clear z3; have hxb := hx5.alloc (.cells #[.int .i64 l0, .int .i64 l1] 114); have hc5 := hxb.heap Hcw.out; have Hcw5 := Lib.hid hc5; obtain ⟨z5, _⟩ := (Ext.refl _).box (hxb.heap Hat'.out); clear hc5; have h21 := heap_alloc_new w5 (.cells #[.int .i64 l0, .int .i64 l1] 114); have H21 := Lib.hid h21; clear h21) | (go_at_call 48; refine (Haw.out _ hxb).mono ?_; rintro e w6 ⟨rfl, hx6⟩; clear z5; have h618 := hx6.heap (hxb.heap Hat'.out); obtain ⟨z6, z7⟩ := (Ext.refl w6).box h618; have h6l := heap_lt h618; have H618 := Lib.hid h618; clear h618))
          have hDn := ((HD.out.next hxb).next hx6).put (by omega) r0 r1
          have hws : wr.heap.size ≤ w5.heap.size := hx5.size
          have h215 : ((w6.setCell ⟨p18, 0, none⟩ (.int .i64 r0)).setCell ⟨p18, 1, none⟩ (.int .i64 r1)).heap[w5.heap.size]? = some (.cells #[.int .i64 l0, .int .i64 l1] 114 (0, 0)) := set2_other (hx6.heap H21.out) (b := p18) (by omega) _ _
          have hbp : b3 ≠ p18 := by have := Hin.out ⟨b3, off3, none⟩ (by omega) rfl; simp only at this; omega
          have hc37 : ((w6.setCell ⟨p18, 0, none⟩ (.int .i64 r0)).setCell ⟨p18, 1, none⟩ (.int .i64 r1)).cell? ⟨b3, off3 + k2, none⟩ = some (.int .i64 e3) :=
            But.cell ((But.setCell (O := fun b => b = p18) w6 (.int .i64 r0) rfl).trans (But.setCell (O := fun b => b = p18) _ (.int .i64 r1) rfl)) ((hxb.trans hx6).cell c3) hbp
          have hxW := But.ext Hx4.out hDn.but (fun b hb => by have := Hx4.out.size; omega)
          have hov : ∀ q, (Value.slice sa k2 sc).ownBlock = some q → W3.heap.size ≤ q ∧ q < wr.heap.size := fun q hq => HD.out.own.lt q hq
          clear z6 z7 h6l hx5 hxb hx6 H21 H618 Hcw5 Hcw Hat' HD c3 c0 Hlw Haw
          generalize ((w6.setCell ⟨p18, 0, none⟩ (.int .i64 r0)).setCell ⟨p18, 1, none⟩ (.int .i64 r1)) = W7 at *
          generalize w5.heap.size = p21 at *
          have hat7 : W7.heap[p18]? = some (.cells #[.int .i64 r0, .int .i64 r1] 114 (0, 0)) := hDn.at'
          obtain ⟨z8, _⟩ := (Ext.refl W7).box hat7
          have h7l := heap_lt hat7
          by_cases hA : 100000 < r1
          · have hAB : decide (100000 < r1) = true := decide_eq_true hA
            rw [if_pos hA] at hadd
            have hdf := Hdf.out
            rw [← hadd] at hdf
            have hf := Hbad.out _ _ hdf
            have Hf := Lib.hid hf
            have HxW := Lib.hid hxW
            have HDn := Lib.hid hDn
            have Hat7 := Lib.hid hat7
            have Hov := Lib.hid hov
            have H215 := Lib.hid h215
            have Hc37 := Lib.hid hc37
            clear hf hxW hDn hat7 hov h215 hc37
            clear hadd hdf
            go_wp2_with fail
            refine bodyPost_ret (results_tmp3 rfl _ _ _) rfl ?_
            exact Hf.out _ HxW.out
          · have hAB : decide (100000 < r1) = false := decide_eq_false hA
            rw [if_neg hA] at hadd
            have hsp7 := Har.out (by omega)
            have HxW := Lib.hid hxW
            have HDn := Lib.hid hDn
            have Hat7 := Lib.hid hat7
            have Hov := Lib.hid hov
            have H215 := Lib.hid h215
            have Hc37 := Lib.hid hc37
            have Hadd := Lib.hid hadd
            have Hsp7 := Lib.hid hsp7
            clear hxW hDn hat7 hov h215 hc37 hadd hsp7
            go_upto_region 26 with fail
            clear z8 h7l hA hAB
            have hn18 : ¬(Value.slice sa k2 sc).ownBlock = some p18 := fun e => by have := Hov.out p18 e; omega
            have hn21 : ¬(Value.slice sa k2 sc).ownBlock = some p21 := fun e => by have := Hov.out p21 e; omega
            have hnb3 : ¬(Value.slice sa k2 sc).ownBlock = some b3 := fun e => by have := Hov.out b3 e; have := Hin.out ⟨b3, off3, none⟩ (by omega) rfl; have := Hp18.out; simp only at *; omega
            have Hn18 := Lib.hid hn18
            have Hn21 := Lib.hid hn21
            have Hnb3 := Lib.hid hnb3
            clear hn18 hn21 hnb3
            refine wp_region_tree (.take [0, 1, 2, 3, 4, 5, 6, 8] (.one 7 (.one 9 (.take [10] (.one 11 (.one 12 (.take [13] .done))))))) (But (fun b => (Value.slice sa k2 sc).ownBlock = some b) W7) _ (by kernel_rfl) (by kernel_rfl) rfl (((Ext.refl W7).drew).but _) ?_
            intro ι _ f hf hs
            have f0 := fun q => ((hf q).box Hat7.out Hn18.out).1
            have f1 := fun q => ((hf q).box H215.out Hn21.out).1
            have f2 := fun q => (hf q).cell Hc37.out Hnb3.out
            have HS := Lib.hid hs
            clear hf hs
            simp only [treeOf, oneOp, twoOp, opsOf, consOp, List.getElem?_toArray, List.getElem?_cons_succ, List.getElem?_cons_zero]
            refine wpOT_take ?_
            repeat (go_big_quiet_step (fail))
            refine wpQuiet_nil ?_
            clear f0 f1 f2
            refine wpOT_one ?_
            go_wp2_with (go_at_call 49; refine (bothSpan_any _ _ _).mono ?_; rintro e wa ⟨rfl, hxa⟩)
            refine ⟨HS.out _ ((((Ext.refl W7).drew).trans hxa).but _), ?_⟩
            refine wpOT_one ?_
            go_wp2_with (go_at_call 49; refine (bothSpan_any _ _ _).mono ?_; rintro e wb ⟨rfl, hxb⟩)
            have hx7b := (((Ext.refl W7).drew).trans hxa).trans hxb
            clear hxa hxb
            refine ⟨HS.out _ (hx7b.but _), ?_⟩
            refine wpOT_take ?_
            repeat (go_big_quiet_step (fail))
            refine wpQuiet_nil ?_
            refine wpOT_one ?_
            go_wp2_with fail
            have hx7c := hx7b.alloc (.cells #[.int .i64 gi, .int .i64 e3, .int .i64 l0, .int .i64 l1, .int .i64 r0, .int .i64 r1] 44)
            refine ⟨HS.out _ (hx7c.but _), ?_⟩
            refine wpOT_one ?_
            go_wp2_with (at_builtin; refine wpList_app elem39 _ rfl (.tmp 93) (.tmp 104) rfl W3.heap.size (.slice sa k2 sc) (stopRows ss) rfl (HDn.out.own.ext hx7c) (some ⟨wb.heap.size, 0, none⟩) 1 1 (stopRows [⟨gi, e3, ⟨l0, l1⟩, ⟨r0, r1⟩⟩]) rfl rfl (stop_src wb ⟨gi, e3, ⟨l0, l1⟩, ⟨r0, r1⟩⟩) (stopRows_row _) (by simp [stopRows]; omega) (by have := HDn.out.but.size; have := hx7c.size; omega) ?_; intro v8 w8 ho8 hg8 _; have hb8 := (hx7c.but (fun b => (Value.slice sa k2 sc).ownBlock = some b)).trans (but_grown hg8); rw [← stopRows_append] at ho8; clear hg8; obtain ⟨va8, vc8, hv8, -⟩ := stops_of_owns ho8; rw [show (ss ++ [(⟨gi, e3, ⟨l0, l1⟩, ⟨r0, r1⟩⟩ : Stop)]).length = k2 + 1 from by simp; omega] at hv8; subst hv8; have Ho8 := Lib.hid ho8; have Hb8 := Lib.hid hb8; clear ho8 hb8)
            refine ⟨HS.out _ Hb8.out, ?_⟩
            have hD8 : WkIn W3 p18 ⟨r0, r1⟩ (ss ++ [⟨gi, e3, ⟨l0, l1⟩, ⟨r0, r1⟩⟩]) (.slice va8 (k2 + 1) vc8) w8 := ⟨HDn.out.but.behind Hb8.out (fun q hq => (Hov.out q hq).1), Hb8.out.block _ _ Hat7.out Hn18.out, Ho8.out⟩
            have HD8 := Lib.hid hD8
            clear hD8
            clear hx7b hx7c
            refine wpOT_take ?_
            repeat (go_big_quiet_step (fail))
            refine wpQuiet_nil ?_
            refine wpOT_done ?_
            clear HS
            go_wp2_with fail
            go_roundw
            case rel => exact ⟨k2 + 1, _, ⟨r0, r1⟩, by go_num, by omega, by simp; omega, Hsp7.out, HD8.out, Hadd.out⟩
            case measure => simp [intOf]; omega
        · have hltB : decide ((k2 : Int) < (k : Int)) = false := by simp; omega
          obtain rfl : k2 = k := by omega
          rw [List.drop_of_length_le (show gs.length ≤ k2 by omega)] at hadd
          have he : stopsOf l ⟨p0, p1⟩ ⟨day, day⟩ gs es = .ok ss := by
            rw [← hadd, show stopsOf l ⟨p0, p1⟩ a [] (es.drop k2) = .ok [] from by unfold stopsOf; rfl]
            exact addE_end _ _
          have hdf := Hdf.out
          rw [he] at hdf
          have hf := Hok.out ss hdf wr sa sc (hsf.mono (by have := Hx4.out.size; omega)) (by omega) (by unfold maxLen; omega) (by rw [hsl]; exact hsi) hxV
          rw [hsl] at hf
          have Hf := Lib.hid hf
          clear hf
          clear hadd he hdf hsi hsf hD hlt2
          go_wp2_with fail
          refine bodyPost_ret (results_tmp3 rfl _ _ _) rfl ?_
          exact Hf.out
end Go.Proofs.Ytcoelhpmkhimpaa

namespace Go.Proofs.Ytcoelhpmkhimpaa
open Go.RowKit
set_option linter.unusedVariables false
set_option linter.unusedSimpArgs false
attribute [local go_sem] Oper.semAt_some
def DaysPost (r : List Camel × Int) (w : World) (e : Ending) (w' : World) : Prop := ∃ a cp, e = .returned (.tuple #[.slice a r.1.length cp, .int .u8 r.2, .int .i64 0, .int .i64 0]) ∧ From w.heap.size a ∧ r.1.length ≤ cp ∧ cp ≤ maxLen ∧ CamelsAt w' a r.1.length r.1 ∧ Ext w w'
/-- the block that the slice in box p leads to -/
def OwnIn (p : Nat) (A : World) (b : Nat) : Prop := ∃ v, A.heap[p]? = some (.cells #[v] 49 (0, 0)) ∧ v.ownBlock = some b
structure KpS (O : Nat → Prop) (p : Nat) (A B : World) : Prop where
  kp : KpO (fun b => O b ∨ OwnIn p A b) A B
  own : ∀ b, OwnIn p B b → OwnIn p A b ∨ A.heap.size ≤ b
theorem KpS.trans {O : Nat → Prop} {p : Nat} {A B C : World} (h : KpS O p A B) (k : KpS O p B C) : KpS O p A C := by
  refine ⟨⟨Nat.le_trans h.kp.size k.kp.size, fun b o hb hc hn => ?_⟩, fun b hb => ?_⟩
  · refine k.kp.block b o (h.kp.block b o hb hc hn) hc (fun q => ?_)
    rcases q with q | q
    · exact hn (.inl q)
    · rcases h.own b q with q | q
      · exact hn (.inr q)
      · have := heap_lt hb
        omega
  · rcases k.own b hb with q | q
    · exact h.own b q
    · exact .inr (Nat.le_trans h.kp.size q)
theorem kpS_put {O : Nat → Prop} {p n : Nat} (hp : p < n) (W : World) (l : Nat) (o o' : Obj) (h : n ≤ l) (hl : W.heap[l]? = some o) (ho : o.isCells = false) (hw : o.isWalk = false) : KpS O p W (W.putObj l o') := by
  refine ⟨kpO_b (n := n) W l o o' h hl ho hw, fun b ⟨v, hv, hb⟩ => .inl ⟨v, ?_, hb⟩⟩
  exact (World.putObj_heap_other (by omega)).symm.trans hv
theorem kpS_ext {O : Nat → Prop} {p n : Nat} (hp : p < n) {A B : World} (h : n ≤ A.heap.size) (hx : Ext A B) : KpS O p A B :=
  ⟨hx.kpO _, fun b ⟨v, hv, hb⟩ => .inl ⟨v, (Below.block hx p (by omega)).symm.trans hv, hb⟩⟩
/-- what is so in the loop -/
structure DaysI (w : World) (B0 : Nat) (pre : List DayStep) (V : World) : Prop where
  ext : Ext w V
  all : ∃ v, V.heap[w.heap.size + 1 + 1]? = some (.cells #[v] 49 (0, 0)) ∧ Owns V B0 27 7 v (camelRows (pre.map (·.c)))
  fate : V.heap[w.heap.size + 1 + 1 + 1]? = some (.cells #[.int .u8 (fateL pre)] 5 (0, 0))
  at' : V.heap[w.heap.size + 1 + 1 + 1 + 1]? = some (.cells #[.int .i64 0] 3 (0, 0))
  er : V.heap[w.heap.size + 1 + 1 + 1 + 1 + 1]? = some (.cells #[.int .i64 0] 40 (0, 0))
  low : B0 ≤ V.heap.size
def daysV (p B0 : Nat) (A : World) : Prop := p < A.heap.size ∧ ∀ b, OwnIn p A b → B0 ≤ b ∧ b < A.heap.size
theorem DaysI.v {w : World} {B0 : Nat} {pre : List DayStep} {A : World} (h : DaysI w B0 pre A) : daysV (w.heap.size + 1 + 1) B0 A := by
  obtain ⟨v, hv, ho⟩ := h.all
  refine ⟨heap_lt hv, fun b ⟨v', hv', hb⟩ => ?_⟩
  rw [hv] at hv'
  cases hv'
  exact ho.lt b hb
theorem Owns.butF {O : Nat → Prop} {lo B : Nat} {e : TypeId} {sz : Nat} {v : Value} {rows : List (List Value)} {A C : World} (h : Owns A B e sz v rows) (k : ButF O lo A C) (hn : ∀ b, v.ownBlock = some b → ¬O b) : Owns C B e sz v rows := by
  refine ⟨⟨h.1.1, ?_⟩, h.2⟩
  rcases h.1.2 with q | ⟨g, cap, cur, e1, e2, e3, e4⟩
  · exact .inl q
  · exact .inr ⟨g, cap, cur, e1, e2, k.cells e3 (hn g (by rw [e1]; rfl)), e4⟩
theorem Owns.cellsAt {B : Nat} {e : TypeId} {sz : Nat} {v : Value} {rows : List (List Value)} {A : World} (h : Owns A B e sz v rows) {b : Nat} (hb : v.ownBlock = some b) : ∃ cs, A.heap[b]? = some (.cells cs e (0, 0)) := by
  rcases h.1.2 with ⟨rfl, _⟩ | ⟨g, cap, cur, rfl, e2, e3, e4⟩
  · cases hb
  · cases hb
    exact ⟨cur, e3⟩
theorem DaysI.f {w : World} {B0 pa lo : Nat} {pre : List DayStep} {A B : World} (h : DaysI w B0 pre A) (h1 : w.heap.size ≤ pa) (h2 : w.heap.size ≤ lo) (h3 : w.heap.size + 1 + 1 + 1 + 1 + 1 < pa) (h4 : pa < B0) (k : ButF (fun b => b = pa) lo A B) : DaysI w B0 pre B := by
  obtain ⟨v, hv, ho⟩ := h.all
  refine ⟨ButF.ext h.ext k (fun b hb => by subst hb; exact h1) h2, ⟨v, k.cells hv (by omega), ho.butF k (fun b hb => by have := (ho.lt b hb).1; omega)⟩, k.cells h.fate (by omega), k.cells h.at' (by omega), k.cells h.er (by omega), Nat.le_trans h.low k.size⟩
theorem KpO.mono {O O' : Nat → Prop} {A B : World} (h : KpO O A B) (hO : ∀ b, O b → O' b) : KpO O' A B := ⟨h.size, fun b o hb hc hn => h.block b o hb hc (fun q => hn (hO b q))⟩
theorem But.kpO {O : Nat → Prop} {A B : World} (h : But O A B) : KpO O A B := ⟨h.size, fun b o hb _ hn => h.block b o hb hn⟩
theorem But.mono {O O' : Nat → Prop} {A B : World} (h : But O A B) (hO : ∀ b, O b → O' b) : But O' A B := ⟨h.os, h.tape, h.output, h.size, fun b o hb hn => h.block b o hb (fun q => hn (hO b q))⟩
theorem kpS_days {O : Nat → Prop} {p B0 : Nat} {wr A B : World} (hV : daysV p B0 wr) (hx : Ext wr A) (k : KpS O p A B) : KpO (fun b => O b ∨ (B0 ≤ b ∧ b < wr.heap.size)) A B :=
  k.kp.mono fun b hb => hb.imp id fun ⟨v, hv, ho⟩ => hV.2 b ⟨v, (Below.block hx p hV.1).symm.trans hv, ho⟩
theorem days_step {w W Wa : World} {B0 k : Nat} {pre : List DayStep} {x : DayStep} {v v' : Value} {M : Int} (hI : DaysI w B0 pre W) (hv : W.heap[w.heap.size + 1 + 1]? = some (.cells #[v] 49 (0, 0))) (ho : Owns W B0 27 7 v (camelRows (pre.map (·.c))))
    (hb : But (fun b => v.ownBlock = some b) W Wa) (ho' : Owns Wa B0 27 7 v' (camelRows (pre.map (·.c)) ++ camelRows [x.c])) (hown : v'.ownBlock = v.ownBlock ∨ v'.ownBlock = some k) (hk : W.heap.size ≤ k) (hks : KeepsOthers W Wa) (hB : w.heap.size + 1 + 1 + 1 + 1 + 1 < B0) (hM : M = fateL (pre ++ [x])) :
    KeepsOthers W ((Wa.setCell ⟨w.heap.size + 1 + 1, 0, none⟩ v').setCell ⟨w.heap.size + 1 + 1 + 1, 0, none⟩ (.int .u8 M)) ∧ KpS (fun b => b = w.heap.size + 1 + 1 ∨ b = w.heap.size + 1 + 1 + 1) (w.heap.size + 1 + 1) W ((Wa.setCell ⟨w.heap.size + 1 + 1, 0, none⟩ v').setCell ⟨w.heap.size + 1 + 1 + 1, 0, none⟩ (.int .u8 M)) ∧
    DaysI w B0 (pre ++ [x]) ((Wa.setCell ⟨w.heap.size + 1 + 1, 0, none⟩ v').setCell ⟨w.heap.size + 1 + 1 + 1, 0, none⟩ (.int .u8 M)) := by
  have hlt := ho.lt
  have hn : ∀ b, b < B0 → ¬v.ownBlock = some b := fun b hb h => by have := (hlt b h).1; omega
  have hva := hb.block _ _ hv (hn _ (by omega))
  have hfa := hb.block _ _ hI.fate (hn _ (by omega))
  have hset : But (fun b => b = w.heap.size + 1 + 1 ∨ b = w.heap.size + 1 + 1 + 1) Wa ((Wa.setCell ⟨w.heap.size + 1 + 1, 0, none⟩ v').setCell ⟨w.heap.size + 1 + 1 + 1, 0, none⟩ (.int .u8 M)) := (But.setCell (O := fun b => b = w.heap.size + 1 + 1 ∨ b = w.heap.size + 1 + 1 + 1) Wa v' (.inl rfl)).trans (But.setCell (O := fun b => b = w.heap.size + 1 + 1 ∨ b = w.heap.size + 1 + 1 + 1) _ _ (.inr rfl))
  have hva' : ((Wa.setCell ⟨w.heap.size + 1 + 1, 0, none⟩ v').setCell ⟨w.heap.size + 1 + 1 + 1, 0, none⟩ (.int .u8 M)).heap[w.heap.size + 1 + 1]? = some (.cells #[v'] 49 (0, 0)) := by
    refine (Below.heap_setCell _ _ _ _ (by simp only; omega)).trans ?_
    rw [heap_setCell_box, hva]
    rfl
  refine ⟨(hks.trans (KeepsOthers.setCell _ _ _)).trans (KeepsOthers.setCell _ _ _), ⟨?_, ?_⟩, ?_⟩
  · exact (hb.kpO.mono fun b h => .inr ⟨v, hv, h⟩).trans (hset.kpO.mono fun b h => .inl h)
  · rintro b ⟨u, hu, hub⟩
    rw [hva'] at hu
    cases hu
    rcases hown with q | q
    · exact .inl ⟨v, hv, by rw [← q]; exact hub⟩
    · rw [q] at hub
      cases hub
      exact .inr hk
  · refine ⟨?_, ⟨v', hva', ?_⟩, ?_, ?_, ?_, Nat.le_trans hI.low (Nat.le_trans hb.size hset.size)⟩
    · have h1 := But.ext hI.ext hb (fun b h => by have := (hlt b h).1; omega)
      exact But.ext h1 hset (fun b h => by omega)
    · rw [List.map_append, List.map_cons, List.map_nil, camelRows_append]
      exact ho'.butF (hset.f 0) (fun b h => by have := (ho'.lt b h).1; omega)
    · rw [heap_setCell_box, (Below.heap_setCell _ _ _ _ (by simp only; omega)).trans hfa, hM]
      rfl
    · exact hset.block _ _ (hb.block _ _ hI.at' (hn _ (by omega))) (by omega)
    · exact hset.block _ _ (hb.block _ _ hI.er (hn _ (by omega))) (by omega)
def daysTm (b c s : Value) (q : Nat) (g pr p11 f bv fv : Value) : Array Value :=
  #[b, c, s, .pointer (some ⟨q, 0, none⟩), .pointer (some ⟨q + 1, 0, none⟩), undef, .pointer (some ⟨q + 1 + 1, 0, none⟩), .pointer (some ⟨q + 1 + 1 + 1, 0, none⟩), .pointer (some ⟨q + 1 + 1 + 1 + 1, 0, none⟩), .pointer (some ⟨q + 1 + 1 + 1 + 1 + 1, 0, none⟩), .int .i64 0, p11, f, b, c, s, .int .i64 0, .int .i64 0, .bool false, undef, b, c, g, s, pr, bv, fv,
    undef, undef, undef, undef, undef, undef, undef, undef, undef, undef, undef, undef, undef, undef, undef]
/-- the theorem of Unl, in a round -/
theorem wpIn_region_E {P : Program} {E : Nat → World → World → Prop} {Q : Exit → Act → World → Prop} {l id : Nat} {l0 : List Oper} {a : Act} {w : World} (hm : P.follows .mixedOrders = true) (hd : l0.toArray.all noDefer = true) (h : Closed l0.toArray (Array.replicate l0.toArray.size false) → wpAnyE P l0.toArray (normalOnly Q) E l0.toArray.size (Array.replicate l0.toArray.size false) a w.drew) : (Code.region id l0.toArray true).wpIn (Fence.wide.inRound l) 0 P Q a w := by
  have key := wpAny_of_E _ _ _ _ (h (closed_none _ _))
  have key2 := wpAnyIn_of_wpAny (l := l) hd (fun ⟨_, _, e⟩ => e) _ _ _ _ key
  exact wpIn_mono (wpIn_region_any (Q := normalOnly Q) hm key2) fun e a w hq => by cases e <;> first | exact hq | exact hq.elim
/-- what the operations of region 9 keep -/
def E9 (ob : Option Nat) (p6 k : Nat) (w w' : World) : Prop := k ≠ 9 → But (fun b => ob = some b ∨ (b = p6 ∧ k = 8)) w w'
theorem E9.read (ob : Option Nat) (p6 k : Nat) (w : World) : E9 ob p6 k w w := fun _ => But.refl _ _
theorem E9.keepA {ob : Option Nat} {p6 k : Nat} {w0 w w' : World} (hk : ([0, 1, 2, 3, 4, 5, 6, 7, 8] : List Nat).contains k = true ∨ 10 ≤ k) (hS : But (fun b => ob = some b ∨ b = p6) w0 w) (h : E9 ob p6 k w w') : But (fun b => ob = some b ∨ b = p6) w0 w' :=
  hS.trans ((h (by rintro rfl; rcases hk with h | h <;> simp at h)).mono fun b hb => hb.imp id And.left)
theorem E9.keepB {ob : Option Nat} {p6 k : Nat} {w0 w w' : World} (hk : ([0, 1, 2, 3, 5, 6, 7] : List Nat).contains k = true ∨ 10 ≤ k) (hS : But (fun b => ob = some b) w0 w) (h : E9 ob p6 k w w') : But (fun b => ob = some b) w0 w' :=
  hS.trans ((h (by rintro rfl; rcases hk with h | h <;> simp at h)).mono fun b hb => hb.elim id fun q => by obtain ⟨_, rfl⟩ := q; rcases hk with h | h <;> simp at h)
def E10 (p6 k : Nat) (w w' : World) : Prop := (k = 3 ∨ k = 4 ∨ k = 5) ∨ But (fun b => b = p6 ∧ k = 2) w w'
theorem E10.read (p6 k : Nat) (w : World) : E10 p6 k w w := .inr (But.refl _ _)
theorem E10.keepA {p6 k : Nat} {w0 w w' : World} (hk : ([0, 1] : List Nat).contains k = true ∨ 6 ≤ k) (hS : But (fun _ => False) w0 w) (h : E10 p6 k w w') : But (fun _ => False) w0 w' := by
  have hk' : k = 0 ∨ k = 1 ∨ 6 ≤ k := by
    rcases hk with h | h
    · simp at h; omega
    · omega
  rcases h with h | h
  · omega
  · exact hS.trans (h.mono fun b hb => by omega)
theorem E10.keepB {p6 k : Nat} {w0 w w' : World} (hk : ([0, 1, 2] : List Nat).contains k = true ∨ 6 ≤ k) (hS : But (fun b => b = p6) w0 w) (h : E10 p6 k w w') : But (fun b => b = p6) w0 w' := by
  have hk' : k = 0 ∨ k = 1 ∨ k = 2 ∨ 6 ≤ k := by
    rcases hk with h | h
    · simp at h; omega
    · omega
  rcases h with h | h
  · omega
  · exact hS.trans (h.mono fun b hb => hb.1)
theorem camel_src (W : World) (c : Camel) : SlAt (W.alloc (.cells c.cells.toArray 27)) 7 (some ⟨W.heap.size, 0, none⟩) 1 (fun k => (camelRows [c]).getD k []) :=
  slAt_one (fun j v hv => by
    rw [cell_of_row _ _ _ _ 27 (0, 0) (heap_alloc_new W _), Nat.zero_add, List.getElem?_toArray]
    exact hv)
theorem Owns.lower {B B' : Nat} {e : TypeId} {sz : Nat} {v : Value} {rows : List (List Value)} {A : World} (h : Owns A B e sz v rows) (hB : B' ≤ B) : Owns A B' e sz v rows := by
  refine ⟨⟨h.1.1, ?_⟩, h.2⟩
  rcases h.1.2 with q | ⟨g, cap, cur, e1, e2, e3⟩
  · exact .inl q
  · exact .inr ⟨g, cap, cur, e1, Nat.le_trans hB e2, e3⟩
/-- the four results' boxes at the end -/
structure DEnd (w : World) (D B0 : Nat) (v : Value) (rows : List (List Value)) (x6 x7 x8 x9 : Value) (V : World) : Prop where
  v6 : V.heap[w.heap.size + 1 + 1]? = some (.cells #[x6] 49 (0, 0))
  v7 : V.heap[w.heap.size + 1 + 1 + 1]? = some (.cells #[x7] 5 (0, 0))
  v8 : V.heap[w.heap.size + 1 + 1 + 1 + 1]? = some (.cells #[x8] 3 (0, 0))
  v9 : V.heap[w.heap.size + 1 + 1 + 1 + 1 + 1]? = some (.cells #[x9] 40 (0, 0))
  own : Owns V B0 27 7 v rows
  ext : Ext w V
  kd : V.heap[D]? = some (.deferred (some []))
  low : w.heap.size + 1 + 1 + 1 + 1 + 1 < B0
theorem DEnd.set6 {w : World} {D B0 : Nat} {v : Value} {rows : List (List Value)} {x6 x7 x8 x9 : Value} {V : World} (h : DEnd w D B0 v rows x6 x7 x8 x9 V) (y : Value) : DEnd w D B0 v rows y x7 x8 x9 (V.setCell ⟨w.heap.size + 1 + 1, 0, none⟩ y) := by
  have hb := But.setCell (O := fun b => b = w.heap.size + 1 + 1) V (i := 0) y rfl
  have hl := h.low
  exact ⟨by rw [heap_setCell_box, h.v6]; rfl, hb.block _ _ h.v7 (by omega), hb.block _ _ h.v8 (by omega), hb.block _ _ h.v9 (by omega), h.own.butF (hb.f 0) (fun b q => by have := (h.own.lt b q).1; omega), But.ext h.ext hb (fun b q => by omega), (KeepsOthers.setCell V _ _).same D _ h.kd rfl, hl⟩
theorem DEnd.set7 {w : World} {D B0 : Nat} {v : Value} {rows : List (List Value)} {x6 x7 x8 x9 : Value} {V : World} (h : DEnd w D B0 v rows x6 x7 x8 x9 V) (y : Value) : DEnd w D B0 v rows x6 y x8 x9 (V.setCell ⟨w.heap.size + 1 + 1 + 1, 0, none⟩ y) := by
  have hb := But.setCell (O := fun b => b = w.heap.size + 1 + 1 + 1) V (i := 0) y rfl
  have hl := h.low
  exact ⟨hb.block _ _ h.v6 (by omega), by rw [heap_setCell_box, h.v7]; rfl, hb.block _ _ h.v8 (by omega), hb.block _ _ h.v9 (by omega), h.own.butF (hb.f 0) (fun b q => by have := (h.own.lt b q).1; omega), But.ext h.ext hb (fun b q => by omega), (KeepsOthers.setCell V _ _).same D _ h.kd rfl, hl⟩
theorem DEnd.set8 {w : World} {D B0 : Nat} {v : Value} {rows : List (List Value)} {x6 x7 x8 x9 : Value} {V : World} (h : DEnd w D B0 v rows x6 x7 x8 x9 V) (y : Value) : DEnd w D B0 v rows x6 x7 y x9 (V.setCell ⟨w.heap.size + 1 + 1 + 1 + 1, 0, none⟩ y) := by
  have hb := But.setCell (O := fun b => b = w.heap.size + 1 + 1 + 1 + 1) V (i := 0) y rfl
  have hl := h.low
  exact ⟨hb.block _ _ h.v6 (by omega), hb.block _ _ h.v7 (by omega), by rw [heap_setCell_box, h.v8]; rfl, hb.block _ _ h.v9 (by omega), h.own.butF (hb.f 0) (fun b q => by have := (h.own.lt b q).1; omega), But.ext h.ext hb (fun b q => by omega), (KeepsOthers.setCell V _ _).same D _ h.kd rfl, hl⟩
theorem DEnd.set9 {w : World} {D B0 : Nat} {v : Value} {rows : List (List Value)} {x6 x7 x8 x9 : Value} {V : World} (h : DEnd w D B0 v rows x6 x7 x8 x9 V) (y : Value) : DEnd w D B0 v rows x6 x7 x8 y (V.setCell ⟨w.heap.size + 1 + 1 + 1 + 1 + 1, 0, none⟩ y) := by
  have hb := But.setCell (O := fun b => b = w.heap.size + 1 + 1 + 1 + 1 + 1) V (i := 0) y rfl
  have hl := h.low
  exact ⟨hb.block _ _ h.v6 (by omega), hb.block _ _ h.v7 (by omega), hb.block _ _ h.v8 (by omega), by rw [heap_setCell_box, h.v9]; rfl, h.own.butF (hb.f 0) (fun b q => by have := (h.own.lt b q).1; omega), But.ext h.ext hb (fun b q => by omega), (KeepsOthers.setCell V _ _).same D _ h.kd rfl, hl⟩
set_option maxRecDepth 100000 in
set_option maxHeartbeats 8000000 in
theorem days_any (s : Breed) (c : Camel) (l : List March) (la : Option Addr) (ln lc : Nat) (r : List Camel × Int) (w : World) (hl : DaysAt w la ln l) (h0 : askDays s c l = 0) (hd : daysOf s c l = some r) (hlc : ln ≤ lc) (hlm : lc ≤ maxLen) (hla : ∀ x, la = some x → x.block < w.heap.size) :
    Calls Try.prog 15 #[s.val, c.val, .slice la ln lc] w (DaysPost r w) := by
  obtain ⟨hbo, hco, hl60, hdo⟩ := ask_zero h0
  have hll := hl.1
  have hck := fun W (hW : Ext w W) => check_any s c la ln lc l W (hl.ext hW) (by omega)
  simp only [h0] at hck
  have hfn := fun W => daysFn_any s c la ln lc W
  rw [beastVal_eq] at hfn
  obtain ⟨hmap, hfate, h01⟩ := days_seq hd
  rw [← fateL_eq] at hfate
  have hsl := seq_len s l c
  obtain ⟨Q, hQ⟩ : ∃ Q, DaysPost r w = Q := ⟨_, rfl⟩
  obtain ⟨W0, hW0⟩ : ∃ W0, (((((w.alloc (.cells s.cells.toArray 25)).alloc (.cells c.cells.toArray 27)).alloc (.cells #[.slice none 0 0] 49)).alloc (.cells #[.int .u8 0] 5)).alloc (.cells #[.int .i64 0] 3)).alloc (.cells #[.int .i64 0] 40) = W0 := ⟨_, rfl⟩
  have hx0 : Ext w W0 := by rw [← hW0]; exact ((((((Ext.refl w).alloc _).alloc _).alloc _).alloc _).alloc _).alloc _
  have hb0 : W0.heap[w.heap.size]? = some (.cells s.cells.toArray 25 (0, 0)) := by rw [← hW0]; exact alloc_heap (alloc_heap (alloc_heap (alloc_heap (alloc_heap (heap_alloc_new w _) _) _) _) _) _
  have hc0 : W0.heap[w.heap.size + 1]? = some (.cells c.cells.toArray 27 (0, 0)) := by rw [← hW0]; exact alloc_heap (alloc_heap (alloc_heap (alloc_heap (alloc_at _ _ _ (by simp)) _) _) _) _
  have h60 : W0.heap[w.heap.size + 1 + 1]? = some (.cells #[.slice none 0 0] 49 (0, 0)) := by rw [← hW0]; exact alloc_heap (alloc_heap (alloc_heap (alloc_at _ _ _ (by simp)) _) _) _
  have h70 : W0.heap[w.heap.size + 1 + 1 + 1]? = some (.cells #[.int .u8 0] 5 (0, 0)) := by rw [← hW0]; exact alloc_heap (alloc_heap (alloc_at _ _ _ (by simp)) _) _
  have h80 : W0.heap[w.heap.size + 1 + 1 + 1 + 1]? = some (.cells #[.int .i64 0] 3 (0, 0)) := by rw [← hW0]; exact alloc_heap (alloc_at _ _ _ (by simp)) _
  have h90 : W0.heap[w.heap.size + 1 + 1 + 1 + 1 + 1]? = some (.cells #[.int .i64 0] 40 (0, 0)) := by rw [← hW0]; exact alloc_at _ _ _ (by simp)
  have hst := fun (W : World) (pl pa : Nat) (O : Nat → Prop) (h1 : W.heap[pl]? = some (.cells #[.slice la ln lc] 48 (0, 0))) (h2 : W.heap[pa]? = some (.cells (bCells s c).toArray 122 (0, 0))) (h3 : DaysAt W la ln l) => days_stopsK 1 pl pa la ln lc l s c O W h1 h2 h3 hbo hco hdo (by omega) hlc hlm
  unfold bCells at hfn hst
  obtain ⟨N, hN⟩ : ∃ N, (seqOf s c l).length = N := ⟨_, rfl⟩
  obtain ⟨ys, hys⟩ : ∃ ys, seqOf s c l = ys := ⟨_, rfl⟩
  rw [hys] at hst hmap hfate h01 hN hsl
  rw [hN] at hst hsl
  rw [hQ]
  have hfin : ∀ v W', Owns W' w.heap.size 27 7 v (camelRows (ys.map (·.c))) → Ext w W' → Q (.returned (.tuple #[v, .int .u8 (fateL ys), .int .i64 0, .int .i64 0])) W' := fun v W' ho hx => by
    obtain ⟨a, cp, rfl, h1, h2, h3, h4⟩ := camels_of_owns ho
    rw [← hQ]
    rw [hmap] at h2 h4 ⊢
    rw [hfate]
    exact ⟨a, cp, rfl, h1, h2, h3, h4, hx⟩
  clear hQ hys h0 hd hmap hfate
  obtain ⟨fu, fe, ⟨r0, r1⟩, ⟨h0, h1⟩, ⟨t0, t1⟩, ⟨b0, b1⟩, ⟨u0, u1⟩, ⟨m0, m1⟩, hz, ⟨s0, s1⟩⟩ := s
  obtain ⟨⟨w0, w1⟩, ⟨k0, k1⟩, ⟨o0, o1⟩, mk⟩ := c
  unfold Breed.val Camel.val at hck ⊢
  unfold Breed.cells at hb0 hW0
  unfold Camel.cells at hc0 hW0
  simp only at hck hfn hst hb0 hc0 hW0 ⊢
  have Hck := Lib.hid hck
  have Hfn := Lib.hid hfn
  have Hx0 := Lib.hid hx0
  have Hb0 := Lib.hid hb0
  have Hc0 := Lib.hid hc0
  have H60 := Lib.hid h60
  have H70 := Lib.hid h70
  have H80 := Lib.hid h80
  have H90 := Lib.hid h90
  have Hfin := Lib.hid hfin
  have Hst := Lib.hid hst
  have Hla := Lib.hid hla
  have H01 := Lib.hid h01
  have Hbo := Lib.hid hbo
  have Hco := Lib.hid hco
  have Hdo := Lib.hid hdo
  have Hl := Lib.hid hl
  clear hck hfn hx0 hb0 hc0 h60 h70 h80 h90 hfin hst hla h01 hbo hco hdo hl
  refine (callsIn_wide (n := 2)).1 ?_
  refine callsIn_of_wp_marks Try.func15 rfl trivial ?_ rfl
  simp only [Try.ntmps15, List.size_toArray, List.length_cons, List.length_nil, Nat.reduceAdd, Nat.reduceSub, Array.replicate_succ, Array.replicate_zero, List.push_toArray, List.append_toArray, List.nil_append, List.cons_append]
  refine wpIn_wide.2 ?_
  go_wp2_with (first | (refine wpList_load_row rfl 25 (.tmp 3) rfl w.heap.size rfl 25 _ (0, 0) _ (by first | exact Hb0.out | exact hb1) Try.underlying25 rfl (by kernel_rfl) ?_) | (refine wpList_load_row rfl 27 (.tmp 4) rfl (w.heap.size + 1) rfl 27 _ (0, 0) _ (by first | exact Hc0.out | exact hc1) Try.underlying27 rfl (by kernel_rfl) ?_) | (go_at_call 51; refine (Hck.out _ Hx0.out).mono ?_; rintro e v1 ⟨rfl, hx1⟩; have hb1 := hx1.heap Hb0.out; have hc1 := hx1.heap Hc0.out) | (go_at_call 52; refine (Hfn.out _).mono ?_; rintro e v4 ⟨rfl, rfl⟩))
  have hx1w := Hx0.out.trans hx1
  have hx4 : Ext w ((v1.alloc (.cells #[.int .i64 fu, .int .i64 fe, .int .i64 r0, .int .i64 r1, .int .i64 h0, .int .i64 h1, .int .i64 t0, .int .i64 t1, .int .i64 b0, .int .i64 b1, .int .i64 u0, .int .i64 u1, .int .i64 m0, .int .i64 m1, .int .i64 hz, .int .i64 s0, .int .i64 s1, .int .i64 w0, .int .i64 w1, .int .i64 k0, .int .i64 k1, .int .i64 o0, .int .i64 o1, .bool mk] 122)).alloc (.cells #[.slice la ln lc] 48)) := (hx1w.alloc _).alloc _
  have hx14 : Ext v1 ((v1.alloc (.cells #[.int .i64 fu, .int .i64 fe, .int .i64 r0, .int .i64 r1, .int .i64 h0, .int .i64 h1, .int .i64 t0, .int .i64 t1, .int .i64 b0, .int .i64 b1, .int .i64 u0, .int .i64 u1, .int .i64 m0, .int .i64 m1, .int .i64 hz, .int .i64 s0, .int .i64 s1, .int .i64 w0, .int .i64 w1, .int .i64 k0, .int .i64 k1, .int .i64 o0, .int .i64 o1, .bool mk] 122)).alloc (.cells #[.slice la ln lc] 48)) := ((Ext.refl v1).alloc _).alloc _
  have hpa : ((v1.alloc (.cells #[.int .i64 fu, .int .i64 fe, .int .i64 r0, .int .i64 r1, .int .i64 h0, .int .i64 h1, .int .i64 t0, .int .i64 t1, .int .i64 b0, .int .i64 b1, .int .i64 u0, .int .i64 u1, .int .i64 m0, .int .i64 m1, .int .i64 hz, .int .i64 s0, .int .i64 s1, .int .i64 w0, .int .i64 w1, .int .i64 k0, .int .i64 k1, .int .i64 o0, .int .i64 o1, .bool mk] 122)).alloc (.cells #[.slice la ln lc] 48)).heap[v1.heap.size]? = some (.cells #[.int .i64 fu, .int .i64 fe, .int .i64 r0, .int .i64 r1, .int .i64 h0, .int .i64 h1, .int .i64 t0, .int .i64 t1, .int .i64 b0, .int .i64 b1, .int .i64 u0, .int .i64 u1, .int .i64 m0, .int .i64 m1, .int .i64 hz, .int .i64 s0, .int .i64 s1, .int .i64 w0, .int .i64 w1, .int .i64 k0, .int .i64 k1, .int .i64 o0, .int .i64 o1, .bool mk] 122 (0, 0)) := alloc_heap (heap_alloc_new v1 _) _
  have hpl : ((v1.alloc (.cells #[.int .i64 fu, .int .i64 fe, .int .i64 r0, .int .i64 r1, .int .i64 h0, .int .i64 h1, .int .i64 t0, .int .i64 t1, .int .i64 b0, .int .i64 b1, .int .i64 u0, .int .i64 u1, .int .i64 m0, .int .i64 m1, .int .i64 hz, .int .i64 s0, .int .i64 s1, .int .i64 w0, .int .i64 w1, .int .i64 k0, .int .i64 k1, .int .i64 o0, .int .i64 o1, .bool mk] 122)).alloc (.cells #[.slice la ln lc] 48)).heap[v1.heap.size + 1]? = some (.cells #[.slice la ln lc] 48 (0, 0)) := alloc_at _ _ _ (by simp)
  have hsz4 : ((v1.alloc (.cells #[.int .i64 fu, .int .i64 fe, .int .i64 r0, .int .i64 r1, .int .i64 h0, .int .i64 h1, .int .i64 t0, .int .i64 t1, .int .i64 b0, .int .i64 b1, .int .i64 u0, .int .i64 u1, .int .i64 m0, .int .i64 m1, .int .i64 hz, .int .i64 s0, .int .i64 s1, .int .i64 w0, .int .i64 w1, .int .i64 k0, .int .i64 k1, .int .i64 o0, .int .i64 o1, .bool mk] 122)).alloc (.cells #[.slice la ln lc] 48)).heap.size = v1.heap.size + 1 + 1 := by simp
  have h9l := heap_lt (hx1.heap H90.out)
  have h6 := hx14.heap (hx1.heap H60.out)
  have h7 := hx14.heap (hx1.heap H70.out)
  have h8 := hx14.heap (hx1.heap H80.out)
  have h9 := hx14.heap (hx1.heap H90.out)
  generalize ((v1.alloc (.cells #[.int .i64 fu, .int .i64 fe, .int .i64 r0, .int .i64 r1, .int .i64 h0, .int .i64 h1, .int .i64 t0, .int .i64 t1, .int .i64 b0, .int .i64 b1, .int .i64 u0, .int .i64 u1, .int .i64 m0, .int .i64 m1, .int .i64 hz, .int .i64 s0, .int .i64 s1, .int .i64 w0, .int .i64 w1, .int .i64 k0, .int .i64 k1, .int .i64 o0, .int .i64 o1, .bool mk] 122)).alloc (.cells #[.slice la ln lc] 48)) = W4 at *
  generalize v1.heap.size = pa at *
  have hI0 : DaysI w W4.heap.size [] W4 := ⟨hx4, ⟨_, h6, Owns.nil _ _ _ _⟩, h7, h8, h9, Nat.le_refl _⟩
  have hseq := Hst.out W4 (pa + 1) pa (fun b => b = w.heap.size + 1 + 1 ∨ b = w.heap.size + 1 + 1 + 1) hpl hpa (Hl.out.ext hx4) (by omega) (by omega) (fun x hx => by have := Hla.out x hx; omega) (by omega) (fun b hb => by omega) (daysV (w.heap.size + 1 + 1) W4.heap.size) (KpS (fun b => b = w.heap.size + 1 + 1 ∨ b = w.heap.size + 1 + 1 + 1) (w.heap.size + 1 + 1)) (fun wr A B h1 h2 h3 => kpS_days h1 h2 h3)
  have Hseq := Lib.hid hseq
  have HI0 := Lib.hid hI0
  clear hseq hI0
  clear hx4 hx14 hpa hpl h6 h7 h8 h9 hx1 hx1w hb1 hc1 Hst Hck Hfn Hl hW0 Hb0 Hc0 H60 H70 H80 H90 Hx0
  refine (wpIn_wide (n := 2)).1 (wpIn_rangeFunc_box rfl (by omega) (gf := 97) (lb := #[.pointer (some ⟨pa + 1, 0, none⟩), .pointer (some ⟨pa, 0, none⟩)]) rfl trivial (enters_of Try.func97 (by kernel_rfl) rfl) Hseq.out (fun h k => h.trans k) (fun W l o o' h hl ho hw => kpS_put (by omega) W l o o' h hl ho hw) (Ext.refl _) (fun b hb => by subst hb; omega) (fun _ => rfl)
    (DaysI w W4.heap.size) (fun c pre V => ∃ x ∈ pre, x.f = 2)
    (fun q A B h k => h.f (by omega) (by omega) (by omega) (by omega) k)
    (fun c q A B h k => h)
    HI0.out (fun q A h => h.v) (fun h hx => kpS_ext (by omega) h hx)
    (fun x a V => ∃ p, a = { tmps := daysTm (.agg #[.int .i64 fu, .int .i64 fe, .int .i64 r0, .int .i64 r1, .int .i64 h0, .int .i64 h1, .int .i64 t0, .int .i64 t1, .int .i64 b0, .int .i64 b1, .int .i64 u0, .int .i64 u1, .int .i64 m0, .int .i64 m1, .int .i64 hz, .int .i64 s0, .int .i64 s1]) (.agg #[.int .i64 w0, .int .i64 w1, .int .i64 k0, .int .i64 k1, .int .i64 o0, .int .i64 o1, .bool mk]) (.slice la ln lc) w.heap.size (.agg #[.int .i64 fu, .int .i64 fe, .int .i64 r0, .int .i64 r1, .int .i64 h0, .int .i64 h1, .int .i64 t0, .int .i64 t1, .int .i64 b0, .int .i64 b1, .int .i64 u0, .int .i64 u1, .int .i64 m0, .int .i64 m1, .int .i64 hz, .int .i64 s0, .int .i64 s1, .int .i64 w0, .int .i64 w1, .int .i64 k0, .int .i64 k1, .int .i64 o0, .int .i64 o1, .bool mk]) (.func (.func 97) #[] #[.pointer (some ⟨pa + 1, 0, none⟩), .pointer (some ⟨pa, 0, none⟩)]) (.pointer (some ⟨p, 0, none⟩)) (.int .u8 x.f) (beastVal x.b x.c) (.int .u8 x.f), defers := [] } ∧ V.heap[p]? = some (.cells (bCells x.b x.c).toArray 122 (0, 0)))
    (fun x a B C h k => h.imp fun p h => ⟨h.1, k.cells h.2 id⟩) ?assign ?body ?done ?stop)
  case assign =>
    intro l x W K hs hK
    obtain ⟨xb, xc, xf⟩ := x
    have ez : (#[25, 26] : Array Tmp).zip (DayStep.enc ⟨xb, xc, xf⟩) = #[(25, beastVal xb xc), (26, .int .u8 xf)] := by simp [DayStep.enc]
    rw [ez]
    show Code.wpIn _ _ _ _ _ { tmps := daysTm (.agg #[.int .i64 fu, .int .i64 fe, .int .i64 r0, .int .i64 r1, .int .i64 h0, .int .i64 h1, .int .i64 t0, .int .i64 t1, .int .i64 b0, .int .i64 b1, .int .i64 u0, .int .i64 u1, .int .i64 m0, .int .i64 m1, .int .i64 hz, .int .i64 s0, .int .i64 s1]) (.agg #[.int .i64 w0, .int .i64 w1, .int .i64 k0, .int .i64 k1, .int .i64 o0, .int .i64 o1, .bool mk]) (.slice la ln lc) w.heap.size (.agg #[.int .i64 fu, .int .i64 fe, .int .i64 r0, .int .i64 r1, .int .i64 h0, .int .i64 h1, .int .i64 t0, .int .i64 t1, .int .i64 b0, .int .i64 b1, .int .i64 u0, .int .i64 u1, .int .i64 m0, .int .i64 m1, .int .i64 hz, .int .i64 s0, .int .i64 s1, .int .i64 w0, .int .i64 w1, .int .i64 k0, .int .i64 k1, .int .i64 o0, .int .i64 o1, .bool mk]) (.func (.func 97) #[] #[.pointer (some ⟨pa + 1, 0, none⟩), .pointer (some ⟨pa, 0, none⟩)]) undef undef (.agg (bCells xb xc).toArray) (.int .u8 xf), defers := [] } W
    dsimp only [daysTm]
    gi_wp2_with (refine wpListR_store_row rfl 122 (.tmp 11) (.tmp 25) rfl W.heap.size (bCells xb xc).toArray rfl rfl 122 zbCells (heap_alloc_new W _) (by kernel_rfl) (by kernel_rfl) (by kernel_rfl) ?_)
    refine hK _ _ ?_ ⟨W.heap.size, rfl, ?_⟩
    · exact below_setRow ((Ext.refl W).alloc _) (Nat.le_refl _) _
    · exact setRow_heap _ W.heap.size _ (bCells xb xc).toArray 122 (0, 0) (heap_alloc_new W _)
  case body =>
    intro l pre x a' W hI hA hlt
    obtain ⟨p, rfl, hp⟩ := hA
    obtain ⟨v, hv, ho⟩ := hI.all
    have hpl := heap_lt hp
    have hfl := heap_lt hI.er
    have hvl := heap_lt hv
    have hn60 : pre.length ≤ 60 := by omega
    obtain ⟨xb, xc, xf⟩ := x
    unfold bCells at hp
    simp only at hp
    dsimp only [daysTm]
    by_cases h2 : xf = 2
    · have h2B : (xf == 2) = true := by simpa using h2
      obtain ⟨va, vc, rfl, -, k1, k2, -⟩ := camels_of_owns ho
      simp only [List.length_map] at hv k1
      unfold maxLen at k2
      obtain ⟨y0, y1⟩ := (Ext.refl W).box hv
      obtain ⟨y2, y3⟩ := (Ext.refl W).box hI.fate
      obtain ⟨y4, y5⟩ := (Ext.refl W).box hI.at'
      obtain ⟨y6, y7⟩ := (Ext.refl W).box hI.er
      have HI := Lib.hid hI
      have H2 := Lib.hid h2
      have Ho := Lib.hid ho
      clear hI h2 ho
      clear hp
      gi_wp2
      exact ⟨(((KeepsOthers.setCell _ _ _).trans (KeepsOthers.setCell _ _ _)).trans (KeepsOthers.setCell _ _ _)).trans (KeepsOthers.setCell _ _ _), ⟨xb, xc, xf⟩, by simp, H2.out⟩
    · have h2B : (xf == 2) = false := by simpa using h2
      have hpo : ∀ q, v.ownBlock = some q → q ≠ p := fun q hq e => by
        subst e
        obtain ⟨cs, hcs⟩ := ho.cellsAt hq
        rw [hcs] at hp
        cases hp
      have hvo : ∀ q, v.ownBlock = some q → w.heap.size + 1 + 1 + 1 + 1 + 1 < q := fun q hq => by have := (ho.lt q hq).1; omega
      have hp6 : w.heap.size + 1 + 1 ≠ p := fun e => by rw [e, hp] at hv; cases hv
      have hfa := hI.fate
      obtain ⟨F, hF⟩ : ∃ F, fateL pre = F := ⟨_, rfl⟩
      obtain ⟨M, hM⟩ : ∃ M, (if F < xf then xf else F) = M := ⟨_, rfl⟩
      have hMe : M = fateL (pre ++ [(⟨xb, xc, xf⟩ : DayStep)]) := by
        rw [fateL_snoc, hF, ← hM]
        simp only
        split <;> omega
      rw [hF] at hfa
      have hrl : (camelRows (pre.map (·.c))).length = pre.length := by simp [camelRows]
      have hWr : (Ext.refl W).drew = (Ext.refl W).drew := rfl
      have hv0 := ((Ext.refl W).drew).heap hv
      have hS1 : But (fun b => v.ownBlock = some b ∨ b = w.heap.size + 1 + 1) W W.drew := ((Ext.refl W).drew).but _
      have hS2 : But (fun b => v.ownBlock = some b) W W.drew := ((Ext.refl W).drew).but _
      obtain ⟨⟨cw0, cw1⟩, ⟨ck0, ck1⟩, ⟨co0, co1⟩, cmk⟩ := xc
      simp only at hp
      have HI := Lib.hid hI
      have Hp := Lib.hid hp
      have Hv := Lib.hid hv
      have Ho := Lib.hid ho
      have Hpo := Lib.hid hpo
      have Hvo := Lib.hid hvo
      have Hfa := Lib.hid hfa
      have HMe := Lib.hid hMe
      have Hrl := Lib.hid hrl
      have HS1 := Lib.hid hS1
      have HS2 := Lib.hid hS2
      clear hI hp hv ho hpo hvo hfa hMe hrl hS1 hS2
      clear hWr h2
      gi_wp2
      refine wpIn_region_E (E := E9 v.ownBlock (w.heap.size + 1 + 1)) (by kernel_rfl) (by kernel_rfl) (fun hcl => ?_)
      refine anyE_take [1, 2, 5, 6, 7] [0, 1, 2, 3, 4, 5, 6, 7, 8] (But (fun b => v.ownBlock = some b ∨ b = w.heap.size + 1 + 1) W) 5 _ hcl (by kernel_rfl) rfl HS1.out (fun k hk w => E9.read _ _ k w) (fun k hk w w' hS h => E9.keepA hk hS h) ?_
      intro ι _ f hf
      have f0 := fun q => ((hf q).box Hp.out (fun h => h.elim (fun h => Hpo.out _ h rfl) (fun h => hp6 h.symm))).1
      have f1 := fun q => ((hf q).box Hfa.out (fun h => h.elim (fun h => by have := Hvo.out _ h; omega) (fun h => by omega))).1
      clear hf
      simp only [opsOf, consOp, List.getElem?_toArray, List.getElem?_cons_succ, List.getElem?_cons_zero]
      repeat (go_big_quiet_step (fail))
      refine wpQuiet_nil ?_
      clear f0 f1 hcl
      intro hcl
      refine anyE_take [0] [0, 1, 2, 3, 5, 6, 7] (But (fun b => v.ownBlock = some b) W) 4 _ hcl (by kernel_rfl) rfl HS2.out (fun k hk w => E9.read _ _ k w) (fun k hk w w' hS h => E9.keepB hk hS h) ?_
      intro ι _ f hf
      have f0 := fun q => ((hf q).box Hv.out (fun h => by have := Hvo.out _ h; omega)).1
      clear hf
      simp only [opsOf, consOp, List.getElem?_toArray, List.getElem?_cons_succ, List.getElem?_cons_zero]
      repeat (go_big_quiet_step (fail))
      refine wpQuiet_nil ?_
      clear f0 hcl
      intro hcl
      refine anyE_one (k := 3) (by kernel_rfl) (by simp only [List.getElem?_toArray, List.getElem?_cons_succ, List.getElem?_cons_zero]; rfl) hcl ?_
      clear hcl
      go_wp2_with fail
      have hx3 : Ext W (W.alloc (.cells #[.int .i64 cw0, .int .i64 cw1, .int .i64 ck0, .int .i64 ck1, .int .i64 co0, .int .i64 co1, .bool cmk] 27)).drew := ((Ext.refl W).alloc _).drew
      refine ⟨fun _ => ((Ext.refl W.drew).alloc _).but _, fun hcl => ?_⟩
      refine anyE_one (k := 4) (by kernel_rfl) (by simp only [List.getElem?_toArray, List.getElem?_cons_succ, List.getElem?_cons_zero]; rfl) hcl ?_
      clear hcl
      go_wp2_with (at_builtin; refine wpList_app elem49 _ rfl (.tmp 32) (.tmp 35) rfl W4.heap.size v (camelRows (pre.map (fun z : DayStep => z.c))) rfl (Ho.out.ext hx3) (some ⟨W.heap.size, 0, none⟩) 1 1 (camelRows [⟨⟨cw0, cw1⟩, ⟨ck0, ck1⟩, ⟨co0, co1⟩, cmk⟩]) rfl rfl ((camel_src W ⟨⟨cw0, cw1⟩, ⟨ck0, ck1⟩, ⟨co0, co1⟩, cmk⟩).ext (Ext.refl _).drew) (camelRows_row _) (by rw [Hrl.out]; simp [camelRows]; omega) (by have := HI.out.low; have := hx3.size; omega) ?_; intro v8 w8 ho8 hg8 hq8)
      have ho9 := ho8
      rw [← camelRows_append] at ho9
      obtain ⟨va8, vc8, rfl, -, -, -, -⟩ := camels_of_owns ho9
      clear ho9
      obtain ⟨n8, hn8⟩ : ∃ n8, (pre.map (fun z : DayStep => z.c) ++ [(⟨⟨cw0, cw1⟩, ⟨ck0, ck1⟩, ⟨co0, co1⟩, cmk⟩ : Camel)]).length = n8 := ⟨_, rfl⟩
      rw [hn8] at ho8 hq8 ⊢
      clear hn8
      have hb8 := (hx3.but (fun b => v.ownBlock = some b)).trans (but_grown hg8)
      have hk8 : KeepsOthers W w8 := (show KeepsOthers W (W.alloc (.cells #[.int .i64 cw0, .int .i64 cw1, .int .i64 ck0, .int .i64 ck1, .int .i64 co0, .int .i64 co1, .bool cmk] 27)).drew from ⟨(KeepsOthers.alloc W (.cells #[.int .i64 cw0, .int .i64 cw1, .int .i64 ck0, .int .i64 ck1, .int .i64 co0, .int .i64 co1, .bool cmk] 27)).size, (KeepsOthers.alloc W (.cells #[.int .i64 cw0, .int .i64 cw1, .int .i64 ck0, .int .i64 ck1, .int .i64 co0, .int .i64 co1, .bool cmk] 27)).same⟩).trans (KeepsOthers.of_grownBy hg8 (fun j o hj hjo => by
        obtain ⟨cs, hcs⟩ := Ho.out.cellsAt hj
        rw [hx3.heap hcs] at hjo
        cases hjo
        rfl))
      have h68 := hb8.block _ _ Hv.out (fun h => by have := Hvo.out _ h; omega)
      have h78 := hb8.block _ _ Hfa.out (fun h => by have := Hvo.out _ h; omega)
      obtain ⟨y0, y1⟩ := (Ext.refl w8).box h68
      have hl6 := heap_lt h68
      have hl7 := heap_lt h78
      refine ⟨fun _ => (but_grown hg8).mono fun b hb => .inl hb, fun hcl => ?_⟩
      have Hg8 := Lib.hid hg8
      have Hb8 := Lib.hid hb8
      have Hk8 := Lib.hid hk8
      have H68 := Lib.hid h68
      have H78 := Lib.hid h78
      have Ho8 := Lib.hid ho8
      have Hq8 := Lib.hid hq8
      have Hx3 := Lib.hid hx3
      clear hg8 hb8 hk8 h68 h78 ho8 hq8 hx3
      refine anyE_one (k := 8) (by kernel_rfl) (by simp only [List.getElem?_toArray, List.getElem?_cons_succ, List.getElem?_cons_zero]; rfl) hcl ?_
      clear hcl
      go_wp2_with fail
      refine ⟨fun _ => But.setCell w8 (.slice va8 n8 vc8) (.inr ⟨rfl, rfl⟩), fun hcl => ?_⟩
      have h79 := (Below.heap_setCell w8 ⟨w.heap.size + 1 + 1, 0, none⟩ (.slice va8 n8 vc8) (w.heap.size + 1 + 1 + 1) (by simp only; omega)).trans H78.out
      obtain ⟨y2, y3⟩ := (Ext.refl _).box h79
      clear y0 y1
      have H79 := Lib.hid h79
      clear h79
      refine anyE_one (k := 9) (by kernel_rfl) (by simp only [List.getElem?_toArray, List.getElem?_cons_succ, List.getElem?_cons_zero]; rfl) hcl ?_
      clear hcl
      go_wp2_with fail
      refine ⟨fun h => absurd rfl h, fun hcl => ?_⟩
      refine anyE_done (by kernel_rfl) ?_
      exact days_step HI.out Hv.out Ho.out Hb8.out Ho8.out Hq8.out Hx3.out.size Hk8.out (by omega) HMe.out
  case done =>
    rintro D xs W hD rfl hI hK
    obtain ⟨v, hv, ho⟩ := hI.all
    obtain ⟨va, vc, rfl, -, k1, k2, -⟩ := camels_of_owns ho
    obtain ⟨n9, hn9⟩ : ∃ n9, (xs.map (fun z : DayStep => z.c)).length = n9 := ⟨_, rfl⟩
    rw [hn9] at hv ho
    obtain ⟨F, hF⟩ : ∃ F, fateL xs = F := ⟨_, rfl⟩
    have hfin := fun W' h1 h2 => Hfin.out (.slice va n9 vc) W' h1 h2
    rw [hF] at hfin
    have hfa := hI.fate
    rw [hF] at hfa
    have hat := hI.at'
    have her := hI.er
    have hIe := hI.ext
    have hl9 := heap_lt her
    have hlo := ho.lt
    have hBw : w.heap.size + 1 + 1 + 1 + 1 + 1 < W4.heap.size := by omega
    have hS1 : But (fun _ => False) W W.drew := ((Ext.refl W).drew).but _
    have hS2 : But (fun b => b = w.heap.size + 1 + 1) W W.drew := ((Ext.refl W).drew).but _
    clear hI hF hn9 k1 k2 Hfin
    have Hv := Lib.hid hv
    have Ho := Lib.hid ho
    have Hfin := Lib.hid hfin
    have Hfa := Lib.hid hfa
    have Hat := Lib.hid hat
    have Her := Lib.hid her
    have HIe := Lib.hid hIe
    have HS1 := Lib.hid hS1
    have HS2 := Lib.hid hS2
    have Hlo := Lib.hid hlo
    clear hv ho hfin hfa hat her hIe hS1 hS2 hlo
    gi_wp2
    go_wp2_with fail
    refine wp_region_E (E := E10 (w.heap.size + 1 + 1)) (by kernel_rfl) (fun hcl => ?_)
    refine anyE_take [0] [0, 1] (But (fun _ => False) W) 5 _ hcl (by kernel_rfl) rfl HS1.out (fun k hk w => E10.read _ k w) (fun k hk w w' hS h => E10.keepA hk hS h) ?_
    intro ι _ f hf
    have f0 := fun q => ((hf q).box Hv.out id).1
    clear hf
    simp only [opsOf, consOp, List.getElem?_toArray, List.getElem?_cons_succ, List.getElem?_cons_zero]
    repeat (go_big_quiet_step (fail))
    refine wpQuiet_nil ?_
    clear f0 hcl
    intro hcl
    refine anyE_take [1] [0, 1, 2] (But (fun b => b = w.heap.size + 1 + 1) W) 4 _ hcl (by kernel_rfl) rfl HS2.out (fun k hk w => E10.read _ k w) (fun k hk w w' hS h => E10.keepB hk hS h) ?_
    intro ι _ f hf
    have f0 := fun q => ((hf q).box Hfa.out (by omega)).1
    clear hf
    simp only [opsOf, consOp, List.getElem?_toArray, List.getElem?_cons_succ, List.getElem?_cons_zero]
    repeat (go_big_quiet_step (fail))
    refine wpQuiet_nil ?_
    clear f0 hcl
    intro hcl
    have hD0 : DEnd w D W4.heap.size (.slice va n9 vc) (camelRows (xs.map (fun z : DayStep => z.c))) (.slice va n9 vc) (.int .u8 F) (.int .i64 0) (.int .i64 0) W.drew := ⟨((Ext.refl W).drew).heap Hv.out, ((Ext.refl W).drew).heap Hfa.out, ((Ext.refl W).drew).heap Hat.out, ((Ext.refl W).drew).heap Her.out, Ho.out.ext ((Ext.refl W).drew), HIe.out.drew, hK, hBw⟩
    generalize W.drew = W5 at *
    obtain ⟨y0, y1⟩ := (Ext.refl W5).box hD0.v6
    have hl0 := heap_lt hD0.v6
    have HD0 := Lib.hid hD0
    clear hD0
    refine anyE_one (k := 2) (by kernel_rfl) (by simp only [List.getElem?_toArray, List.getElem?_cons_succ, List.getElem?_cons_zero]; rfl) hcl ?_
    clear hcl
    go_wp2_with fail
    refine ⟨.inr (But.setCell W5 (.slice va n9 vc) ⟨rfl, rfl⟩), fun hcl => ?_⟩
    have hD1 := HD0.out.set6 (.slice va n9 vc)
    generalize W5.setCell ⟨w.heap.size + 1 + 1, 0, none⟩ (.slice va n9 vc) = W6 at *
    clear y0 y1
    obtain ⟨y0, y1⟩ := (Ext.refl W6).box hD1.v7
    have hl1 := heap_lt hD1.v7
    have HD1 := Lib.hid hD1
    clear hD1
    refine anyE_one (k := 3) (by kernel_rfl) (by simp only [List.getElem?_toArray, List.getElem?_cons_succ, List.getElem?_cons_zero]; rfl) hcl ?_
    clear hcl
    go_wp2_with fail
    refine ⟨.inl (by omega), fun hcl => ?_⟩
    have hD2 := HD1.out.set7 (.int .u8 F)
    generalize W6.setCell ⟨w.heap.size + 1 + 1 + 1, 0, none⟩ (.int .u8 F) = W7 at *
    clear y0 y1
    obtain ⟨y0, y1⟩ := (Ext.refl W7).box hD2.v8
    have hl2 := heap_lt hD2.v8
    have HD2 := Lib.hid hD2
    clear hD2
    refine anyE_one (k := 4) (by kernel_rfl) (by simp only [List.getElem?_toArray, List.getElem?_cons_succ, List.getElem?_cons_zero]; rfl) hcl ?_
    clear hcl
    go_wp2_with fail
    refine ⟨.inl (by omega), fun hcl => ?_⟩
    have hD3 := HD2.out.set8 (.int .i64 0)
    generalize W7.setCell ⟨w.heap.size + 1 + 1 + 1 + 1, 0, none⟩ (.int .i64 0) = W8 at *
    clear y0 y1
    obtain ⟨y0, y1⟩ := (Ext.refl W8).box hD3.v9
    have hl3 := heap_lt hD3.v9
    have HD3 := Lib.hid hD3
    clear hD3
    refine anyE_one (k := 5) (by kernel_rfl) (by simp only [List.getElem?_toArray, List.getElem?_cons_succ, List.getElem?_cons_zero]; rfl) hcl ?_
    clear hcl
    go_wp2_with fail
    refine ⟨.inl (by omega), fun hcl => ?_⟩
    have hD4 := HD3.out.set9 (.int .i64 0)
    generalize W8.setCell ⟨w.heap.size + 1 + 1 + 1 + 1 + 1, 0, none⟩ (.int .i64 0) = W9 at *
    clear y0 y1
    refine anyE_done (by kernel_rfl) ?_
    clear hcl
    go_wp2_with fail
    have hc6 := ((Ext.refl _).box (taken_heap hD4.v6 hD4.kd)).1 0
    have hc7 := ((Ext.refl _).box (taken_heap hD4.v7 hD4.kd)).1 0
    have hc8 := ((Ext.refl _).box (taken_heap hD4.v8 hD4.kd)).1 0
    have hc9 := ((Ext.refl _).box (taken_heap hD4.v9 hD4.kd)).1 0
    refine marks_ret1 hD4.kd (v := .tuple #[.slice va n9 vc, .int .u8 F, .int .i64 0, .int .i64 0]) (by simp [results, Try.f15, go_sem, hc6, hc7, hc8, hc9]) ?_
    exact Hfin.out _ ((hD4.own.butF (ButF.put (O := fun _ => False) (lo := 0) (.deferred none) hD4.kd rfl (by omega)) (fun b q => id)).lower (by omega)) (ext_taken hD4.ext (by omega))
  case stop =>
    rintro D c pre W hD hpre ⟨x, hx, h2⟩ hK
    have := H01.out x (hpre.subset hx)
    omega
end Go.Proofs.Ytcoelhpmkhimpaa

namespace Go.Proofs.Ytcoelhpmkhimpaa
open Go.RowKit
set_option linter.unusedVariables false
set_option linter.unusedSimpArgs false
theorem flat_get {sz : Nat} : ∀ (rows : List (List Value)), (∀ r ∈ rows, r.length = sz) → ∀ (k j : Nat), j < sz → rows.flatten[k * sz + j]? = (rows[k]?.bind fun r => r[j]?)
  | [], _, k, j, _ => by simp
  | r :: rows, h, 0, j, hj => by
    have hr := h r (List.mem_cons_self ..)
    simp only [List.flatten_cons, Nat.zero_mul, Nat.zero_add, List.getElem?_cons_zero, Option.bind_some]
    rw [List.getElem?_append_left (by omega)]
  | r :: rows, h, k + 1, j, hj => by
    have hr := h r (List.mem_cons_self ..)
    have ih := flat_get rows (fun r hr => h r (List.mem_cons_of_mem _ hr)) k j hj
    simp only [List.flatten_cons, List.getElem?_cons_succ]
    rw [List.getElem?_append_right (by rw [hr, Nat.succ_mul]; omega), hr, show (k + 1) * sz + j - sz = k * sz + j by rw [Nat.succ_mul]; omega]
    exact ih
theorem slAt_block {w : World} {b : Nat} {t : TypeId} {sz : Nat} {rows : List (List Value)} (hb : w.heap[b]? = some (.cells rows.flatten.toArray t (0, 0))) (hr : ∀ r ∈ rows, r.length = sz) : SlAt w sz (some ⟨b, 0, none⟩) rows.length (fun i => rows.getD i []) := by
  intro _
  refine ⟨b, 0, rfl, fun k hk j v hv => ?_⟩
  have hrow : (rows.getD k []).length = sz := by
    simp only [List.getD, List.getElem?_eq_getElem hk, Option.getD_some]
    exact hr _ (List.getElem_mem hk)
  have hj : j < sz := by
    rw [← hrow]
    exact (List.getElem?_eq_some_iff.1 hv).1
  rw [((Ext.refl w).box hb).1, Nat.zero_add, List.getElem?_toArray, flat_get rows hr k j hj]
  simp only [List.getD, List.getElem?_eq_getElem hk, Option.getD_some, Option.bind_some] at hv ⊢
  exact hv
theorem results_cell_cell {P : Program} {fn : Func} {p q : Tmp} {ty ty' : TypeId} (h : fn.results = #[.cell p ty, .cell q ty']) (tmps : Array Value) (w : World) (g g' : Nat) (T T' : TypeId) (cs cs' : Array Value) (fr fr' : Nat × Nat) (d d' : TypeDesc)
    (hp : tmps.getD p undef = .pointer (some ⟨g, 0, none⟩)) (hg : w.heap[g]? = some (.cells cs T fr))
    (hu : P.underlying ty = some d) (hd : (match d with | .struct _ | .array _ _ => true | _ => false) = true) (hi : (P.info? ty).map (·.size) = some cs.size)
    (hp' : tmps.getD q undef = .pointer (some ⟨g', 0, none⟩)) (hg' : w.heap[g']? = some (.cells cs' T' fr'))
    (hu' : P.underlying ty' = some d') (hd' : (match d' with | .struct _ | .array _ _ => true | _ => false) = true) (hi' : (P.info? ty').map (·.size) = some cs'.size) :
    (results fn tmps).run P w = .ok (.tuple #[.agg cs, .agg cs']) w := by
  have h1 : tmps[p]?.getD undef = .pointer (some ⟨g, 0, none⟩) := by simpa using hp
  have h2 : tmps[q]?.getD undef = .pointer (some ⟨g', 0, none⟩) := by simpa using hp'
  simp [results, h, h1, h2, asAddr, run_loadVar_row w g T ty cs fr d hg hu hd hi, run_loadVar_row w g' T' ty' cs' fr' d' hg' hu' hd' hi']
def exBreed : Breed := ⟨100, 10, ⟨10, 10⟩, ⟨0, 0⟩, ⟨0, 0⟩, ⟨0, 0⟩, ⟨0, 0⟩, ⟨0, 0⟩, 0, ⟨50, 50⟩⟩
def exCamel : Camel := ⟨⟨100, 100⟩, ⟨10, 10⟩, ⟨0, 0⟩, false⟩
def exHour : March := ⟨1, 0, ⟨0, 0⟩, ⟨0, 0⟩, ⟨0, 0⟩⟩
def exLand : Land := ⟨[zw, ⟨30, 0, 0, ⟨5, 5⟩, 100, ⟨0, 0⟩, 0⟩], [⟨0, 1, ⟨20, 30⟩, [⟨⟨0, 0⟩, ⟨99, 99⟩⟩]⟩]⟩
theorem exA_days : wdaysErr exLand 0 ⟨10, 10⟩ = 0 ∧ wdaysVal exLand 0 ⟨10, 10⟩ = ⟨2, 3⟩ := by decide +kernel
theorem exA_lasts : lastsVal exBreed exCamel exHour = (⟨10, 10⟩, 0) := by decide +kernel
theorem exA_ask : askDays exBreed exCamel (List.replicate 3 zday) = 0 := by decide +kernel
def exAfter (k : Int) : Camel := ⟨⟨100 - 10 * k, 100 - 10 * k⟩, ⟨10, 10⟩, ⟨0, 0⟩, false⟩
theorem exA_lives : daysOf exBreed exCamel (List.replicate 3 zday) = some ([exAfter 1, exAfter 2, exAfter 3], 0) := by decide +kernel
set_option maxRecDepth 100000 in
theorem beast_any (w : World) : Calls Try.prog 39 #[] w fun e w' => e = .returned (.tuple #[exBreed.val, exCamel.val]) ∧ Ext w w' := by
  have hsp := stretch_any
  obtain ⟨W0, hW0⟩ : ∃ W0, (w.alloc (.cells #[.int .i64 0, .int .i64 0, .int .i64 0, .int .i64 0, .int .i64 0, .int .i64 0, .int .i64 0, .int .i64 0, .int .i64 0, .int .i64 0, .int .i64 0, .int .i64 0, .int .i64 0, .int .i64 0, .int .i64 0, .int .i64 0, .int .i64 0] 25)).alloc (.cells #[.int .i64 0, .int .i64 0, .int .i64 0, .int .i64 0, .int .i64 0, .int .i64 0, .bool false] 27) = W0 := ⟨_, rfl⟩
  have hx0 : Ext w W0 := by rw [← hW0]; exact ((Ext.refl w).alloc _).alloc _
  have hb0 : W0.heap[w.heap.size]? = some (.cells #[.int .i64 0, .int .i64 0, .int .i64 0, .int .i64 0, .int .i64 0, .int .i64 0, .int .i64 0, .int .i64 0, .int .i64 0, .int .i64 0, .int .i64 0, .int .i64 0, .int .i64 0, .int .i64 0, .int .i64 0, .int .i64 0, .int .i64 0] 25 (0, 0)) := by rw [← hW0]; exact alloc_heap (heap_alloc_new w _) _
  have hb1 : W0.heap[w.heap.size + 1]? = some (.cells #[.int .i64 0, .int .i64 0, .int .i64 0, .int .i64 0, .int .i64 0, .int .i64 0, .bool false] 27 (0, 0)) := by rw [← hW0]; exact alloc_at _ _ _ (by simp)
  have Hsp := Lib.hid hsp
  have Hx0 := Lib.hid hx0
  have Hb0 := Lib.hid hb0
  have Hb1 := Lib.hid hb1
  clear hsp hx0 hb0 hb1
  have gg1 := trivial
  have gg2 := trivial
  have gg3 := trivial
  go_enter Try.func39, Try.ntmps39
  go_wp2_with (first
    | (go_at_call 16; (have q := gg1; clear q gg1); refine (Hsp.out _ _ _).mono ?_; rintro e w1 ⟨rfl, hx1⟩; have hy1 := Ext.trans (Ext.refl W0) hx1)
    | (go_at_call 16; (have q := gg2; clear q gg2); refine (Hsp.out _ _ _).mono ?_; rintro e w2 ⟨rfl, hx2⟩; have hy2 := hy1.trans hx2)
    | (go_at_call 16; (have q := gg3; clear q gg3); refine (Hsp.out _ _ _).mono ?_; rintro e w3 ⟨rfl, hx3⟩; have hy3 := hy2.trans hx3)
    | (go_at_call 16; refine (Hsp.out _ _ _).mono ?_; rintro e w4 ⟨rfl, hx4⟩; have hy4 := hy3.trans hx4; have hb04 := hy4.heap Hb0.out; have hb14 := hy4.heap Hb1.out)
    | (refine wpList_store_row rfl 25 (.tmp 0) (.tmp 4) rfl w.heap.size exBreed.cells.toArray rfl rfl 25 _ hb04 (by kernel_rfl) (by kernel_rfl) (by kernel_rfl) ?_; have hb05 := setRow_heap w4 w.heap.size _ exBreed.cells.toArray 25 (0, 0) hb04; have hb15 := (setRow_other w4 w.heap.size (w.heap.size + 1) exBreed.cells.toArray (by omega)).trans hb14; have hx5 := below_setRow (Hx0.out.trans hy4) (Nat.le_refl _) exBreed.cells.toArray)
    | (refine wpList_store_row rfl 27 (.tmp 1) (.tmp 7) rfl (w.heap.size + 1) exCamel.cells.toArray rfl rfl 27 _ hb15 (by kernel_rfl) (by kernel_rfl) (by kernel_rfl) ?_))
  have hb06 := (setRow_other (w4.setRow w.heap.size exBreed.cells.toArray) (w.heap.size + 1) w.heap.size exCamel.cells.toArray (by omega)).trans hb05
  have hb16 := setRow_heap (w4.setRow w.heap.size exBreed.cells.toArray) (w.heap.size + 1) _ exCamel.cells.toArray 27 (0, 0) hb15
  have hx6 := below_setRow hx5 (show w.heap.size ≤ w.heap.size + 1 by omega) exCamel.cells.toArray
  refine bodyPost_ret (results_cell_cell (P := Try.prog) (fn := Try.f39) rfl _ _ w.heap.size (w.heap.size + 1) 25 27 exBreed.cells.toArray exCamel.cells.toArray (0, 0) (0, 0) _ _ rfl hb06 Try.underlying25 rfl (by kernel_rfl) rfl hb16 Try.underlying27 rfl (by kernel_rfl)) rfl ?_
  exact ⟨rfl, hx6⟩
def wellRows (l : List Well) : List (List Value) := l.map Well.cells
theorem wells_block {W : World} {b : Nat} {t : TypeId} {n : Nat} (l : List Well) (hn : l.length = n) (hb : W.heap[b]? = some (.cells (wellRows l).flatten.toArray t (0, 0))) : WellsAt W (some ⟨b, 0, none⟩) n l := by
  subst hn
  have h := slAt_block (rows := wellRows l) (sz := 9) hb (fun r hr => by obtain ⟨s, _, rfl⟩ := List.mem_map.1 hr; rfl)
  rw [show (wellRows l).length = l.length by simp [wellRows]] at h
  exact ⟨rfl, h.congr fun i hi => by simp [wellRows, List.getD, List.getElem?_map, List.getElem?_eq_getElem hi]⟩
def gateRows (l : List Gate) : List (List Value) := l.map Gate.cells
theorem gates_block {W : World} {b : Nat} {t : TypeId} {n : Nat} (l : List Gate) (hn : l.length = n) (hb : W.heap[b]? = some (.cells (gateRows l).flatten.toArray t (0, 0))) : GatesAt W (some ⟨b, 0, none⟩) n l := by
  subst hn
  have h := slAt_block (rows := gateRows l) (sz := 4) hb (fun r hr => by obtain ⟨s, _, rfl⟩ := List.mem_map.1 hr; rfl)
  rw [show (gateRows l).length = l.length by simp [gateRows]] at h
  exact ⟨rfl, h.congr fun i hi => by simp [gateRows, List.getD, List.getElem?_map, List.getElem?_eq_getElem hi]⟩
theorem legs_one {W : World} {b gb : Nat} {t : TypeId} {f : Leg} {n : Nat} (hb : W.heap[b]? = some (.cells #[.int .i64 f.frm, .int .i64 f.to, .int .i64 f.long.lo, .int .i64 f.long.hi, .slice (some ⟨gb, 0, none⟩) n n] t (0, 0))) (hg : GatesAt W (some ⟨gb, 0, none⟩) n f.gates) (hn : n ≤ maxLen) : LegsAt W (some ⟨b, 0, none⟩) 1 [f] := by
  refine ⟨rfl, fun _ => ⟨b, 0, rfl, fun k x hx => ?_⟩⟩
  obtain rfl : k = 0 := by have := (List.getElem?_eq_some_iff.1 hx).1; simp at this; omega
  obtain rfl : f = x := by simpa using hx
  refine ⟨some ⟨gb, 0, none⟩, n, n, fun j v hv => ?_, Nat.le_refl _, hn, hg⟩
  rw [((Ext.refl W).box hb).1]
  simpa using hv
def PathPost (w : World) (e : Ending) (w' : World) : Prop := ∃ wb lb, e = .returned (.agg #[.slice (some ⟨wb, 0, none⟩) 2 2, .slice (some ⟨lb, 0, none⟩) 1 1]) ∧ LandAt w' (some ⟨wb, 0, none⟩) 2 2 (some ⟨lb, 0, none⟩) 1 1 exLand ∧ lb < w'.heap.size ∧ Ext w w'
set_option maxRecDepth 100000 in
theorem path_any (w : World) : Calls Try.prog 40 #[] w (PathPost w) := by
  have hsp := stretch_any
  have hx0 : Ext w (w.alloc (.cells #[.slice none 0 0, .slice none 0 0] 33)) := (Ext.refl w).alloc _
  have hb0 := heap_alloc_new w (.cells #[.slice none 0 0, .slice none 0 0] 33)
  obtain ⟨W0, hW0⟩ : ∃ W0, w.alloc (.cells #[.slice none 0 0, .slice none 0 0] 33) = W0 := ⟨_, rfl⟩
  rw [hW0] at hx0 hb0
  have Hsp := Lib.hid hsp
  have Hx0 := Lib.hid hx0
  have Hb0 := Lib.hid hb0
  clear hsp hx0 hb0
  have gg1 := trivial
  have gg2 := trivial
  go_enter Try.func40, Try.ntmps40
  go_wp2_with (first
    | (go_at_call 16; (have q := gg1; clear q gg1); refine (Hsp.out _ _ _).mono ?_; rintro e w1 ⟨rfl, hx1⟩)
    | (go_at_call 16; (have q := gg2; clear q gg2); refine (Hsp.out _ _ _).mono ?_; rintro e w2 ⟨rfl, hx2⟩)
    | (go_at_call 16; refine (Hsp.out _ _ _).mono ?_; rintro e w3 ⟨rfl, hx3⟩; have hb3 := hx3.heap (hx2.heap (alloc_heap (hx1.heap Hb0.out) _)); have hw3 := hx3.heap (hx2.heap (heap_alloc_new w1 _)); have hy3 := Hx0.out.trans (((hx1.alloc _).trans hx2).trans hx3))
    | (refine wpList_store_row rfl 33 (.tmp 0) (.tmp 11) rfl w.heap.size #[.slice (some ⟨w1.heap.size, 0, none⟩) 2 2, .slice (some ⟨w3.heap.size + 1, 0, none⟩) 1 1] rfl rfl 33 _ (alloc_heap (alloc_heap hb3 _) _) (by kernel_rfl) (by kernel_rfl) (by kernel_rfl) ?_))
  have hwl := heap_lt hw3
  have hbl := heap_lt hb3
  have hg4 : ((w3.alloc (.cells #[.int .i64 0, .int .i64 0, .int .i64 99, .int .i64 99] 177)).alloc (.cells #[.int .i64 0, .int .i64 1, .int .i64 20, .int .i64 30, .slice (some ⟨w3.heap.size, 0, none⟩) 1 1] 106)).heap[w3.heap.size]? = some (.cells #[.int .i64 0, .int .i64 0, .int .i64 99, .int .i64 99] 177 (0, 0)) := alloc_heap (heap_alloc_new w3 _) _
  have hl4 : ((w3.alloc (.cells #[.int .i64 0, .int .i64 0, .int .i64 99, .int .i64 99] 177)).alloc (.cells #[.int .i64 0, .int .i64 1, .int .i64 20, .int .i64 30, .slice (some ⟨w3.heap.size, 0, none⟩) 1 1] 106)).heap[w3.heap.size + 1]? = some (.cells #[.int .i64 0, .int .i64 1, .int .i64 20, .int .i64 30, .slice (some ⟨w3.heap.size, 0, none⟩) 1 1] 106 (0, 0)) := alloc_at _ _ _ (by simp)
  have hw4 : ((w3.alloc (.cells #[.int .i64 0, .int .i64 0, .int .i64 99, .int .i64 99] 177)).alloc (.cells #[.int .i64 0, .int .i64 1, .int .i64 20, .int .i64 30, .slice (some ⟨w3.heap.size, 0, none⟩) 1 1] 106)).heap[w1.heap.size]? = some (.cells #[.int .i64 0, .int .i64 0, .int .i64 0, .int .i64 0, .int .i64 0, .int .i64 0, .int .i64 0, .int .i64 0, .int .i64 0, .int .i64 30, .int .i64 0, .int .i64 0, .int .i64 5, .int .i64 5, .int .i64 100, .int .i64 0, .int .i64 0, .int .i64 0] 131 (0, 0)) := alloc_heap (alloc_heap hw3 _) _
  have hb4 : ((w3.alloc (.cells #[.int .i64 0, .int .i64 0, .int .i64 99, .int .i64 99] 177)).alloc (.cells #[.int .i64 0, .int .i64 1, .int .i64 20, .int .i64 30, .slice (some ⟨w3.heap.size, 0, none⟩) 1 1] 106)).heap[w.heap.size]? = some (.cells #[.slice none 0 0, .slice none 0 0] 33 (0, 0)) := alloc_heap (alloc_heap hb3 _) _
  have hy4 : Ext w ((w3.alloc (.cells #[.int .i64 0, .int .i64 0, .int .i64 99, .int .i64 99] 177)).alloc (.cells #[.int .i64 0, .int .i64 1, .int .i64 20, .int .i64 30, .slice (some ⟨w3.heap.size, 0, none⟩) 1 1] 106)) := (hy3.alloc _).alloc _
  have hwq : w.heap.size < w1.heap.size := Nat.lt_of_lt_of_le (heap_lt Hb0.out) hx1.size
  generalize ((w3.alloc (.cells #[.int .i64 0, .int .i64 0, .int .i64 99, .int .i64 99] 177)).alloc (.cells #[.int .i64 0, .int .i64 1, .int .i64 20, .int .i64 30, .slice (some ⟨w3.heap.size, 0, none⟩) 1 1] 106)) = W5 at *
  have hb5 := setRow_heap W5 w.heap.size _ #[.slice (some ⟨w1.heap.size, 0, none⟩) 2 2, .slice (some ⟨w3.heap.size + 1, 0, none⟩) 1 1] 33 (0, 0) hb4
  have hl5 := (setRow_other W5 w.heap.size (w3.heap.size + 1) #[.slice (some ⟨w1.heap.size, 0, none⟩) 2 2, .slice (some ⟨w3.heap.size + 1, 0, none⟩) 1 1] (by omega)).trans hl4
  have hg5 := (setRow_other W5 w.heap.size w3.heap.size #[.slice (some ⟨w1.heap.size, 0, none⟩) 2 2, .slice (some ⟨w3.heap.size + 1, 0, none⟩) 1 1] (by omega)).trans hg4
  have hw5 := (setRow_other W5 w.heap.size w1.heap.size #[.slice (some ⟨w1.heap.size, 0, none⟩) 2 2, .slice (some ⟨w3.heap.size + 1, 0, none⟩) 1 1] (by omega)).trans hw4
  have hx5 := below_setRow hy4 (Nat.le_refl _) #[.slice (some ⟨w1.heap.size, 0, none⟩) 2 2, .slice (some ⟨w3.heap.size + 1, 0, none⟩) 1 1]
  refine bodyPost_ret (results_cell_row rfl _ _ w.heap.size 33 #[.slice (some ⟨w1.heap.size, 0, none⟩) 2 2, .slice (some ⟨w3.heap.size + 1, 0, none⟩) 1 1] (0, 0) _ rfl hb5 Try.underlying33 rfl (by kernel_rfl)) rfl ?_
  exact ⟨w1.heap.size, w3.heap.size + 1, rfl, ⟨wells_block exLand.wells rfl hw5, legs_one (f := ⟨0, 1, ⟨20, 30⟩, [⟨⟨0, 0⟩, ⟨99, 99⟩⟩]⟩) hl5 (gates_block [⟨⟨0, 0⟩, ⟨99, 99⟩⟩] rfl hg5) (by decide), by omega, by decide, by omega, by decide, by omega, by omega⟩, heap_lt hl5, hx5⟩
def oDays3 : Obj := .cells (dayRows (List.replicate 3 zday)).flatten.toArray 29
theorem mk48c : ∀ w, (Instr.makeSlice 48 (.int .i64 3) (.int .i64 3)).run Try.prog w = .ok (.slice (some ⟨w.heap.size, 0, none⟩) 3 3) (w.alloc oDays3) := fun _ => by kernel_rfl
theorem days_block {W : World} {b : Nat} {t : TypeId} {n : Nat} (l : List March) (hn : l.length = n) (hb : W.heap[b]? = some (.cells (dayRows l).flatten.toArray t (0, 0))) : DaysAt W (some ⟨b, 0, none⟩) n l := by
  subst hn
  have h := slAt_block (rows := dayRows l) (sz := 8) hb (fun r hr => by obtain ⟨s, _, rfl⟩ := List.mem_map.1 hr; rfl)
  rw [show (dayRows l).length = l.length by simp [dayRows]] at h
  exact ⟨rfl, h.congr fun i hi => by simp [dayRows, List.getD, List.getElem?_map, List.getElem?_eq_getElem hi]⟩
theorem zDays3_at (w : World) : DaysAt (w.alloc oDays3) (some ⟨w.heap.size, 0, none⟩) 3 (List.replicate 3 zday) := days_block _ (by simp) (heap_alloc_new w oDays3)
theorem exBeast_any (w : World) : Calls Try.prog 39 #[] w fun e w' => e = .returned (.tuple #[.agg #[.int .i64 100, .int .i64 10, .int .i64 10, .int .i64 10, .int .i64 0, .int .i64 0, .int .i64 0, .int .i64 0, .int .i64 0, .int .i64 0, .int .i64 0, .int .i64 0, .int .i64 0, .int .i64 0, .int .i64 0, .int .i64 50, .int .i64 50], .agg #[.int .i64 100, .int .i64 100, .int .i64 10, .int .i64 10, .int .i64 0, .int .i64 0, .bool false]]) ∧ Ext w w' := beast_any w
theorem exDays_any (wb lb : Nat) (W : World) (h : LandAt W (some ⟨wb, 0, none⟩) 2 2 (some ⟨lb, 0, none⟩) 1 1 exLand) : Calls Try.prog 13 #[.agg #[.slice (some ⟨wb, 0, none⟩) 2 2, .slice (some ⟨lb, 0, none⟩) 1 1], .int .i64 0, .agg #[.int .i64 10, .int .i64 10]] W fun e w' => e = .returned (.tuple #[.agg #[.int .i64 2, .int .i64 3], .int .i64 0]) ∧ Ext W w' :=
  (wdays_any _ _ _ _ _ _ exLand 0 ⟨10, 10⟩ W h).mono fun e w' ⟨h1, h2⟩ => by
    rw [exA_days.1, exA_days.2] at h1
    exact ⟨h1, h2⟩
theorem exLasts_any (W : World) : Calls Try.prog 14 #[.agg #[.int .i64 100, .int .i64 10, .int .i64 10, .int .i64 10, .int .i64 0, .int .i64 0, .int .i64 0, .int .i64 0, .int .i64 0, .int .i64 0, .int .i64 0, .int .i64 0, .int .i64 0, .int .i64 0, .int .i64 0, .int .i64 50, .int .i64 50], .agg #[.int .i64 100, .int .i64 100, .int .i64 10, .int .i64 10, .int .i64 0, .int .i64 0, .bool false], .agg #[.int .i64 1, .int .i64 0, .int .i64 0, .int .i64 0, .int .i64 0, .int .i64 0, .int .i64 0, .int .i64 0]] W fun e w' => e = .returned (.tuple #[.agg #[.int .i64 10, .int .i64 10], .int .i64 0]) ∧ Ext W w' :=
  (lasts_any exBreed exCamel exHour W).mono fun e w' h => by
    unfold LastsPost at h
    rw [exA_lasts] at h
    exact h
theorem exLives_any (g : Nat) (W : World) (h : DaysAt W (some ⟨g, 0, none⟩) 3 (List.replicate 3 zday)) (hg : g < W.heap.size) : Calls Try.prog 15 #[.agg #[.int .i64 100, .int .i64 10, .int .i64 10, .int .i64 10, .int .i64 0, .int .i64 0, .int .i64 0, .int .i64 0, .int .i64 0, .int .i64 0, .int .i64 0, .int .i64 0, .int .i64 0, .int .i64 0, .int .i64 0, .int .i64 50, .int .i64 50], .agg #[.int .i64 100, .int .i64 100, .int .i64 10, .int .i64 10, .int .i64 0, .int .i64 0, .bool false], .slice (some ⟨g, 0, none⟩) 3 3] W fun e w' => ∃ a cp, e = .returned (.tuple #[.slice a 3 cp, .int .u8 0, .int .i64 0, .int .i64 0]) ∧ 3 ≤ cp ∧ cp ≤ maxLen ∧ CamelsAt w' a 3 [exAfter 1, exAfter 2, exAfter 3] ∧ Ext W w' :=
  (days_any exBreed exCamel (List.replicate 3 zday) (some ⟨g, 0, none⟩) 3 3 ([exAfter 1, exAfter 2, exAfter 3], 0) W h exA_ask exA_lives (by omega) (by decide) (fun x hx => by cases hx; exact hg)).mono fun e w' ⟨a, cp, h1, _, h2, h3, h4, h5⟩ => ⟨a, cp, h1, h2, h3, h4, h5⟩
end Go.Proofs.Ytcoelhpmkhimpaa

namespace Go.Proofs.Ytcoelhpmkhimpaa
open Go.RowKit
set_option linter.unusedVariables false
set_option linter.unusedSimpArgs false
def springL : Land := ⟨[⟨0, 0, 0, ⟨10, 20⟩, 1000, ⟨500, 900⟩, 0⟩], []⟩
set_option maxRecDepth 100000 in
theorem spring_any (w : World) : Calls Try.prog 86 #[] w fun e w' => ∃ b, e = .returned (.agg #[.slice (some ⟨b, 0, none⟩) 1 1, .slice none 0 0]) ∧ LandAt w' (some ⟨b, 0, none⟩) 1 1 none 0 0 springL ∧ Ext w w' := by
  have hsp := rangd_any
  have hx0 : Ext w (w.alloc (.cells #[.slice none 0 0, .slice none 0 0] 33)) := (Ext.refl w).alloc _
  have hb0 := heap_alloc_new w (.cells #[.slice none 0 0, .slice none 0 0] 33)
  obtain ⟨W0, hW0⟩ : ∃ W0, w.alloc (.cells #[.slice none 0 0, .slice none 0 0] 33) = W0 := ⟨_, rfl⟩
  rw [hW0] at hx0 hb0
  have Hsp := Lib.hid hsp
  have Hx0 := Lib.hid hx0
  have Hb0 := Lib.hid hb0
  clear hsp hx0 hb0
  have gg1 := trivial
  go_enter Try.func86, Try.ntmps86
  go_wp2_with (first
    | (go_at_call 37; (have q := gg1; clear q gg1); refine (Hsp.out _ _ _).mono ?_; rintro e w1 ⟨rfl, hx1⟩)
    | (go_at_call 37; refine (Hsp.out _ _ _).mono ?_; rintro e w2 ⟨rfl, hx2⟩; have hy2 := hx1.trans hx2; have hb2 := hy2.heap Hb0.out; have hxw := Hx0.out.trans hy2)
    | (refine wpList_store_row rfl 33 (.tmp 0) (.tmp 5) rfl w.heap.size #[.slice (some ⟨w2.heap.size, 0, none⟩) 1 1, .slice none 0 0] rfl rfl 33 _ (alloc_heap hb2 _) (by kernel_rfl) (by kernel_rfl) (by kernel_rfl) ?_))
  have hwl := heap_lt hb2
  have hw3 := heap_alloc_new w2 (.cells #[.int .i64 0, .int .i64 0, .int .i64 0, .int .i64 10, .int .i64 20, .int .i64 1000, .int .i64 500, .int .i64 900, .int .i64 0] 131)
  have hb3 := alloc_heap hb2 (.cells #[.int .i64 0, .int .i64 0, .int .i64 0, .int .i64 10, .int .i64 20, .int .i64 1000, .int .i64 500, .int .i64 900, .int .i64 0] 131)
  have hx3 := hxw.alloc (.cells #[.int .i64 0, .int .i64 0, .int .i64 0, .int .i64 10, .int .i64 20, .int .i64 1000, .int .i64 500, .int .i64 900, .int .i64 0] 131)
  generalize w2.alloc (.cells #[.int .i64 0, .int .i64 0, .int .i64 0, .int .i64 10, .int .i64 20, .int .i64 1000, .int .i64 500, .int .i64 900, .int .i64 0] 131) = W5 at *
  generalize w2.heap.size = b at *
  have hb5 := setRow_heap W5 w.heap.size _ #[.slice (some ⟨b, 0, none⟩) 1 1, .slice none 0 0] 33 (0, 0) hb3
  have hw5 := (setRow_other W5 w.heap.size b #[.slice (some ⟨b, 0, none⟩) 1 1, .slice none 0 0] (by omega)).trans hw3
  have hx5 := below_setRow hx3 (Nat.le_refl _) #[.slice (some ⟨b, 0, none⟩) 1 1, .slice none 0 0]
  refine bodyPost_ret (results_cell_row rfl _ _ w.heap.size 33 #[.slice (some ⟨b, 0, none⟩) 1 1, .slice none 0 0] (0, 0) _ rfl hb5 Try.underlying33 rfl (by kernel_rfl)) rfl ?_
  exact ⟨b, rfl, ⟨wells_block springL.wells rfl hw5, ⟨rfl, fun h => absurd h (Nat.lt_irrefl 0)⟩, by omega, by decide, by omega, by decide, by omega, by omega⟩, hx5⟩
def wBreed : Breed := ⟨1000, 1000, ⟨0, 0⟩, ⟨0, 0⟩, ⟨0, 0⟩, ⟨0, 0⟩, ⟨0, 0⟩, ⟨0, 0⟩, 0, ⟨0, 0⟩⟩
def wCamel : Camel := ⟨⟨600, 700⟩, ⟨5, 5⟩, ⟨0, 0⟩, false⟩
def wDay : March := ⟨0, 0, ⟨0, 0⟩, ⟨0, 0⟩, ⟨400, 400⟩⟩
def wNext : Camel := ⟨⟨1000, 1000⟩, ⟨5, 5⟩, ⟨0, 0⟩, false⟩
theorem exW_thirst : thirstVal wBreed [wCamel] = (⟨300, 400⟩, 0) := by decide +kernel
theorem exW_after : breedOk wBreed = true ∧ camelOk wBreed wCamel = true ∧ dayOk wDay = true ∧ diesB wBreed wCamel wDay = false ∧ nextOf wBreed wCamel wDay = wNext ∧ safeB wBreed wCamel wDay = true := by decide +kernel
theorem exW_water : waterAt springL 0 [⟨0, 0, 400⟩] 1 = (⟨110, 520⟩, 0, 0) := by decide +kernel
theorem camels_one {W : World} {b : Nat} (h : W.heap[b]? = some (.cells #[.int .i64 600, .int .i64 700, .int .i64 5, .int .i64 5, .int .i64 0, .int .i64 0, .bool false] 27 (0, 0))) : CamelsAt W (some ⟨b, 0, none⟩) 1 [wCamel] := by
  refine ⟨rfl, fun _ => ⟨b, 0, rfl, fun k hk j v hv => ?_⟩⟩
  obtain rfl : k = 0 := by omega
  rw [cell_of_row _ _ _ _ _ _ h, ← hv]
  simp [wCamel, Camel.cells]
theorem draws_one {W : World} {b : Nat} {x : Draw} (h : W.heap[b]? = some (.cells #[.int .i64 x.well, .int .i64 x.day, .int .i64 x.water] 60 (0, 0))) : DrawsAt W (some ⟨b, 0, none⟩) 1 [x] := by
  refine ⟨rfl, fun _ => ⟨b, 0, rfl, fun k hk j v hv => ?_⟩⟩
  obtain rfl : k = 0 := by omega
  rw [cell_of_row _ _ _ _ _ _ h, ← hv]
  simp [Draw.cells]
theorem exThirst_any (b : Nat) (W : World) (h : W.heap[b]? = some (.cells #[.int .i64 600, .int .i64 700, .int .i64 5, .int .i64 5, .int .i64 0, .int .i64 0, .bool false] 27 (0, 0))) : Calls Try.prog 17 #[.agg #[.int .i64 1000, .int .i64 1000, .int .i64 0, .int .i64 0, .int .i64 0, .int .i64 0, .int .i64 0, .int .i64 0, .int .i64 0, .int .i64 0, .int .i64 0, .int .i64 0, .int .i64 0, .int .i64 0, .int .i64 0, .int .i64 0, .int .i64 0], .slice (some ⟨b, 0, none⟩) 1 1] W fun e w' => e = .returned (.tuple #[.agg #[.int .i64 300, .int .i64 400], .int .i64 0]) ∧ Ext W w' := by
  have := thirst_any wBreed (some ⟨b, 0, none⟩) 1 1 [wCamel] W (camels_one h) (by omega) (by decide)
  rw [exW_thirst] at this
  exact this
theorem exDrinks_any (W : World) : Calls Try.prog 38 #[.agg #[.int .i64 1000, .int .i64 1000, .int .i64 0, .int .i64 0, .int .i64 0, .int .i64 0, .int .i64 0, .int .i64 0, .int .i64 0, .int .i64 0, .int .i64 0, .int .i64 0, .int .i64 0, .int .i64 0, .int .i64 0, .int .i64 0, .int .i64 0], .agg #[.int .i64 600, .int .i64 700, .int .i64 5, .int .i64 5, .int .i64 0, .int .i64 0, .bool false], .agg #[.int .i64 0, .int .i64 0, .int .i64 0, .int .i64 0, .int .i64 0, .int .i64 0, .int .i64 400, .int .i64 400]] W fun e w' => e = .returned (.tuple #[.agg #[.int .i64 1000, .int .i64 1000, .int .i64 5, .int .i64 5, .int .i64 0, .int .i64 0, .bool false], .int .u8 0, .int .i64 0]) ∧ Ext W w' := by
  have := after_any wBreed wCamel wDay W exW_after.1 exW_after.2.1 exW_after.2.2.1 exW_after.2.2.2.1
  rw [exW_after.2.2.2.2.1, exW_after.2.2.2.2.2] at this
  exact this
theorem exWell_any (b d : Nat) (W : World) (h : LandAt W (some ⟨b, 0, none⟩) 1 1 none 0 0 springL) (hd : W.heap[d]? = some (.cells #[.int .i64 0, .int .i64 0, .int .i64 400] 60 (0, 0))) : Calls Try.prog 19 #[.agg #[.slice (some ⟨b, 0, none⟩) 1 1, .slice none 0 0], .int .i64 0, .slice (some ⟨d, 0, none⟩) 1 1, .int .i64 1] W fun e w' => e = .returned (.tuple #[.agg #[.int .i64 110, .int .i64 520], .int .i64 0, .int .i64 0]) ∧ Ext W w' := by
  have := water_any (some ⟨b, 0, none⟩) 1 1 none 0 0 springL 0 1 (some ⟨d, 0, none⟩) 1 1 [⟨0, 0, 400⟩] W h (draws_one (x := ⟨0, 0, 400⟩) hd) (by omega) (by decide)
  rw [exW_water] at this
  exact this
theorem join_box {F M : Nat → World → Prop} {X Y : Prop} (h1 : (∀ q W, F q W → M q W) → X) (h2 : (∀ q W, F q W → M q W) → Y) (h : ∀ q W, F q W → M q W) : X ∧ Y := ⟨h1 h, h2 h⟩
set_option maxRecDepth 100000 in
set_option maxHeartbeats 8000000 in
theorem alive03d_any (w : World) : Calls Try.prog 31 #[] w fun e w' => e = .returned (.bool true) ∧ Ext w w' := by
  have hsp := rangd_any
  have hth := exThirst_any
  have hdr := exDrinks_any
  have hsg := spring_any
  have hwe := exWell_any
  have hal := alive02_any
  have Hsp := Lib.hid hsp
  have Hth := Lib.hid hth
  have Hdr := Lib.hid hdr
  have Hsg := Lib.hid hsg
  have Hwe := Lib.hid hwe
  have Hal := Lib.hid hal
  clear hsp hth hdr hsg hwe hal
  have gg1 := trivial
  go_enter Try.func31, Try.ntmps31
  go_upto_region 3 with (first
    | (go_at_call 37; (have q := gg1; clear q gg1); refine (Hsp.out _ _ _).mono ?_; rintro e w1 ⟨rfl, hx1⟩)
    | (go_at_call 37; refine (Hsp.out _ _ _).mono ?_; rintro e w2 ⟨rfl, hx2⟩))
  have hb3 := ((hx1.trans hx2).heap (heap_alloc_new w (.cells #[.int .i64 1000, .int .i64 1000, .int .i64 0, .int .i64 0, .int .i64 0, .int .i64 0, .int .i64 0, .int .i64 0, .int .i64 0, .int .i64 0, .int .i64 0, .int .i64 0, .int .i64 0, .int .i64 0, .int .i64 0, .int .i64 0, .int .i64 0] 25)))
  have hy3 := ((Ext.refl w).alloc (.cells #[.int .i64 1000, .int .i64 1000, .int .i64 0, .int .i64 0, .int .i64 0, .int .i64 0, .int .i64 0, .int .i64 0, .int .i64 0, .int .i64 0, .int .i64 0, .int .i64 0, .int .i64 0, .int .i64 0, .int .i64 0, .int .i64 0, .int .i64 0] 25)).trans (hx1.trans hx2)
  have hb4 := alloc_heap hb3 (.cells #[.int .i64 600, .int .i64 700, .int .i64 5, .int .i64 5, .int .i64 0, .int .i64 0, .bool false] 27)
  have hc4 := heap_alloc_new w2 (.cells #[.int .i64 600, .int .i64 700, .int .i64 5, .int .i64 5, .int .i64 0, .int .i64 0, .bool false] 27)
  have hx4 := hy3.alloc (.cells #[.int .i64 600, .int .i64 700, .int .i64 5, .int .i64 5, .int .i64 0, .int .i64 0, .bool false] 27)
  generalize w2.alloc (.cells #[.int .i64 600, .int .i64 700, .int .i64 5, .int .i64 5, .int .i64 0, .int .i64 0, .bool false] 27) = W4 at *
  generalize w2.heap.size = p2 at *
  generalize w.heap.size = p1 at *
  clear hx1 hx2 hb3 hy3
  have Hb4 := Lib.hid hb4
  have Hc4 := Lib.hid hc4
  have Hx4 := Lib.hid hx4
  clear hb4 hc4 hx4
  go_upto_region 4 with (first
    | (refine wpList_load_row rfl 25 (.tmp 1) rfl p1 rfl 25 _ (0, 0) _ Hb4.out Try.underlying25 rfl (by kernel_rfl) ?_)
    | (refine wpList_load_row rfl 27 (.tmp 2) rfl p2 rfl 27 _ (0, 0) _ Hc4.out Try.underlying27 rfl (by kernel_rfl) ?_)
    | (go_at_call 17; refine (Hth.out _ _ (heap_alloc_new W4 _)).mono ?_; rintro e w5 ⟨rfl, hx5⟩))
  have hx45 := ((Ext.refl W4).alloc (.cells #[.int .i64 600, .int .i64 700, .int .i64 5, .int .i64 5, .int .i64 0, .int .i64 0, .bool false] 27)).trans hx5
  have hx46 := hx45.alloc (.cells #[.int .i64 300, .int .i64 400] 23)
  have hd6 := heap_alloc_new w5 (.cells #[.int .i64 300, .int .i64 400] 23)
  have hb6 := hx46.heap Hb4.out
  have hc6 := hx46.heap Hc4.out
  have hx6 := Hx4.out.trans hx46
  generalize w5.alloc (.cells #[.int .i64 300, .int .i64 400] 23) = W6 at *
  generalize w5.heap.size = p3 at *
  have Hb6 := Lib.hid hb6
  have Hc6 := Lib.hid hc6
  have Hd6 := Lib.hid hd6
  have Hx6 := Lib.hid hx6
  clear hb6 hc6 hd6 hx6
  clear hx5 hx45 hx46 Hb4 Hc4 Hx4 Hth
  refine wp_region_tree (.take [0, 1] (.two 2 (.take [3] (.two 4 (.take [5, 6, 7, 8] (.one 9 (.one 10 (.take [11, 12] .done)))) 9 (.one 4 (.take [5, 6, 7, 8] (.one 10 (.take [11, 12] .done)))))) 9 (.one 2 (.take [3] (.one 4 (.take [5, 6, 7, 8] (.one 10 (.take [11, 12] .done)))))))) (Ext W6) _ (by kernel_rfl) (by kernel_rfl) rfl ((Ext.refl _).drew) ?_
  intro ι _ f hf hs
  have f0 := fun q => ((hf q).box Hb6.out).1
  have f1 := fun q => ((hf q).box Hc6.out).1
  have HS := Lib.hid hs
  clear hf hs
  simp only [treeOf, oneOp, twoOp, opsOf, consOp, List.getElem?_toArray, List.getElem?_cons_succ, List.getElem?_cons_zero]
  refine wpOT_take ?_
  repeat (go_big_quiet_step (fail))
  refine wpQuiet_nil ?_
  clear f0 f1
  have hd0 := (Ext.refl W6).drew
  generalize W6.drew = V6 at *
  refine wpOT_both ?_
  apply join_box (F := fun q V => Ext W6 V ∧ V.heap[q]? = some (.cells #[.int .i64 1000, .int .i64 1000, .int .i64 5, .int .i64 5, .int .i64 0, .int .i64 0, .bool false] 27 (0, 0)))
  · intro g
    have G := Lib.hid g
    clear g
    go_wp2_with (go_at_call 37; refine (Hsp.out _ _ _).mono ?_; rintro e W7 ⟨rfl, hx7⟩)
    have hy5 := hd0.trans hx7
    refine ⟨HS.out _ hy5, ?_⟩
    refine wpOT_take ?_
    repeat (go_big_quiet_step (fail))
    refine wpQuiet_nil ?_
    refine wpOT_two ?_ ?_
    · go_wp2_with (go_at_call 38; refine (Hdr.out _).mono ?_; rintro e W8 ⟨rfl, hx8⟩)
      have hy6 := hy5.trans hx8
      refine ⟨HS.out _ hy6, ?_⟩
      refine wpOT_take ?_
      repeat (go_big_quiet_step (fail))
      refine wpQuiet_nil ?_
      refine wpOT_one ?_
      go_wp2_with fail
      have hy7 := hy6.alloc (.cells #[.int .i64 0, .int .i64 0, .int .i64 0, .int .i64 0, .int .i64 0, .int .i64 0, .bool false] 27)
      refine ⟨HS.out _ hy7, ?_⟩
      have hq0 := hy6.size
      have hq := heap_alloc_new W8 (.cells #[.int .i64 0, .int .i64 0, .int .i64 0, .int .i64 0, .int .i64 0, .int .i64 0, .bool false] 27)
      generalize W8.alloc (.cells #[.int .i64 0, .int .i64 0, .int .i64 0, .int .i64 0, .int .i64 0, .int .i64 0, .bool false] 27) = W9 at *
      generalize W8.heap.size = q5 at *
      clear hx8 hy6
      refine wpOT_one ?_
      go_wp2_with (refine wpList_store_row rfl 27 (.tmp 5) (.tmp 28) rfl q5 #[.int .i64 1000, .int .i64 1000, .int .i64 5, .int .i64 5, .int .i64 0, .int .i64 0, .bool false] rfl rfl 27 _ hq (by kernel_rfl) (by kernel_rfl) (by kernel_rfl) ?_)
      refine ⟨HS.out _ (below_setRow hy7 hq0 _), ?_⟩
      refine wpOT_take ?_
      repeat (go_big_quiet_step (fail))
      refine wpQuiet_nil ?_
      refine wpOT_done ?_
      exact G.out q5 _ ⟨below_setRow hy7 hq0 _, setRow_heap _ _ _ _ _ _ hq⟩
    · go_wp2_with fail
      have hy6 := hy5.alloc (.cells #[.int .i64 0, .int .i64 0, .int .i64 0, .int .i64 0, .int .i64 0, .int .i64 0, .bool false] 27)
      refine ⟨HS.out _ hy6, ?_⟩
      have hq0 := hy5.size
      have hq6 := heap_alloc_new W7 (.cells #[.int .i64 0, .int .i64 0, .int .i64 0, .int .i64 0, .int .i64 0, .int .i64 0, .bool false] 27)
      generalize W7.alloc (.cells #[.int .i64 0, .int .i64 0, .int .i64 0, .int .i64 0, .int .i64 0, .int .i64 0, .bool false] 27) = W8 at *
      generalize W7.heap.size = q5 at *
      refine wpOT_one ?_
      go_wp2_with (go_at_call 38; refine (Hdr.out _).mono ?_; rintro e W9 ⟨rfl, hx8⟩)
      have hy7 := hy6.trans hx8
      have hq := hx8.heap hq6
      refine ⟨HS.out _ hy7, ?_⟩
      refine wpOT_take ?_
      repeat (go_big_quiet_step (fail))
      refine wpQuiet_nil ?_
      clear hx8 hy6 hq6
      refine wpOT_one ?_
      go_wp2_with (refine wpList_store_row rfl 27 (.tmp 5) (.tmp 28) rfl q5 #[.int .i64 1000, .int .i64 1000, .int .i64 5, .int .i64 5, .int .i64 0, .int .i64 0, .bool false] rfl rfl 27 _ hq (by kernel_rfl) (by kernel_rfl) (by kernel_rfl) ?_)
      refine ⟨HS.out _ (below_setRow hy7 hq0 _), ?_⟩
      refine wpOT_take ?_
      repeat (go_big_quiet_step (fail))
      refine wpQuiet_nil ?_
      refine wpOT_done ?_
      exact G.out q5 _ ⟨below_setRow hy7 hq0 _, setRow_heap _ _ _ _ _ _ hq⟩
  · intro g
    have G := Lib.hid g
    clear g
    go_wp2_with fail
    have hy5 := hd0.alloc (.cells #[.int .i64 0, .int .i64 0, .int .i64 0, .int .i64 0, .int .i64 0, .int .i64 0, .bool false] 27)
    refine ⟨HS.out _ hy5, ?_⟩
    have hq0 := hd0.size
    have hq5 := heap_alloc_new V6 (.cells #[.int .i64 0, .int .i64 0, .int .i64 0, .int .i64 0, .int .i64 0, .int .i64 0, .bool false] 27)
    generalize V6.alloc (.cells #[.int .i64 0, .int .i64 0, .int .i64 0, .int .i64 0, .int .i64 0, .int .i64 0, .bool false] 27) = W7 at *
    generalize V6.heap.size = q5 at *
    refine wpOT_one ?_
    go_wp2_with (go_at_call 37; refine (Hsp.out _ _ _).mono ?_; rintro e W8 ⟨rfl, hx7⟩)
    have hy6 := hy5.trans hx7
    refine ⟨HS.out _ hy6, ?_⟩
    refine wpOT_take ?_
    repeat (go_big_quiet_step (fail))
    refine wpQuiet_nil ?_
    refine wpOT_one ?_
    go_wp2_with (go_at_call 38; refine (Hdr.out _).mono ?_; rintro e W9 ⟨rfl, hx8⟩)
    have hy7 := hy6.trans hx8
    have hq := hx8.heap (hx7.heap hq5)
    refine ⟨HS.out _ hy7, ?_⟩
    refine wpOT_take ?_
    repeat (go_big_quiet_step (fail))
    refine wpQuiet_nil ?_
    clear hx7 hx8 hy6 hq5
    refine wpOT_one ?_
    go_wp2_with (refine wpList_store_row rfl 27 (.tmp 5) (.tmp 28) rfl q5 #[.int .i64 1000, .int .i64 1000, .int .i64 5, .int .i64 5, .int .i64 0, .int .i64 0, .bool false] rfl rfl 27 _ hq (by kernel_rfl) (by kernel_rfl) (by kernel_rfl) ?_)
    refine ⟨HS.out _ (below_setRow hy7 hq0 _), ?_⟩
    refine wpOT_take ?_
    repeat (go_big_quiet_step (fail))
    refine wpQuiet_nil ?_
    refine wpOT_done ?_
    exact G.out q5 _ ⟨below_setRow hy7 hq0 _, setRow_heap _ _ _ _ _ _ hq⟩
  rintro q5 W9 ⟨hx69, hq⟩
  clear HS hd0
  have hx9 := Hx6.out.trans hx69
  have hd9 := hx69.heap Hd6.out
  have Hx9 := Lib.hid hx9
  have Hq := Lib.hid hq
  have Hd9 := Lib.hid hd9
  clear hx9 hq hd9
  clear hx69 Hx6 Hb6 Hc6 Hd6
  go_upto_region 6 with (first
    | (go_at_call 86; refine (Hsg.out _).mono ?_; rintro e v1 ⟨sb, rfl, hla, hy1⟩)
    | (go_at_call 19; refine (Hwe.out _ _ _ (hla.ext ((Ext.refl _).alloc _)) (heap_alloc_new v1 _)).mono ?_; rintro e v2 ⟨rfl, hy2⟩))
  have hy3 := (((hy1.alloc (.cells #[.int .i64 0, .int .i64 0, .int .i64 400] 60)).trans hy2).alloc (.cells #[.int .i64 110, .int .i64 520] 23))
  have he9 := heap_alloc_new v2 (.cells #[.int .i64 110, .int .i64 520] 23)
  generalize v2.alloc (.cells #[.int .i64 110, .int .i64 520] 23) = W10 at *
  generalize v2.heap.size = p8 at *
  have hq9 := hy3.heap Hq.out
  have hd9 := hy3.heap Hd9.out
  have hx10 := Hx9.out.trans hy3
  have He9 := Lib.hid he9
  have Hq9 := Lib.hid hq9
  have Hd9 := Lib.hid hd9
  have Hx10 := Lib.hid hx10
  clear he9 hq9 hd9 hx10
  clear hy1 hy2 hy3 hla Hsg Hwe Hdr
  refine wp_region_ext (by kernel_rfl) (by kernel_rfl) (fun f hf hs => ?_)
  have f0 := fun q => ((hf q).box Hd9.out).1
  have f1 := fun q => ((hf q).box Hq9.out).1
  have f2 := fun q => ((hf q).box He9.out).1
  have Hf := Lib.hid hf
  have HS := Lib.hid hs
  clear hf hs
  repeat (go_big_quiet_step ((first | (go_at_call 20; exact Calls.ext_of (Hf.out _) HS.out (Hal.out _)) | (go_at_call 37; exact Calls.ext_of (Hf.out _) HS.out (Hsp.out _ _ _)))))
  refine wpQuiet_nil ?_
  intro W11 hW11
  clear f0 f1 f2
  have hx11 := Hx10.out.trans hW11
  have Hx11 := Lib.hid hx11
  clear hx11
  clear hW11
  go_wp2_with fail
  go_ret
  exact ⟨rfl, Hx11.out⟩
end Go.Proofs.Ytcoelhpmkhimpaa

namespace Go.Proofs.Ytcoelhpmkhimpaa
open Go.RowKit
set_option linter.unusedVariables false
set_option linter.unusedSimpArgs false
theorem within3x (n lo hi : Int) (r : Bool) (hr : inB n lo hi = r) (w : World) : Calls Try.prog 88 #[.int .i64 n, .int .i64 lo, .int .i64 hi] w fun e w' => e = .returned (.bool r) ∧ Ext w w' :=
  (within3_any n lo hi r hr w).mono fun e w' h => ⟨h.1, by rw [h.2]; exact Ext.refl _⟩
/-- the day before which no next draw may be -/
def lastDay (ds : List Draw) : Nat → Int
  | 0 => 0
  | k + 1 => match ds[k]? with | some x => x.day | none => 0
theorem draws3_step {n : Nat} {ds : List Draw} {k : Nat} {x : Draw} (hx : ds[k]? = some x) (h0 : 0 ≤ lastDay ds k) : drawsOk n (lastDay ds k) (ds.drop k) = (inB x.well 0 (n - 1) && (inB x.day 0 100000 && (inB x.water 0 1000000000 && (!decide (x.day < lastDay ds k) && drawsOk n (lastDay ds (k + 1)) (ds.drop (k + 1)))))) := by
  have e : ds.drop k = x :: ds.drop (k + 1) := by
    obtain ⟨h1, rfl⟩ := List.getElem?_eq_some_iff.1 hx
    exact List.drop_eq_getElem_cons h1
  rw [e]
  have hl : lastDay ds (k + 1) = x.day := by simp [lastDay, hx]
  rw [hl]
  have hb : inB x.day (lastDay ds k) 100000 = (inB x.day 0 100000 && !decide (x.day < lastDay ds k)) := by
    unfold inB
    rw [Bool.eq_iff_iff]
    simp
    omega
  rw [show drawsOk n (lastDay ds k) (x :: ds.drop (k + 1)) = (inB x.well 0 (n - 1) && inB x.day (lastDay ds k) 100000 && inB x.water 0 1000000000 && drawsOk n x.day (ds.drop (k + 1))) from rfl, hb]
  generalize drawsOk n x.day (ds.drop (k + 1)) = R
  generalize decide (x.day < lastDay ds k) = D
  cases inB x.well 0 (n - 1) <;> cases inB x.day 0 100000 <;> cases inB x.water 0 1000000000 <;> cases D <;> cases R <;> rfl
set_option maxRecDepth 100000 in
set_option maxHeartbeats 4000000 in
theorem draws3_any (wa : Option Addr) (wn wc : Nat) (la : Option Addr) (ln lc : Nat) (da : Option Addr) (dn dc : Nat) (ds : List Draw) (w : World) (hn : 0 < wn ∧ wn ≤ 1000000000) (hd : DrawsAt w da dn ds) (hdn : dn ≤ 1000000000) : Calls Try.prog 34 #[.agg #[.slice wa wn wc, .slice la ln lc], .slice da dn dc] w fun e w' => e = .returned (.bool (drawsOk wn 0 ds)) ∧ Ext w w' := by
  obtain ⟨hn0, hn1⟩ := hn
  have hdl := hd.1
  have hx0 : Ext w (w.alloc (.cells #[.slice wa wn wc, .slice la ln lc] 33)) := (Ext.refl _).alloc _
  have hb0 := heap_alloc_new w (.cells #[.slice wa wn wc, .slice la ln lc] 33)
  obtain ⟨W0, hW0⟩ : ∃ W0, w.alloc (.cells #[.slice wa wn wc, .slice la ln lc] 33) = W0 := ⟨_, rfl⟩
  rw [hW0] at hx0 hb0
  obtain ⟨G, hG⟩ : ∃ G, drawsOk wn 0 ds = G := ⟨_, rfl⟩
  rw [hG]
  have hst : drawsOk wn (lastDay ds 0) (ds.drop 0) = G := hG
  have Hd := Lib.hid hd
  have Hx0 := Lib.hid hx0
  have Hb0 := Lib.hid hb0
  have Hst := Lib.hid hst
  have Hdl := Lib.hid hdl
  clear hd hx0 hb0 hst hdl
  clear hG
  go_enter Try.func34, Try.ntmps34
  go_upto_region 2 with fail
  go_loopw [5] (fun i V => ∃ k : Nat, i = .int .i64 k ∧ k ≤ dn ∧ Ext W0 V ∧ drawsOk wn (lastDay ds k) (ds.drop k) = G ∧ 0 ≤ lastDay ds k) (fun i _ => dn - (intOf i).toNat)
  case atStart => exact ⟨0, rfl, Nat.zero_le _, Ext.refl _, Hst.out, Int.le_refl _⟩
  case round =>
    obtain ⟨k, rfl, hk, hxv, hg, hl0⟩ := hrel
    by_cases hlt : k < dn
    · have hltB : decide ((k : Int) < (dn : Int)) = true := by simp; omega
      obtain ⟨b, off, x, rfl, hxk, hbs, c0, c1, c2⟩ := (Hd.out.ext (Hx0.out.trans hxv)).get k hlt
      rw [draws3_step hxk hl0] at hg
      have hl1 : lastDay ds (k + 1) = x.day := by simp [lastDay, hxk]
      have hpr : ∀ j, k = j + 1 → wr.cell? ⟨b, off + j * 3 + 1, none⟩ = some (.int .i64 (lastDay ds k)) := fun j hj => by
        subst hj
        obtain ⟨b', off', y, e1, hyk, _, _, d1, _⟩ := (Hd.out.ext (Hx0.out.trans hxv)).get j (by omega)
        cases e1
        rw [d1]
        simp [lastDay, hyk]
      obtain ⟨P, hP⟩ : ∃ P, lastDay ds k = P := ⟨_, rfl⟩
      have hP2 : k = 0 → P = 0 := fun h => by subst h; exact hP.symm
      rw [hP] at hg hl0 hpr
      obtain ⟨xw, xd, xq⟩ := x
      simp only at c0 c1 c2 hg hl1
      clear hP hxk
      go_upto_region 5 with fail
      have hx6 := (Ext.refl wr).alloc (.cells #[.int .i64 xw, .int .i64 xd, .int .i64 xq] 60)
      have b6 := heap_alloc_new wr (.cells #[.int .i64 xw, .int .i64 xd, .int .i64 xq] 60)
      generalize wr.alloc (.cells #[.int .i64 xw, .int .i64 xd, .int .i64 xq] 60) = W6 at *
      generalize wr.heap.size = p6 at *
      have l6 := hxv.trans hx6
      have b0 := l6.heap Hb0.out
      have hpr6 := fun j hj => hx6.cell (hpr j hj)
      clear c0 c1 c2 hpr hx6 hbs hxv
      have hgo0 := hP2
      have B6 := Lib.hid b6
      have B0 := Lib.hid b0
      have Hpr6 := Lib.hid hpr6
      have L6 := Lib.hid l6
      clear b6 b0 hpr6 l6
      clear hgo0
      cases hi1 : inB xw 0 ((wn : Int) - 1) with
      | false =>
        obtain rfl : G = false := by rw [← hg]; simp [hi1]
        clear hg
        go_upto_region 5 with fail
        refine wp_region_ext (by kernel_rfl) (by kernel_rfl) (fun f hf hs => ?_)
        have f0 := fun q => ((hf q).box B6.out).1
        have f1 := fun q => ((hf q).box B0.out).1
        have Hf := Lib.hid hf
        have HS := Lib.hid hs
        clear hf hs
        repeat (go_big_quiet_step ((go_at_call 88; exact Calls.ext_of (Hf.out _) HS.out (within3x _ _ _ _ (by assumption) _))))
        refine wpQuiet_nil ?_
        intro W7 hW7
        clear f0 f1
        have l7 := L6.out.trans hW7
        have l70 := Hx0.out.trans l7
        have L7 := Lib.hid l7
        have L70 := Lib.hid l70
        clear l7 l70
        clear hW7
        go_wp2_with fail
        go_ret
        exact ⟨rfl, L70.out⟩
      | true =>
        cases hi2 : inB xd 0 100000 with
        | false =>
          obtain rfl : G = false := by rw [← hg]; simp [hi1, hi2]
          clear hg
          go_upto_region 5 with fail
          refine wp_region_ext (by kernel_rfl) (by kernel_rfl) (fun f hf hs => ?_)
          have f0 := fun q => ((hf q).box B6.out).1
          have f1 := fun q => ((hf q).box B0.out).1
          have Hf := Lib.hid hf
          have HS := Lib.hid hs
          clear hf hs
          repeat (go_big_quiet_step ((go_at_call 88; exact Calls.ext_of (Hf.out _) HS.out (within3x _ _ _ _ (by assumption) _))))
          refine wpQuiet_nil ?_
          intro W7 hW7
          clear f0 f1
          have l7 := L6.out.trans hW7
          have l70 := Hx0.out.trans l7
          have L7 := Lib.hid l7
          have L70 := Lib.hid l70
          clear l7 l70
          clear hW7
          go_wp2_with fail
          go_ret
          exact ⟨rfl, L70.out⟩
        | true =>
          cases hi3 : inB xq 0 1000000000 with
          | false =>
            obtain rfl : G = false := by rw [← hg]; simp [hi1, hi2, hi3]
            clear hg
            go_upto_region 5 with fail
            refine wp_region_ext (by kernel_rfl) (by kernel_rfl) (fun f hf hs => ?_)
            have f0 := fun q => ((hf q).box B6.out).1
            have f1 := fun q => ((hf q).box B0.out).1
            have Hf := Lib.hid hf
            have HS := Lib.hid hs
            clear hf hs
            repeat (go_big_quiet_step ((go_at_call 88; exact Calls.ext_of (Hf.out _) HS.out (within3x _ _ _ _ (by assumption) _))))
            refine wpQuiet_nil ?_
            intro W7 hW7
            clear f0 f1
            have l7 := L6.out.trans hW7
            have l70 := Hx0.out.trans l7
            have L7 := Lib.hid l7
            have L70 := Lib.hid l70
            clear l7 l70
            clear hW7
            go_wp2_with fail
            go_ret
            exact ⟨rfl, L70.out⟩
          | true =>
            have hgo : ¬xd < P → drawsOk wn (lastDay ds (k + 1)) (ds.drop (k + 1)) = G ∧ 0 ≤ lastDay ds (k + 1) := fun h => by
              rw [hi1, hi2, hi3, decide_eq_false h] at hg
              refine ⟨by simpa using hg, ?_⟩
              rw [hl1]
              omega
            by_cases hk0 : k = 0
            · have hkB : decide (0 < (k : Int)) = false := by simp; omega
              have hP0 : ¬xd < P := by
                have := hP2 hk0
                have := inB_is hi2
                omega
              obtain hgo := hgo hP0
              clear hg hP0
              have Hgo := Lib.hid hgo
              have Hl1 := Lib.hid hl1
              clear hgo hl1
              go_upto_region 5 with fail
              refine wp_region_ext (by kernel_rfl) (by kernel_rfl) (fun f hf hs => ?_)
              have f0 := fun q => ((hf q).box B6.out).1
              have f1 := fun q => ((hf q).box B0.out).1
              have Hf := Lib.hid hf
              have HS := Lib.hid hs
              clear hf hs
              repeat (go_big_quiet_step ((go_at_call 88; exact Calls.ext_of (Hf.out _) HS.out (within3x _ _ _ _ (by assumption) _))))
              refine wpQuiet_nil ?_
              intro W7 hW7
              clear f0 f1
              have l7 := L6.out.trans hW7
              have l70 := Hx0.out.trans l7
              have L7 := Lib.hid l7
              have L70 := Lib.hid l70
              clear l7 l70
              clear hW7
              go_wp2_with fail
              go_roundw
              case rel => exact ⟨k + 1, by go_num, by omega, L7.out, Hgo.out.1, Hgo.out.2⟩
              case measure => simp [intOf]; omega
            · obtain ⟨j, hj⟩ : ∃ j, k = j + 1 := ⟨k - 1, by omega⟩
              have hkB : decide (0 < (k : Int)) = true := by simp; omega
              have hkB2 : decide (0 < k) = true := by simp; omega
              have hjB2 : decide (j < dn) = true := by simp; omega
              have hkj : (k : Int) - 1 = (j : Int) := by omega
              have hjB : decide ((j : Int) < (dn : Int)) = true := by simp; omega
              have hcj := Hpr6.out j hj
              have Hcj := Lib.hid hcj
              have Hj := Lib.hid hj
              have Hl1 := Lib.hid hl1
              clear hcj hj hl1
              by_cases hlp : xd < P
              · have hlpB : decide (xd < P) = true := decide_eq_true hlp
                obtain rfl : G = false := by rw [← hg]; simp [hi1, hi2, hi3, hlp]
                clear hg
                go_upto_region 5 with fail
                refine wp_region_ext (by kernel_rfl) (by kernel_rfl) (fun f hf hs => ?_)
                have f0 := fun q => ((hf q).box B6.out).1
                have f1 := fun q => ((hf q).box B0.out).1
                have f2 := fun q => (hf q).cell Hcj.out
                have Hf := Lib.hid hf
                have HS := Lib.hid hs
                clear hf hs
                repeat (go_big_quiet_step ((go_at_call 88; exact Calls.ext_of (Hf.out _) HS.out (within3x _ _ _ _ (by assumption) _))))
                refine wpQuiet_nil ?_
                intro W7 hW7
                clear f0 f1 f2
                have l7 := L6.out.trans hW7
                have l70 := Hx0.out.trans l7
                have L7 := Lib.hid l7
                have L70 := Lib.hid l70
                clear l7 l70
                clear hW7
                go_wp2_with fail
                go_ret
                exact ⟨rfl, L70.out⟩
              · have hlpB : decide (xd < P) = false := decide_eq_false hlp
                obtain hgo := hgo hlp
                clear hg
                have Hgo := Lib.hid hgo
                clear hgo
                go_upto_region 5 with fail
                refine wp_region_ext (by kernel_rfl) (by kernel_rfl) (fun f hf hs => ?_)
                have f0 := fun q => ((hf q).box B6.out).1
                have f1 := fun q => ((hf q).box B0.out).1
                have f2 := fun q => (hf q).cell Hcj.out
                have Hf := Lib.hid hf
                have HS := Lib.hid hs
                clear hf hs
                repeat (go_big_quiet_step ((go_at_call 88; exact Calls.ext_of (Hf.out _) HS.out (within3x _ _ _ _ (by assumption) _))))
                refine wpQuiet_nil ?_
                intro W7 hW7
                clear f0 f1 f2
                have l7 := L6.out.trans hW7
                have l70 := Hx0.out.trans l7
                have L7 := Lib.hid l7
                have L70 := Lib.hid l70
                clear l7 l70
                clear hW7
                go_wp2_with fail
                go_roundw
                case rel => exact ⟨k + 1, by go_num, by omega, L7.out, Hgo.out.1, Hgo.out.2⟩
                case measure => simp [intOf]; omega
    · have hltB : decide ((k : Int) < (dn : Int)) = false := by simp; omega
      rw [List.drop_of_length_le (by have := Hdl.out; omega)] at hg
      obtain rfl : G = true := hg.symm
      have hxe := Hx0.out.trans hxv
      have Hxe := Lib.hid hxe
      clear hxe
      clear hxv hg
      go_wp2_with fail
      go_ret
      exact ⟨rfl, Hxe.out⟩
end Go.Proofs.Ytcoelhpmkhimpaa

namespace Go.Proofs.Ytcoelhpmkhimpaa
open Go.RowKit
set_option linter.unusedVariables false
set_option linter.unusedSimpArgs false
theorem results_cells2_tmp {P : Program} {fn : Func} {p q t : Tmp} {ty ty' : TypeId} (h : fn.results = #[.cell p ty, .cell q ty', .tmp t]) (tmps : Array Value) (w : World) (g g' : Nat) (T T' : TypeId) (cs cs' : Array Value) (fr fr' : Nat × Nat) (d d' : TypeDesc)
    (hp : tmps.getD p undef = .pointer (some ⟨g, 0, none⟩)) (hg : w.heap[g]? = some (.cells cs T fr))
    (hu : P.underlying ty = some d) (hd : (match d with | .struct _ | .array _ _ => true | _ => false) = true) (hi : (P.info? ty).map (·.size) = some cs.size)
    (hp' : tmps.getD q undef = .pointer (some ⟨g', 0, none⟩)) (hg' : w.heap[g']? = some (.cells cs' T' fr'))
    (hu' : P.underlying ty' = some d') (hd' : (match d' with | .struct _ | .array _ _ => true | _ => false) = true) (hi' : (P.info? ty').map (·.size) = some cs'.size) :
    (results fn tmps).run P w = .ok (.tuple #[.agg cs, .agg cs', tmps.getD t undef]) w := by
  have h1 : tmps[p]?.getD undef = .pointer (some ⟨g, 0, none⟩) := by simpa using hp
  have h2 : tmps[q]?.getD undef = .pointer (some ⟨g', 0, none⟩) := by simpa using hp'
  simp [results, h, h1, h2, asAddr, run_loadVar_row w g T ty cs fr d hg hu hd hi, run_loadVar_row w g' T' ty' cs' fr' d' hg' hu' hd' hi']
set_option maxRecDepth 100000 in
set_option maxHeartbeats 8000000 in
theorem costs_any (s : Breed) (k : Bool) (m : March) (w : World) (hb : breedOk s = true) (hm : dayOk m = true) :
    Calls Try.prog 36 #[s.val, .bool k, m.val] w fun e w' => e = .returned (.tuple #[.agg #[.int .i64 (waterOf s k m).lo, .int .i64 (waterOf s k m).hi], .agg #[.int .i64 (fatOf s m).lo, .int .i64 (fatOf s m).hi], .int .i64 0]) ∧ Ext w w' := by
  have hcb := fun W => checkBreed_any s W
  have hbe : breedErr s = 0 := by unfold breedErr; rw [hb]; rfl
  rw [hbe] at hcb
  have hcd := fun (W : World) (b : Nat) (h : W.heap[b]? = some (.cells m.cells.toArray 29 (0, 0))) => checkDays_any (some ⟨b, 0, none⟩) 1 1 [m] W (days_built (m := m) (n := 1) (by simpa [repCells] using h)) (by omega)
  have hde : daysErr [m] = 0 := by unfold daysErr; simp [hm]
  simp only [hde] at hcd
  have hco := fun W => cost_any s k m W (breedIs hb) (dayIs hm)
  obtain ⟨a0, h0⟩ : ∃ a0, (waterOf s k m).lo = a0 := ⟨_, rfl⟩
  obtain ⟨a1, h1⟩ : ∃ a1, (waterOf s k m).hi = a1 := ⟨_, rfl⟩
  obtain ⟨b0, h2⟩ : ∃ b0, (fatOf s m).lo = b0 := ⟨_, rfl⟩
  obtain ⟨b1, h3⟩ : ∃ b1, (fatOf s m).hi = b1 := ⟨_, rfl⟩
  rw [h0, h1, h2, h3] at hco ⊢
  clear h0 h1 h2 h3 hb hm hbe hde
  obtain ⟨fu, fe, ⟨r0, r1⟩, ⟨q0, q1⟩, ⟨t0, t1⟩, ⟨n0, n1⟩, ⟨u0, u1⟩, ⟨m0, m1⟩, hz, ⟨s0, s1⟩⟩ := s
  obtain ⟨hh, ld, ⟨e0, e1⟩, ⟨g0, g1⟩, ⟨d0, d1⟩⟩ := m
  unfold Breed.val March.val
  unfold Breed.val at hcb
  unfold Breed.val March.val at hco
  unfold March.cells at hcd
  simp only at hcb hco hcd ⊢
  obtain ⟨W0, hW0⟩ : ∃ W0, (((w.alloc (.cells #[.int .i64 fu, .int .i64 fe, .int .i64 r0, .int .i64 r1, .int .i64 q0, .int .i64 q1, .int .i64 t0, .int .i64 t1, .int .i64 n0, .int .i64 n1, .int .i64 u0, .int .i64 u1, .int .i64 m0, .int .i64 m1, .int .i64 hz, .int .i64 s0, .int .i64 s1] 25)).alloc (.cells #[.int .i64 hh, .int .i64 ld, .int .i64 e0, .int .i64 e1, .int .i64 g0, .int .i64 g1, .int .i64 d0, .int .i64 d1] 29)).alloc (.cells #[.int .i64 0, .int .i64 0] 23)).alloc (.cells #[.int .i64 0, .int .i64 0] 23) = W0 := ⟨_, rfl⟩
  have hx0 : Ext w W0 := by rw [← hW0]; exact ((((Ext.refl w).alloc _).alloc _).alloc _).alloc _
  have hb0 : W0.heap[w.heap.size]? = some (.cells #[.int .i64 fu, .int .i64 fe, .int .i64 r0, .int .i64 r1, .int .i64 q0, .int .i64 q1, .int .i64 t0, .int .i64 t1, .int .i64 n0, .int .i64 n1, .int .i64 u0, .int .i64 u1, .int .i64 m0, .int .i64 m1, .int .i64 hz, .int .i64 s0, .int .i64 s1] 25 (0, 0)) := by rw [← hW0]; exact alloc_heap (alloc_heap (alloc_heap (heap_alloc_new w _) _) _) _
  have hm0 : W0.heap[w.heap.size + 1]? = some (.cells #[.int .i64 hh, .int .i64 ld, .int .i64 e0, .int .i64 e1, .int .i64 g0, .int .i64 g1, .int .i64 d0, .int .i64 d1] 29 (0, 0)) := by rw [← hW0]; exact alloc_heap (alloc_heap (alloc_at _ _ _ (by simp)) _) _
  have hr0 : W0.heap[w.heap.size + 1 + 1]? = some (.cells #[.int .i64 0, .int .i64 0] 23 (0, 0)) := by rw [← hW0]; exact alloc_heap (alloc_at _ _ _ (by simp)) _
  have hs0 : W0.heap[w.heap.size + 1 + 1 + 1]? = some (.cells #[.int .i64 0, .int .i64 0] 23 (0, 0)) := by rw [← hW0]; exact alloc_at _ _ _ (by simp)
  have Hcb := Lib.hid hcb
  have Hco := Lib.hid hco
  have Hcd := Lib.hid hcd
  have Hx0 := Lib.hid hx0
  have Hb0 := Lib.hid hb0
  have Hm0 := Lib.hid hm0
  have Hr0 := Lib.hid hr0
  have Hs0 := Lib.hid hs0
  clear hcb hco hcd hx0 hb0 hm0 hr0 hs0
  go_enter Try.func36, Try.ntmps36
  go_upto_region 8 with (first
    | (have q := hx2; clear q; first
      | (refine wpList_load_row rfl 25 (.tmp 3) rfl w.heap.size rfl 25 _ (0, 0) _ Hb2.out Try.underlying25 rfl (by kernel_rfl) ?_)
      | (refine wpList_load_row rfl 29 (.tmp 5) rfl (w.heap.size + 1) rfl 29 _ (0, 0) _ Hm2.out Try.underlying29 rfl (by kernel_rfl) ?_)
      | (go_at_call 90; refine (Hco.out _).mono ?_; rintro e v3 ⟨rfl, hx3⟩))
    | (refine wpList_load_row rfl 25 (.tmp 3) rfl w.heap.size rfl 25 _ (0, 0) _ Hb0.out Try.underlying25 rfl (by kernel_rfl) ?_)
    | (go_at_call 54; refine (Hcb.out _).mono ?_; rintro e v1 ⟨rfl, hx1⟩; have hm1 := hx1.heap Hm0.out; have Hm1 := Lib.hid hm1; clear hm1)
    | (refine wpList_load_row rfl 29 (.tmp 5) rfl (w.heap.size + 1) rfl 29 _ (0, 0) _ Hm1.out Try.underlying29 rfl (by kernel_rfl) ?_)
    | (go_at_call 89; refine (Hcd.out _ _ (heap_alloc_new v1 _)).mono ?_; rintro e v2 ⟨rfl, hx2⟩; have hx02 := (hx1.alloc _).trans hx2; have Hb2 := Lib.hid (hx02.heap Hb0.out); have Hm2 := Lib.hid (hx02.heap Hm0.out); have Hx02 := Lib.hid hx02; clear hx02))
  have hx4 : Ext W0 (v3.alloc (.cells #[.int .i64 a0, .int .i64 a1, .int .i64 b0, .int .i64 b1] 172)) := (Hx02.out.trans hx3).alloc _
  have b11 := heap_alloc_new v3 (.cells #[.int .i64 a0, .int .i64 a1, .int .i64 b0, .int .i64 b1] 172)
  have hpl : W0.heap.size ≤ v3.heap.size := (Hx02.out.trans hx3).size
  generalize v3.alloc (.cells #[.int .i64 a0, .int .i64 a1, .int .i64 b0, .int .i64 b1] 172) = W4 at *
  generalize v3.heap.size = p11 at *
  have hl1 := heap_lt Hr0.out
  have hl2 := heap_lt Hs0.out
  have hr4 := (hx4.drew).heap Hr0.out
  have hs4 := (hx4.drew).heap Hs0.out
  have hn11 : ¬(fun b => b = w.heap.size + 1 + 1 ∨ b = w.heap.size + 1 + 1 + 1) p11 := fun e => by
    simp only at e
    omega
  have hr5 := setRow_heap W4.drew (w.heap.size + 1 + 1) _ #[.int .i64 a0, .int .i64 a1] 23 (0, 0) hr4
  have hs5 := (setRow_other W4.drew (w.heap.size + 1 + 1) (w.heap.size + 1 + 1 + 1) #[.int .i64 a0, .int .i64 a1] (by omega)).trans hs4
  have hk5 : But (fun b => b = w.heap.size + 1 + 1 ∨ b = w.heap.size + 1 + 1 + 1) W4 (W4.drew.setRow (w.heap.size + 1 + 1) #[.int .i64 a0, .int .i64 a1]) := (((Ext.refl W4).drew).but _).trans (but_setRow _ _ _ (.inl rfl))
  have hx5 : Ext w (W4.drew.setRow (w.heap.size + 1 + 1) #[.int .i64 a0, .int .i64 a1]) := below_setRow (Hx0.out.trans hx4.drew) (by omega) _
  have Hx4 := Lib.hid hx4
  have B11 := Lib.hid b11
  have Hr4 := Lib.hid hr4
  have Hs4 := Lib.hid hs4
  have Hn11 := Lib.hid hn11
  have Hr5 := Lib.hid hr5
  have Hs5 := Lib.hid hs5
  have Hk5 := Lib.hid hk5
  have Hx5 := Lib.hid hx5
  clear hx4 b11 hr4 hs4 hn11 hr5 hs5 hk5 hx5
  clear hx1 hx2 hx3 hl1 hl2 hpl Hb2 Hm2 Hx02 Hm1 Hb0 Hm0 Hr0 Hs0 Hcd Hcb Hco hW0
  refine wp_region_tree (.take [0, 1, 2, 3] (.one 4 (.one 5 (.take [6] .done)))) (But (fun b => b = w.heap.size + 1 + 1 ∨ b = w.heap.size + 1 + 1 + 1) W4) _ (by kernel_rfl) (by kernel_rfl) rfl (((Ext.refl W4).drew).but _) ?_
  intro ι _ f hf hs
  have f0 := fun q => ((Ext.refl _).box ((hf q).block _ _ B11.out Hn11.out)).1
  have HS := Lib.hid hs
  clear hf hs
  simp only [treeOf, oneOp, twoOp, opsOf, consOp, List.getElem?_toArray, List.getElem?_cons_succ, List.getElem?_cons_zero]
  refine wpOT_take ?_
  repeat (go_big_quiet_step (fail))
  refine wpQuiet_nil ?_
  clear f0
  refine wpOT_one ?_
  go_wp2_with (refine wpList_store_row rfl 23 (.tmp 6) (.tmp 32) rfl (w.heap.size + 1 + 1) #[.int .i64 a0, .int .i64 a1] rfl rfl 23 _ Hr4.out (by kernel_rfl) (by kernel_rfl) (by kernel_rfl) ?_)
  refine ⟨HS.out _ Hk5.out, ?_⟩
  have hr6 := (setRow_other _ (w.heap.size + 1 + 1 + 1) (w.heap.size + 1 + 1) #[.int .i64 b0, .int .i64 b1] (by omega)).trans Hr5.out
  have hs6 := setRow_heap _ (w.heap.size + 1 + 1 + 1) _ #[.int .i64 b0, .int .i64 b1] 23 (0, 0) Hs5.out
  have hk6 := Hk5.out.trans (but_setRow _ (w.heap.size + 1 + 1 + 1) #[.int .i64 b0, .int .i64 b1] (.inr rfl))
  have hx6 := below_setRow Hx5.out (show w.heap.size ≤ w.heap.size + 1 + 1 + 1 by omega) #[.int .i64 b0, .int .i64 b1]
  have Hr6 := Lib.hid hr6
  have Hs6 := Lib.hid hs6
  have Hk6 := Lib.hid hk6
  have Hx6 := Lib.hid hx6
  clear hr6 hs6 hk6 hx6
  refine wpOT_one ?_
  go_wp2_with (refine wpList_store_row rfl 23 (.tmp 7) (.tmp 34) rfl (w.heap.size + 1 + 1 + 1) #[.int .i64 b0, .int .i64 b1] rfl rfl 23 _ Hs5.out (by kernel_rfl) (by kernel_rfl) (by kernel_rfl) ?_)
  refine ⟨HS.out _ Hk6.out, ?_⟩
  refine wpOT_take ?_
  repeat (go_big_quiet_step (fail))
  refine wpQuiet_nil ?_
  refine wpOT_done ?_
  clear HS
  go_wp2_with fail
  refine bodyPost_ret (results_cells2_tmp (P := Try.prog) (fn := Try.f36) rfl _ _ (w.heap.size + 1 + 1) (w.heap.size + 1 + 1 + 1) 23 23 #[.int .i64 a0, .int .i64 a1] #[.int .i64 b0, .int .i64 b1] (0, 0) (0, 0) _ _ rfl Hr6.out Try.underlying23 rfl (by kernel_rfl) rfl Hs6.out Try.underlying23 rfl (by kernel_rfl)) rfl ?_
  exact ⟨rfl, Hx6.out⟩
end Go.Proofs.Ytcoelhpmkhimpaa
