/- slices.Grow and slices.Concat, of halves. -/
import Derived.Test.YtacdndehlkaaeaaVGr2
import Derived.Lib.AppendZeros
namespace Go.Proofs.Ytacdndehlkaaeaa
open Go.RowKit
set_option linter.unusedVariables false
set_option linter.unusedSimpArgs false

theorem info47 : (Try.prog.info? 47).map (fun i => (i.zero, i.size, i.bytes)) = some (some (.agg #[.int .i64 0, .int .i64 0, .int .i64 0]), 3, 24) := by kernel_rfl
theorem elem22 : Elem Try.prog 22 47 3 := by
  obtain ⟨i, h1, h2, h3, h4⟩ := info_parts info47
  exact ⟨Try.underlying22, ⟨i, _, _, h1, h2, h3, h4, rfl, by decide⟩, by decide⟩
theorem Owns.empty' {w : World} {base b cap : Nat} {e : TypeId} {sz : Nat} {cur : Array Value} (hb : w.heap[b]? = some (.cells cur e (0, 0))) (hB : base ≤ b) (hc : cur.size = cap * sz) (hm : cap ≤ maxLen) : Owns w base e sz (.slice (some ⟨b, 0, none⟩) 0 cap) [] :=
  ⟨⟨by simp, .inr ⟨b, cap, cur, rfl, hB, hb, Nat.zero_le _, hm, hc, by simp⟩⟩, by simp⟩
def GrowPost (w : World) (e : Ending) (w' : World) : Prop := ∃ b cap, e = .returned (.slice (some ⟨b, 0, none⟩) 0 cap) ∧ Ext w w' ∧ Owns w' w.heap.size 47 3 (.slice (some ⟨b, 0, none⟩) 0 cap) []
set_option maxRecDepth 100000 in
theorem grow_any (n : Nat) (w : World) (h1 : 1 ≤ n) (hn : n ≤ 100000) : Calls Try.prog 106 #[.slice none 0 0, .int .i64 n] w (GrowPost w) := by
  obtain ⟨i, hi, hz, hs, hb⟩ := info_parts info47
  have happ := Lib.run_append_nil_zeros (P := Try.prog) w 22 3 22 47 i (.agg #[.int .i64 0, .int .i64 0, .int .i64 0]) .i64 .i64 Try.underlying22 Try.underlying3 hi hz n (by omega) (by omega) (by omega) (by rw [hb]; omega)
  have hge : n ≤ grownCap w n 0 47 := grownCap_ge w _ 0 47
  have hle : grownCap w n 0 47 ≤ maxLen := grownCap_le_maxLen w _ 0 47 (by unfold maxLen; omega)
  generalize grownCap w n 0 47 = cap at *
  obtain ⟨Z, hZ⟩ : ∃ Z, (Builtin.zeroCells (Value.agg #[.int .i64 0, .int .i64 0, .int .i64 0]).cells n ++ Builtin.zeroCells (Value.agg #[.int .i64 0, .int .i64 0, .int .i64 0]).cells (cap - n)) = Z := ⟨_, rfl⟩
  have hZs : Z.size = cap * 3 := by
    rw [← hZ]
    simp [size_zeroCells, Value.cells]
    omega
  rw [hZ] at happ
  have hnB : decide ((n : Int) < 0) = false := decide_eq_false (by omega)
  have hnB2 : decide (0 < (n : Int)) = true := decide_eq_true (by omega)
  have hcap : (cap : Int) ≤ 9223372036854775807 := by unfold maxLen at hle; omega
  have Hle := Lib.hid hle
  have HZs := Lib.hid hZs
  clear hle hZs
  clear hZ
  go_enter Try.func106, Try.ntmps106
  go_wp2_with (at_builtin; refine Lib.wpList_append_run _ rfl _ _ _ _ rfl _ _ rfl rfl _ _ happ ?_)
  go_ret
  exact ⟨_, _, rfl, ((Ext.refl w).drew).alloc _, Owns.empty' (heap_alloc_new w.drew _) (Nat.le_refl _) HZs.out Hle.out⟩
theorem grow_zero (w : World) : Calls Try.prog 106 #[.slice none 0 0, .int .i64 0] w fun e w' => e = .returned (.slice none 0 0) ∧ w' = w := by
  go_enter Try.func106, Try.ntmps106
  go_wp2_with fail
  go_ret
  exact ⟨rfl, rfl⟩
/-- a slice of lists of halves -/
def ListsAt (w : World) (a : Option Addr) (n : Nat) (ls : List (List Half)) : Prop :=
  ls.length = n ∧ (0 < n → ∃ b off, a = some ⟨b, off, none⟩ ∧ ∀ k r, ls[k]? = some r → ∃ ka kn kc, Cells w b (off + k * 1) [.slice ka kn kc] ∧ kn ≤ kc ∧ kc ≤ maxLen ∧ HalvesAt w ka kn r)
theorem ListsAt.ext {w w' : World} {a : Option Addr} {n : Nat} {l : List (List Half)} (h : ListsAt w a n l) (e : Ext w w') : ListsAt w' a n l :=
  ⟨h.1, fun hn => let ⟨b, off, ha, hc⟩ := h.2 hn; ⟨b, off, ha, fun k f hf => let ⟨ka, kn, kc, h1, h2, h3, h4⟩ := hc k f hf; ⟨ka, kn, kc, h1.ext e, h2, h3, h4.ext e⟩⟩⟩
theorem ListsAt.get {w : World} {a : Option Addr} {n : Nat} {l : List (List Half)} (h : ListsAt w a n l) (k : Nat) (hk : k < n) :
    ∃ b off x ka kn kc, a = some ⟨b, off, none⟩ ∧ l[k]? = some x ∧ b < w.heap.size ∧ w.cell? ⟨b, off + k, none⟩ = some (.slice ka kn kc) ∧ kn ≤ kc ∧ kc ≤ maxLen ∧ HalvesAt w ka kn x := by
  obtain ⟨hl, h⟩ := h
  obtain ⟨b, off, ha, hc⟩ := h (by omega)
  obtain ⟨x, hx⟩ : ∃ x, l[k]? = some x := ⟨l[k], by simp⟩
  obtain ⟨ka, kn, kc, h1, h2, h3, h4⟩ := hc k x hx
  have h0 := h1 0 _ rfl
  simp only [Nat.mul_one, Nat.add_zero] at h0
  exact ⟨b, off, x, ka, kn, kc, ha, hx, block_lt_of_cell h0, h0, h2, h3, h4⟩
theorem flat_take_succ {ls : List (List Half)} {k : Nat} {x : List Half} (h : ls[k]? = some x) : (ls.take (k + 1)).flatten = (ls.take k).flatten ++ x := by
  rw [List.take_add_one, h]
  simp
theorem flat_take_le (ls : List (List Half)) (k : Nat) : (ls.take k).flatten.length ≤ ls.flatten.length := by
  have : ls.flatten = (ls.take k).flatten ++ (ls.drop k).flatten := by rw [← List.flatten_append, List.take_append_drop]
  rw [this]
  simp
theorem halfRows_len (l : List Half) : (halfRows l).length = l.length := List.length_map ..
/-- the first k lists, joined -/
def flatTo (ls : List (List Half)) (k : Nat) : List Half := (ls.take k).flatten
def lenTo (ls : List (List Half)) (k : Nat) : Nat := (ls.take k).flatten.length
def ConcatPost (l : List Half) (w : World) (e : Ending) (w' : World) : Prop := ∃ a cap, e = .returned (.slice a l.length cap) ∧ Ext w w' ∧ HalvesAt w' a l.length l ∧ l.length ≤ cap ∧ cap ≤ maxLen ∧ From w.heap.size a
set_option maxRecDepth 100000 in
set_option maxHeartbeats 4000000 in
theorem concat_any (a : Option Addr) (n cap : Nat) (ls : List (List Half)) (w : World) (hl : ListsAt w a n ls) (hn : n ≤ 1000) (hN : ls.flatten.length ≤ 1000) : Calls Try.prog 79 #[.slice a n cap] w (ConcatPost ls.flatten w) := by
  have hll := hl.1
  have Hl := Lib.hid hl
  have Hll := Lib.hid hll
  have HN := Lib.hid hN
  clear hl hll hN
  go_enter Try.func79, Try.ntmps79
  go_upto_region 3 with fail
  go_loopw [3, 11] (fun s i wr => ∃ k : Nat, k ≤ n ∧ i = .int .i64 k ∧ s = .int .i64 ((lenTo ls k : Nat) : Int) ∧ wr = w) (fun _ i _ => n - (intOf i).toNat)
  case atStart => exact ⟨0, Nat.zero_le _, rfl, rfl, rfl⟩
  case round =>
    obtain ⟨k, hk, rfl, rfl, rfl⟩ := hrel
    by_cases hlt : k < n
    · have hltB : decide ((k : Int) < (n : Int)) = true := by simp; omega
      obtain ⟨lb, lo, x, ka, kn, kc, rfl, hx, hlb, c0, h1, h2, h3⟩ := Hl.out.get k hlt
      have hst : lenTo ls (k + 1) = lenTo ls k + kn := by unfold lenTo; rw [flat_take_succ hx, List.length_append, h3.1]
      have hle : lenTo ls (k + 1) ≤ ls.flatten.length := flat_take_le ls (k + 1)
      have hN := HN.out
      generalize lenTo ls k = S at *
      have hbd : S + kn ≤ 1000 := by omega
      have hsB : decide ((S : Int) + (kn : Int) < 0) = false := decide_eq_false (by omega)
      unfold maxLen at h2
      have Hst := Lib.hid hst
      clear hst
      clear hx h3
      go_wp2_with fail
      go_roundw
      case rel => exact ⟨k + 1, by omega, by go_num, by rw [Hst.out]; go_num, trivial⟩
      case measure => simp [intOf]; omega
    · have hltB : decide ((k : Int) < (n : Int)) = false := by simp; omega
      obtain rfl : n = k := by omega
      have hall : lenTo ls n = ls.flatten.length := by unfold lenTo; rw [List.take_of_length_le (by have := Hll.out; omega)]
      obtain ⟨N, hNN⟩ : ∃ N, lenTo ls n = N := ⟨_, rfl⟩
      rw [hNN] at hall ⊢
      obtain ⟨w0, rfl⟩ : ∃ w0 : World, w0 = wr := ⟨_, rfl⟩
      have hN := HN.out
      have key : Calls Try.prog 106 #[.slice none 0 0, .int .i64 (N : Int)] w0 fun e w' => ∃ v, e = .returned v ∧ Ext w0 w' ∧ Owns w' w0.heap.size 47 3 v [] := by
        by_cases hz : N = 0
        · rw [hz]
          exact (grow_zero w0).mono fun e w' ⟨h1, h2⟩ => by subst h2; exact ⟨_, h1, Ext.refl _, Owns.nil _ _ _ _⟩
        · exact (grow_any _ w0 (by omega) (by omega)).mono fun e w' ⟨b, c, h1, h2, h3⟩ => ⟨_, h1, h2, h3⟩
      have Key := Lib.hid key
      clear key
      clear hall hN hNN
      go_upto_region 11 with (go_at_call 106; refine Key.out.mono ?_; rintro e w1 ⟨v1, rfl, hx1, ho1⟩)
      clear Key
      obtain ⟨va, vc, hv1, _, _, _, _⟩ := ho1.slAt
      rw [List.length_nil] at hv1
      subst hv1
      have Hx1 := Lib.hid hx1
      have Ho1 := Lib.hid ho1
      clear hx1 ho1
      go_loopw [6, 27] (fun v i wr => ∃ k : Nat, k ≤ n ∧ i = .int .i64 k ∧ Ext w0 wr ∧ Owns wr w0.heap.size 47 3 v (halfRows (flatTo ls k))) (fun _ i _ => n - (intOf i).toNat)
      case atStart => exact ⟨0, Nat.zero_le _, rfl, Hx1.out, Ho1.out⟩
      case round =>
        clear Hx1 Ho1
        obtain ⟨k, hk, rfl, hx, how⟩ := hrel
        obtain ⟨va, vc, hv, _, hvc, hvm, _⟩ := how.slAt
        subst hv
        rw [halfRows_len] at how hvc ⊢
        by_cases hlt : k < n
        · have hltB : decide ((k : Int) < (n : Int)) = true := by simp; omega
          obtain ⟨lb, lo, x, ka, kn, kc, rfl, hxk, hlb, c0, h1, h2, h3⟩ := (Hl.out.ext hx).get k hlt
          have hft : flatTo ls (k + 1) = flatTo ls k ++ x := flat_take_succ hxk
          have hst : (flatTo ls (k + 1)).length = (flatTo ls k).length + kn := by rw [hft, List.length_append, h3.1]
          have hle : (flatTo ls (k + 1)).length ≤ ls.flatten.length := flat_take_le ls (k + 1)
          have hsrc := h3.src
          have hrl : (halfRows x).length = kn := by rw [halfRows_len]; exact h3.1
          have hnx : halfRows (flatTo ls (k + 1)) = halfRows (flatTo ls k) ++ halfRows x := by rw [hft, halfRows_append]
          have hsz := hx.size
          have hpl := halfRows_len (flatTo ls k)
          unfold maxLen at h2
          have Hsrc := Lib.hid hsrc
          have Hrl := Lib.hid hrl
          have Hnx := Lib.hid hnx
          have How := Lib.hid how
          have Hx := Lib.hid hx
          have Hpl := Lib.hid hpl
          have Hst := Lib.hid hst
          clear hsrc hrl hnx how hx hpl hst
          clear hxk h3 hft
          go_wp2_with (at_builtin; refine wpList_app elem22 _ rfl (.tmp 31) (.tmp 32) rfl w0.heap.size _ (halfRows (flatTo ls k)) rfl How.out ka kn kc (halfRows x) rfl Hrl.out Hsrc.out (halfRows_row _) ?_ ?_ ?_)
          · rw [Hpl.out]
            have := HN.out
            have := Hst.out
            omega
          · exact hsz
          · intro v6 w6 ho6 hg6 _
            rw [← Hnx.out] at ho6
            have hx6 := Hx.out.app How.out hg6
            obtain ⟨va6, vc6, hv6, _, _, _, _⟩ := ho6.slAt
            rw [halfRows_len] at hv6
            subst hv6
            have Ho6 := Lib.hid ho6
            have Hx6 := Lib.hid hx6
            clear ho6 hx6
            clear hg6
            go_wp2_with fail
            go_roundw
            case rel => exact ⟨k + 1, by omega, by go_num, Hx6.out, Ho6.out⟩
            case measure => simp [intOf]; omega
        · have hltB : decide ((k : Int) < (n : Int)) = false := by simp; omega
          obtain rfl : n = k := by omega
          have hall : flatTo ls n = ls.flatten := by unfold flatTo; rw [List.take_of_length_le (by have := Hll.out; omega)]
          obtain ⟨wa, wc, e, hf, _, _, hh⟩ := halves_of_owns how
          cases e
          have Hall := Lib.hid hall
          have Hx := Lib.hid hx
          have Hh := Lib.hid hh
          have Hf := Lib.hid hf
          clear hall hx hh hf
          go_wp2_with fail
          go_ret
          rw [← Hall.out]
          exact ⟨_, _, rfl, Hx.out, Hh.out, hvc, hvm, Hf.out⟩
end Go.Proofs.Ytacdndehlkaaeaa
