/- Contract of the reference: Best. -/
import Derived.Test.YtkbhmajcddmhnaaVGr5
import Derived.Test.YtkbhmajcddmhnaaVGone
namespace Go.Proofs.Ytkbhmajcddmhnaa
open Go.RowKit
set_option linter.unusedVariables false
set_option linter.unusedSimpArgs false

/-- a block of numbers of its own, all known -/
def ArrAt (w : World) (b : Nat) (l : List Int) : Prop := w.heap[b]? = some (.cells ((l.map (Value.int .i64)).toArray) 3 (0, 0))
theorem ArrAt.ints {w : World} {b : Nat} {l : List Int} (h : ArrAt w b l) : IntsAt .i64 w (some ⟨b, 0, none⟩) l.length l :=
  ⟨rfl, fun _ => ⟨b, 0, rfl, fun k hk j v hj => by
    cases j with
    | succ j => simp at hj
    | zero =>
      rw [cell_of_row w b _ _ 3 (0, 0) h]
      simp at hj ⊢
      rw [← hj]
      simp [List.getD, hk]⟩⟩
theorem ArrAt.set {w : World} {b : Nat} {l : List Int} (h : ArrAt w b l) (i : Nat) (x : Int) : ArrAt (w.setCell ⟨b, i, none⟩ (.int .i64 x)) b (l.set i x) := by
  unfold ArrAt
  rw [heap_setCell_box, h]
  simp [setIn, List.map_set]
theorem ArrAt.cell {w : World} {b : Nat} {l : List Int} (h : ArrAt w b l) {i : Nat} {x : Int} (hi : l[i]? = some x) : w.cell? ⟨b, i, none⟩ = some (.int .i64 x) := by
  rw [cell_of_row w b _ _ 3 (0, 0) h]; simp [hi]
theorem ArrAt.free {w : World} {b : Nat} {l : List Int} (h : ArrAt w b l) (i : Nat) : w.frozen? ⟨b, i, none⟩ = false := frozen_of_row w b i _ 3 h
theorem ArrAt.ext {w w' : World} {b : Nat} {l : List Int} (h : ArrAt w b l) (e : Ext w w') : ArrAt w' b l := e.heap h

theorem GonePost.some {g u : Int} {w w' : World} {e : Ending} (h : GonePost (some ⟨g, u⟩) w e w') : e = .returned (.tuple #[.int .i64 g, .int .i64 u, .bool true]) ∧ Ext w w' := h
theorem GonePost.none {w w' : World} {e : Ending} (h : GonePost none w e w') : e = .returned (.tuple #[.int .i64 0, .int .i64 0, .bool false]) ∧ Ext w w' := h
def BestPost (T : Chosen) (w : World) (e : Ending) (w' : World) : Prop :=
  ∃ a n c, e = .returned (.tuple #[.slice a n c, .int .i64 T.got, .int .i64 T.err]) ∧ Ext w w' ∧ n ≤ 1000 ∧ IntsAt .i64 w' a n T.chain
theorem BestPost.bad {w w' : World} {e : Int} (h : Ext w w') : BestPost ⟨[], 0, e⟩ w (.returned (.tuple #[.slice none 0 0, .int .i64 0, .int .i64 e])) w' :=
  ⟨none, 0, 0, rfl, h, by omega, ⟨rfl, fun h => by omega⟩⟩
theorem pow11 {n m : Nat} (hn : n ≤ 10) (hm : m ≤ 5) : (n + 1) ^ m ≤ 161051 :=
  Nat.le_trans (Nat.pow_le_pow_left (show n + 1 ≤ 11 by omega) m) (Nat.le_trans (Nat.pow_le_pow_right (by omega) hm) (by decide))

theorem arr_new (w : World) (k : Nat) : ArrAt (w.alloc (.cells (Array.replicate k (.int .i64 0)) 3)) w.heap.size (List.replicate k 0) := by
  unfold ArrAt
  rw [heap_alloc_new]
  simp
theorem made_ints (m : Nat) : madeCells (Value.int .i64 0).cells m = Array.replicate m (.int .i64 0) := by
  apply Array.ext
  · simp [size_madeCells]
  · intro i h1 h2
    have h2' : i < m := by simpa using h2
    simp [madeCells, Value.cells, Nat.mod_one]
theorem mk24 (m : Nat) (hm : m ≤ 1000000) (w : World) : (Instr.makeSlice 24 (.int .i64 m) (.int .i64 m)).run Try.prog w = .ok (.slice (some ⟨w.heap.size, 0, none⟩) m m) (w.alloc (.cells (Array.replicate m (.int .i64 0)) 3)) := by
  obtain ⟨i, h1, h2, h3, h4⟩ := info_parts Try.info3
  have := run_makeSlice (P := Try.prog) w 24 3 i (.int .i64 0) Try.underlying24 h1 h2 .i64 .i64 m m (by omega) (Int.le_refl _) (by rw [h3]; simp; omega) (by rw [h4]; omega) (by omega)
  rw [h3, Int.toNat_natCast, Nat.mul_one, made_ints] at this
  exact this
/-- the best list so far, in memory of its own -/
def FoundAt (w : World) (m : Nat) (v : Value) (B : Found) : Prop :=
  match B with | some x => ∃ b, v = .slice (some ⟨b, 0, none⟩) m m ∧ ArrAt w b x.1 | none => v = .slice none 0 0
theorem FoundAt.ext {w w' : World} {m : Nat} {v : Value} {B : Found} (h : FoundAt w m v B) (e : Ext w w') : FoundAt w' m v B := by
  cases B with
  | none => exact h
  | some x => obtain ⟨b, h1, h2⟩ := h; exact ⟨b, h1, h2.ext e⟩

set_option maxRecDepth 100000 in
set_option maxHeartbeats 4000000 in
theorem refBest_any (a : Option Addr) (n cap : Nat) (l : List Offer) (fa : Option Addr) (fn fc : Nat) (fs : List Fair) (g0 u0 want : Int) (w : World)
    (hl : OffersAt w a n l) (hf : FairsAt w fa fn fs) (hn : n ≤ 1000000) (hfn : fn ≤ 1000000) :
    Calls Try.prog 29 #[.slice a n cap, .slice fa fn fc, .int .i64 g0, .int .i64 u0, .int .i64 want] w (BestPost (bestOf l fs g0 u0 want) w) := by
  have hck := refCheck_any a n cap l fa fn fc fs w (fun W hW => refOffers_any a n cap l W (hl.ext hW) hn) hf hfn
  by_cases hc0 : checkOf l fs = 0
  case neg =>
    have hb : bestOf l fs g0 u0 want = ⟨[], 0, checkOf l fs⟩ := by unfold bestOf; rw [if_pos hc0]
    rw [hb]
    have Hck := Lib.hid hck
    obtain ⟨r1, r2⟩ := checkOf_range l fs
    have hne : (checkOf l fs != 0) = true := by rw [bne_iff_ne]; exact hc0
    clear hck hc0 hb hl hf
    generalize checkOf l fs = C at *
    go_enter Try.func29, Try.ntmps29
    go_wp2_with (go_at_call 24; refine Hck.out.mono ?_; rintro e w1 ⟨rfl, hx1⟩)
    refine bodyPost_ret (results_tmp3 rfl _ _ _) rfl ?_
    exact BestPost.bad (by assumption)
  obtain ⟨ho, ht⟩ := checkOf_zero hc0
  rw [hc0] at hck
  have hi1 := fun W => within_ext g0 0 4 W
  have hi2 := fun W => within_ext want 0 4 W
  have hi3 := fun W => within_ext u0 0 1000000 W
  cases hao : argsOk g0 u0 want with
  | false =>
    have hb : bestOf l fs g0 u0 want = ⟨[], 0, 2⟩ := by unfold bestOf; rw [if_neg (by simp [hc0]), if_pos hao]
    rw [hb]
    clear hb hl hf hc0 ho ht
    have Hck := Lib.hid hck
    clear hck
    unfold argsOk at hao
    cases h1 : inB g0 0 4
    · rw [h1] at hi1
      have Hi1 := Lib.hid hi1
      clear hi1
      clear hi2 hi3 hao h1
      go_enter Try.func29, Try.ntmps29
      go_wp2_with (first | (go_at_call 24; refine Hck.out.mono ?_; rintro e w1 ⟨rfl, hx1⟩) | (go_at_call 50; refine (Hi1.out _).mono ?_; rintro e w2 ⟨rfl, hx2⟩))
      refine bodyPost_ret (results_tmp3 rfl _ _ _) rfl ?_
      exact BestPost.bad (hx1.trans hx2)
    · cases h2 : inB want 0 4
      · rw [h1] at hi1
        rw [h2] at hi2
        have Hi1 := Lib.hid hi1
        have Hi2 := Lib.hid hi2
        clear hi1 hi2
        clear hi3 hao h1 h2
        go_enter Try.func29, Try.ntmps29
        go_wp2_with (go_at_call 24; refine Hck.out.mono ?_; rintro e w1 ⟨rfl, hx1⟩)
        refine (Hi1.out _).mono ?_
        rintro e w2 ⟨rfl, hx2⟩
        go_wp2_with fail
        refine (Hi2.out _).mono ?_
        rintro e w3 ⟨rfl, hx3⟩
        go_wp2_with fail
        refine bodyPost_ret (results_tmp3 rfl _ _ _) rfl ?_
        exact BestPost.bad (hx1.trans (hx2.trans hx3))
      · have h3 : inB u0 0 1000000 = false := by rw [h1, h2] at hao; simpa using hao
        rw [h1] at hi1
        rw [h2] at hi2
        rw [h3] at hi3
        have Hi1 := Lib.hid hi1
        have Hi2 := Lib.hid hi2
        have Hi3 := Lib.hid hi3
        clear hi1 hi2 hi3
        clear hao h1 h2 h3
        go_enter Try.func29, Try.ntmps29
        go_wp2_with (go_at_call 24; refine Hck.out.mono ?_; rintro e w1 ⟨rfl, hx1⟩)
        refine (Hi1.out _).mono ?_
        rintro e w2 ⟨rfl, hx2⟩
        go_wp2_with fail
        refine (Hi2.out _).mono ?_
        rintro e w3 ⟨rfl, hx3⟩
        go_wp2_with fail
        refine (Hi3.out _).mono ?_
        rintro e w4 ⟨rfl, hx4⟩
        go_wp2_with fail
        refine bodyPost_ret (results_tmp3 rfl _ _ _) rfl ?_
        exact BestPost.bad (hx1.trans (hx2.trans (hx3.trans hx4)))
  | true =>
  have hb : bestOf l fs g0 u0 want = chosen (bestTo l fs ⟨g0, u0⟩ want ((l.length + 1) ^ fs.length)) := by unfold bestOf; rw [if_neg (by simp [hc0]), if_neg (by simp [hao])]
  rw [hb]
  clear hb
  simp only [argsOk, Bool.and_eq_true] at hao
  obtain ⟨⟨h1, h2⟩, h3⟩ := hao
  rw [h1] at hi1
  rw [h2] at hi2
  rw [h3] at hi3
  simp only [inB, Bool.and_eq_true, decide_eq_true_eq] at h1 h2 h3
  obtain ⟨hg1, hg2⟩ := h1
  obtain ⟨hu1, hu2⟩ := h3
  have hlen := trip_len ht
  have hfl := hf.1
  have hnl := hl.1
  have hol := offers_len ho
  have hn10 : n ≤ 10 := by omega
  have hfn5 : fn ≤ 5 := by omega
  have hfn1 : 1 ≤ fn := by omega
  have hfok := fun k => bestTo_ok l fs ⟨g0, u0⟩ want k
  have hsucc := fun k => bestTo_succ l fs ⟨g0, u0⟩ want k
  rw [hnl, hfl] at hsucc
  rw [hnl, hfl]
  have Hck := Lib.hid hck
  have Hi1 := Lib.hid hi1
  have Hi2 := Lib.hid hi2
  have Hi3 := Lib.hid hi3
  have Hl := Lib.hid hl
  have Hf := Lib.hid hf
  have Ho := Lib.hid ho
  have Ht := Lib.hid ht
  have Hfl := Lib.hid hfl
  have Hnl := Lib.hid hnl
  have Hfok := Lib.hid hfok
  have Hsucc := Lib.hid hsucc
  clear hck hi1 hi2 hi3 hl hf ho ht hfl hnl hfok hsucc
  clear hlen hol hc0 h2
  go_enter Try.func29, Try.ntmps29
  go_wp2_with (go_at_call 24; refine Hck.out.mono ?_; rintro e w1 ⟨rfl, hx1⟩)
  refine (Hi1.out _).mono ?_
  rintro e w2 ⟨rfl, hx2⟩
  go_wp2_with fail
  refine (Hi2.out _).mono ?_
  rintro e w3 ⟨rfl, hx3⟩
  go_wp2_with fail
  refine (Hi3.out _).mono ?_
  rintro e w4 ⟨rfl, hx4⟩
  have hxw4 := hx1.trans (hx2.trans (hx3.trans hx4))
  have Hxw4 := Lib.hid hxw4
  clear hxw4
  clear hx1 hx2 hx3 hx4
  go_wp2_with fail
  go_loopw [14, 15] (fun v i wr => ∃ k : Nat, k ≤ fn ∧ i = .int .i64 k ∧ v = .int .i64 (((n + 1) ^ k : Nat) : Int) ∧ wr = w4) (fun _ i _ => fn - (intOf i).toNat)
  case atStart => refine ⟨0, Nat.zero_le _, ?_, ?_, ?_⟩ <;> first | rfl | trivial | simp
  case round =>
    obtain ⟨k, hk, rfl, rfl, rfl⟩ := hrel
    by_cases hlt : k < fn
    · have hlt' : decide ((k : Int) < (fn : Int)) = true := by simp; omega
      have hp := pow11 (m := k) hn10 (by omega)
      have hps : (((n + 1) ^ (k + 1) : Nat) : Int) = (((n + 1) ^ k : Nat) : Int) * ((n : Int) + 1) := by rw [Nat.pow_succ]; simp
      obtain ⟨p, hpe⟩ : ∃ p : Nat, (n + 1) ^ k = p := ⟨_, rfl⟩
      rw [hpe] at hp hps
      rw [hpe]
      obtain ⟨m1, m2⟩ := mul_bd (M := 161051) (N := 11) (show 0 ≤ (p : Int) by omega) (show (p : Int) ≤ 161051 by omega) (show 0 ≤ (n : Int) + 1 by omega) (show (n : Int) + 1 ≤ 11 by omega)
      simp only [Int.reduceMul] at m2
      have Hps := Lib.hid hps
      have Hpe := Lib.hid hpe
      clear hps hpe
      go_wp2_with fail
      go_roundw
      case rel => exact ⟨k + 1, by omega, by go_num, by rw [Hps.out], trivial⟩
      case measure => simp [intOf]; omega
    · obtain rfl : k = fn := by omega
      have hlt' : decide ((k : Int) < (k : Int)) = false := by simp
      have hp := pow11 (m := k) hn10 (by omega)
      obtain ⟨p, hpe⟩ : ∃ p : Nat, (n + 1) ^ k = p := ⟨_, rfl⟩
      rw [hpe] at hp ⊢
      have Hpe := Lib.hid hpe
      clear hpe
      go_wp2_with fail
      go_loopw [16, 17, 18] (fun v m i wi => ∃ (q : Nat) (B : Found), q ≤ p ∧ i = .int .i64 q ∧ bestTo l fs ⟨g0, u0⟩ want q = B ∧ m = .int .i64 B.most ∧ Ext wr wi ∧ FoundAt wi k v B) (fun _ _ i _ => p - (intOf i).toNat)
      case atStart => refine ⟨0, none, Nat.zero_le _, ?_, ?_, ?_, Ext.refl _, ?_⟩ <;> first | rfl | trivial
      case round =>
        obtain ⟨q, B, hq, rfl, hB, rfl, hx, hv⟩ := hrel
        have hBok := hB ▸ Hfok.out q
        have HB := Lib.hid hB
        have Hx := Lib.hid hx
        have Hv := Lib.hid hv
        have HBok := Lib.hid hBok
        clear hB hx hv hBok
        by_cases hql : q < p
        · have hql' : decide ((q : Int) < (p : Int)) = true := by simp; omega
          have hmk := fun W => mk24 k (by omega) W
          have hst := Hsucc.out q
          have hBm := HBok.out.2
          rw [HB.out] at hst
          obtain ⟨M, hM⟩ : ∃ M, B.most = M := ⟨_, rfl⟩
          rw [hM] at hBm
          rw [hM]
          have Hst := Lib.hid hst
          have HM := Lib.hid hM
          clear hst hM
          go_wp2_with fail
          have harr : ArrAt (wr.alloc (.cells (Array.replicate k (.int .i64 0)) 3)) wr.heap.size (filling (n + 1) k 0 q) := by rw [filling_zero]; exact arr_new _ _
          have hx5 : Ext wr (wr.alloc (.cells (Array.replicate k (.int .i64 0)) 3)) := (Ext.refl _).alloc _
          generalize wr.alloc (.cells (Array.replicate k (.int .i64 0)) 3) = W5 at *
          clear hmk
          obtain ⟨w6, hw6⟩ : ∃ W : World, W = wr := ⟨_, rfl⟩
          subst hw6
          go_loopw [20, 21] (fun r i wi => ∃ t : Nat, t ≤ k ∧ i = .int .i64 (((k - t : Nat) : Int) - 1) ∧ r = .int .i64 ((q / (n + 1) ^ t : Nat) : Int) ∧ Ext w6 wi ∧ ArrAt wi w6.heap.size (filling (n + 1) k t q)) (fun _ i _ => (intOf i + 1).toNat)
          case atStart => exact ⟨0, Nat.zero_le _, by simp, by simp, hx5, harr⟩
          case round =>
            obtain ⟨t, htk, rfl, rfl, hxi, harri⟩ := hrel
            clear hx5 harr
            obtain ⟨R, hR⟩ : ∃ R : Nat, q / (n + 1) ^ t = R := ⟨_, rfl⟩
            have hRq : R ≤ q := by rw [← hR]; exact Nat.div_le_self _ _
            have hmod : ((R % (n + 1) : Nat) : Int) = (R : Int) % ((n : Int) + 1) := by simp
            have hdiv : ((R / (n + 1) : Nat) : Int) = (R : Int) / ((n : Int) + 1) := by simp
            have hy1 : 0 ≤ (R : Int) % ((n : Int) + 1) := Int.emod_nonneg _ (by omega)
            have hy2 : (R : Int) % ((n : Int) + 1) < (n : Int) + 1 := Int.emod_lt_of_pos _ (by omega)
            obtain ⟨hz1, hz2⟩ := div_bd (u := (R : Int)) (a := (n : Int) + 1) (by omega) (by omega)
            obtain ⟨Y, hY⟩ : ∃ Y, (R : Int) % ((n : Int) + 1) = Y := ⟨_, rfl⟩
            obtain ⟨Z, hZ⟩ : ∃ Z, (R : Int) / ((n : Int) + 1) = Z := ⟨_, rfl⟩
            rw [hY] at hmod hy1 hy2
            rw [hZ] at hdiv hz1 hz2
            rw [hR]
            by_cases ht1 : t < k
            · obtain ⟨j, hj⟩ : ∃ j : Nat, k - t = j + 1 := ⟨k - t - 1, by omega⟩
              have hjk : j < k := by omega
              have hfs := filling_step (b := n + 1) (w := q) ht1
              rw [hR, show k - (t + 1) = j by omega, hmod] at hfs
              have hRs : q / (n + 1) ^ (t + 1) = R / (n + 1) := by rw [Nat.pow_succ, ← Nat.div_div_eq_div_mul, hR]
              rw [hj, show ((j + 1 : Nat) : Int) - 1 = (j : Int) by omega]
              have hfl0 := filling_len (b := n + 1) (w := q) htk
              obtain ⟨x, hxj⟩ : ∃ x, (filling (n + 1) k t q)[j]? = some x := ⟨_, List.getElem?_eq_getElem (by omega)⟩
              have c0 := harri.cell hxj
              have cf := harri.free j
              have hset := harri.set j (Y - 1)
              rw [← hfs] at hset
              have hxs := hxi.setCell (p := ⟨w6.heap.size, j, none⟩) (Nat.le_refl _) (.int .i64 (Y - 1))
              have hj0 : decide ((0 : Int) ≤ (j : Int)) = true := by simp
              have Hset := Lib.hid hset
              have Hxs := Lib.hid hxs
              have HRs := Lib.hid hRs
              have Hdiv := Lib.hid hdiv
              clear hset hxs hRs hdiv
              clear hfs hmod hR hxj hfl0 hxi harri
              go_wp2_with fail
              go_roundw
              case rel => exact ⟨t + 1, by omega, by rw [show k - (t + 1) = j by omega], by rw [HRs.out, Hdiv.out], Hxs.out, Hset.out⟩
              case measure => first | (simp [intOf]; done) | (simp [intOf]; omega)
            · obtain rfl : t = k := by omega
              rw [filling_all] at harri
              have hti : (((t - t : Nat) : Int) - 1) = -1 := by simp
              rw [hti]
              have hint := harri.ints
              rw [digits_len] at hint
              have hdg := digits_bd (b := n + 1) (by omega) t q
              have hgone := gone_any a n cap l fa t fc fs (some ⟨w6.heap.size, 0, none⟩) t t (digits (n + 1) t q) g0 u0 wr (Hl.out.ext (Hxw4.out.trans (Hx.out.trans hxi))) (Hf.out.ext (Hxw4.out.trans (Hx.out.trans hxi))) hint Ho.out Ht.out (Nat.le_refl _) (by omega) (fun k hk => by have := hdg k hk; omega) hg1 hg2 hu1 hu2
              clear hmod hdiv hR hti hint hdg hY hZ hy1 hy2 hz1 hz2
              obtain ⟨w7, hw7⟩ : ∃ W : World, W = wr := ⟨_, rfl⟩
              subst hw7
              unfold bestStep at Hst
              cases hgo : goneOf l fs (digits (n + 1) t q) ⟨g0, u0⟩ with
              | none =>
                rw [hgo] at hgone Hst
                have Hgone := Lib.hid hgone
                have Hxi := Lib.hid hxi
                clear hgone hxi
                clear hgo harri
                go_wp2_with (go_at_call 36; refine Hgone.out.mono ?_; rintro e w8 h8; obtain ⟨rfl, hx8⟩ := h8.none; have Hx8 := Lib.hid (Hxi.out.trans hx8); clear hx8)
                go_roundw
                case rel => exact ⟨q + 1, B, by omega, by go_num, Hst.out, by rw [HM.out], Hx.out.trans Hx8.out, Hv.out.ext Hx8.out⟩
                case measure => simp [intOf]; omega
              | some hh =>
                obtain ⟨g, u⟩ := hh
                rw [hgo] at hgone Hst
                replace Hst : Hid (bestTo l fs ⟨g0, u0⟩ want (q + 1) = if g = want ∧ B.most < u then some (digits (n + 1) t q, u) else B) := Hst
                have Hgone := Lib.hid hgone
                have Hxi := Lib.hid hxi
                have Harri := Lib.hid harri
                clear hgone hxi harri
                clear hgo
                by_cases hgw : g = want
                · subst hgw
                  have hgwB : (g == g) = true := by simp
                  by_cases hmu : M < u
                  · have hmuB : decide (M < u) = true := by simpa using hmu
                    have hs2 := Hst.out
                    rw [HM.out, if_pos ⟨rfl, hmu⟩] at hs2
                    have Hs2 := Lib.hid hs2
                    clear hs2
                    go_wp2_with (go_at_call 36; refine Hgone.out.mono ?_; rintro e w8 h8; obtain ⟨rfl, hx8⟩ := h8.some; have Harr8 := Lib.hid (Harri.out.ext hx8); have Hx8 := Lib.hid (Hxi.out.trans hx8); clear hx8)
                    go_roundw
                    case rel => exact ⟨q + 1, _, by omega, by go_num, Hs2.out, rfl, Hx.out.trans Hx8.out, ⟨_, rfl, Harr8.out⟩⟩
                    case measure => simp [intOf]; omega
                  · have hmuB : decide (M < u) = false := by simpa using hmu
                    have hs2 := Hst.out
                    rw [HM.out, if_neg (by omega)] at hs2
                    have Hs2 := Lib.hid hs2
                    clear hs2
                    go_wp2_with (go_at_call 36; refine Hgone.out.mono ?_; rintro e w8 h8; obtain ⟨rfl, hx8⟩ := h8.some; have Hx8 := Lib.hid (Hxi.out.trans hx8); clear hx8)
                    go_roundw
                    case rel => exact ⟨q + 1, B, by omega, by go_num, Hs2.out, by rw [HM.out], Hx.out.trans Hx8.out, Hv.out.ext Hx8.out⟩
                    case measure => simp [intOf]; omega
                · have hgwB : (g == want) = false := by simpa using hgw
                  have hs2 := Hst.out
                  rw [if_neg (by omega)] at hs2
                  have Hs2 := Lib.hid hs2
                  clear hs2
                  go_wp2_with (go_at_call 36; refine Hgone.out.mono ?_; rintro e w8 h8; obtain ⟨rfl, hx8⟩ := h8.some; have Hx8 := Lib.hid (Hxi.out.trans hx8); clear hx8)
                  go_roundw
                  case rel => exact ⟨q + 1, B, by omega, by go_num, Hs2.out, by rw [HM.out], Hx.out.trans Hx8.out, Hv.out.ext Hx8.out⟩
                  case measure => simp [intOf]; omega
        · obtain rfl : q = p := by omega
          have hql' : decide ((q : Int) < (q : Int)) = false := by simp
          have hv2 := Hv.out
          cases B with
          | none =>
            obtain rfl : u16 = .slice none 0 0 := hv2
            rw [show (Found.most none) = -1 from rfl]
            go_wp2_with fail
            refine bodyPost_ret (results_tmp3 rfl _ _ _) rfl ?_
            rw [Hpe.out, HB.out]
            exact BestPost.bad (Hxw4.out.trans Hx.out)
          | some x =>
            obtain ⟨ch, m⟩ := x
            obtain ⟨b, rfl, harr⟩ := hv2
            obtain ⟨hl1, hl2⟩ := HBok.out.1
            rw [show (Found.most (some (ch, m))) = m from rfl]
            simp only at hl1 hl2 harr
            have hint := harr.ints
            rw [hl1, Hfl.out] at hint
            have hm0 : decide (m < 0) = false := by simpa using hl2
            have Hint := Lib.hid hint
            clear hint
            clear hl1 harr
            go_wp2_with fail
            refine bodyPost_ret (results_tmp3 rfl _ _ _) rfl ?_
            rw [Hpe.out, HB.out]
            exact ⟨_, _, _, rfl, Hxw4.out.trans Hx.out, by omega, Hint.out⟩
end Go.Proofs.Ytkbhmajcddmhnaa
