/- The reference: Finds. -/
import Derived.Test.YtacdndehlkaaeaaVFinds
import Derived.Test.YtacdndehlkaaeaaVRMarch
namespace Go.Proofs.Ytacdndehlkaaeaa
open Go.RowKit
set_option linter.unusedVariables false
set_option linter.unusedSimpArgs false
/-- what Finds has found ahead of step j -/
def findR (l : List Half) (ts : List Trek) (x y far : Int) : Nat → Option (Int × Int)
  | 0 => some (-1, -1)
  | j + 1 => findTo l ts x y far j
theorem findR_step {l : List Half} {ts : List Trek} {x y far : Int} {j : Nat} {m s : Int} (h : findR l ts x y far j = some (m, s)) (hf : j = 0 ∨ fitB (wayTo l ts j) = true) : findR l ts x y far (j + 1) = some (noteMay m (knownOf (wayTo l ts j) x y far) j, noteSure s (knownOf (wayTo l ts j) x y far) j) := by
  cases j with
  | zero =>
    cases h
    rfl
  | succ j => exact findTo_good h (hf.resolve_left (by omega))
theorem trek_all_no {ts : List Trek} {j : Nat} {t : Trek} (h : ts[j]? = some t) (hb : trekOk t = false) : ts.all trekOk = false := by
  rw [List.all_eq_false]
  exact ⟨t, List.mem_of_getElem? h, by rw [hb]; simp⟩
theorem trek_all_yes {ts : List Trek} {n : Nat} (hn : ts.length = n) (h : ∀ q t, q < n → ts[q]? = some t → trekOk t = true) : ts.all trekOk = true := by
  rw [List.all_eq_true]
  intro t ht
  obtain ⟨j, hj, rfl⟩ := List.mem_iff_getElem.1 ht
  exact h j _ (by omega) (List.getElem?_eq_getElem hj)
set_option maxRecDepth 100000 in
set_option maxHeartbeats 8000000 in
theorem rfinds_any (a : Option Addr) (len cap : Nat) (l : List Half) (ta : Option Addr) (n tc : Nat) (ts : List Trek) (x y far : Int) (w : World) (hl : HalvesAt w a len l) (hlen : len ≤ 100000) (hs : TreksAt w ta n ts) (hn : n ≤ 1000000) :
    Calls Try.prog 33 #[.agg #[.slice a len cap], .slice ta n tc, .int .i64 x, .int .i64 y, .int .i64 far] w (FindsPost l ts x y far w) := by
  have has := fun W (hW : Ext w W) => rasked_any a len cap l x y far W (hl.ext hW) hlen
  have hll := hl.1
  have hsl := hs.1
  have hrt := fun t W => rtrek_any t W
  have hdef : findsOf l ts x y far = if askedOf l x y far ≠ 0 then (0, 0, askedOf l x y far) else if 60 < ts.length then (0, 0, 4) else if ts.all trekOk = false then (0, 0, 42) else
    match findTo l ts x y far ts.length with
    | none => (0, 0, 9)
    | some a => (a.1, a.2, 0) := rfl
  obtain ⟨R, hR⟩ : ∃ R, findsOf l ts x y far = R := ⟨_, rfl⟩
  obtain ⟨Q, hQ⟩ : ∃ Q, FindsPost l ts x y far w = Q := ⟨_, rfl⟩
  have hfin : ∀ r1 r2 r3, R = (r1, r2, r3) → ∀ w', Ext w w' → Q (.returned (.tuple #[.int .i64 r1, .int .i64 r2, .int .i64 r3])) w' := fun r1 r2 r3 h w' hx => by
    rw [← hQ]
    unfold FindsPost
    rw [hR, h]
    exact ⟨rfl, hx⟩
  rw [hR] at hdef
  rw [hQ]
  clear hR hQ
  rw [hsl] at hdef
  have hK0 : askedOf l x y far = 0 → AreaOk l ∧ NearOk x y far := fun h => ⟨(asked_zero h).1, (asked_zero h).2.1⟩
  obtain ⟨K, hK⟩ : ∃ K, askedOf l x y far = K := ⟨_, rfl⟩
  rw [hK] at has hdef hK0
  obtain ⟨W0, hW0⟩ : ∃ W0, w.alloc (.cells #[.slice a len cap] 24) = W0 := ⟨_, rfl⟩
  have hx0 : Ext w W0 := by rw [← hW0]; exact (Ext.refl w).alloc _
  have ha0 : W0.heap[w.heap.size]? = some (.cells #[.slice a len cap] 24 (0, 0)) := by rw [← hW0]; exact heap_alloc_new w _
  obtain ⟨z0, _⟩ := (Ext.refl W0).box ha0
  have Hx0 := Lib.hid hx0
  have Ha0 := Lib.hid ha0
  have Hll := Lib.hid hll
  have Hsl := Lib.hid hsl
  clear hx0 ha0 hll hsl
  by_cases hk : K ≠ 0
  · have hf := hfin 0 0 K (by rw [hdef, if_pos hk])
    have hkB : (K != 0) = true := by rw [bne_iff_ne]; exact hk
    have Has := Lib.hid has
    have Hf := Lib.hid hf
    clear has hf
    clear hl hs hrt hdef hK0 hfin hK hk hlen hn
    go_enter Try.func33, Try.ntmps33
    go_wp2_with (go_at_call 64; refine (Has.out _ Hx0.out).mono ?_; rintro e w1 ⟨rfl, hx1⟩; have hx01 := Hx0.out.trans hx1)
    go_ret3
    exact Hf.out _ hx01
  obtain rfl : K = 0 := by omega
  obtain ⟨hA, hN⟩ := hK0 rfl
  rw [if_neg (by simp)] at hdef
  by_cases h60 : 60 < n
  · have hf := hfin 0 0 4 (by rw [hdef, if_pos h60])
    have h60B : decide ((60 : Int) < (n : Int)) = true := decide_eq_true (by omega)
    have h60B' : decide (60 < n) = true := decide_eq_true h60
    have Has := Lib.hid has
    have Hf := Lib.hid hf
    clear has hf
    clear hl hs hrt hdef hK0 hfin hK hlen hn
    go_enter Try.func33, Try.ntmps33
    go_wp2_with (go_at_call 64; refine (Has.out _ Hx0.out).mono ?_; rintro e w1 ⟨rfl, hx1⟩; have hx01 := Hx0.out.trans hx1)
    go_ret3
    exact Hf.out _ hx01
  rw [if_neg h60] at hdef
  have h60B : decide ((60 : Int) < (n : Int)) = false := decide_eq_false (by omega)
  have h60B' : decide (60 < n) = false := decide_eq_false h60
  have hrm := fun (va : Option Addr) vc (L : List Half) (t : Trek) W (hL : HalvesAt W va len L) (h1 : AreaOk L) (h2 : trekOk t = true) => rmoved_any va len vc L t W hL (by have := h1.len; have := hL.1; omega) h1.each h2
  have hkn := fun (va : Option Addr) vc (L : List Half) W (hL : HalvesAt W va len L) (h1 : AreaOk L) => known_any va len vc L x y far W hL (by have := h1.len; have := hL.1; omega) h1.each hN
  unfold RMovedPost at hrm
  have Has := Lib.hid has
  have Hdef := Lib.hid hdef
  have Hfin := Lib.hid hfin
  have Hrt := Lib.hid hrt
  have Hrm := Lib.hid hrm
  have Hkn := Lib.hid hkn
  clear has hdef hfin hrt hrm hkn
  have Hl := Lib.hid hl
  have Hs := Lib.hid hs
  clear hK0 hK hl hs hk
  go_enter Try.func33, Try.ntmps33
  go_upto_region 7 with (go_at_call 64; refine (Has.out _ Hx0.out).mono ?_; rintro e w1 ⟨rfl, hx1⟩; have hx01 := Hx0.out.trans hx1; clear hW0 z0)
  go_loopw [14] (fun i wr => ∃ j : Nat, j ≤ n ∧ i = .int .i64 j ∧ Ext w1 wr ∧ ∀ q t, q < j → ts[q]? = some t → trekOk t = true) (fun i _ => n - (intOf i).toNat)
  case atStart => exact ⟨0, Nat.zero_le _, rfl, Ext.refl _, fun q t hq => by omega⟩
  case round =>
    obtain ⟨j, hj, rfl, hx, hall⟩ := hrel
    have hxw := hx01.trans hx
    by_cases hlt : j < n
    · have hltB : decide ((j : Int) < (n : Int)) = true := by simp; omega
      obtain ⟨sb, so, t, rfl, hsk, hsb, c0, c1, c2, c3, c4, c5⟩ := (Hs.out.ext hxw).get j hlt
      have hr := Hrt.out t
      cases htk : trekOk t with
      | false =>
        rw [htk] at hr
        have hf := Hfin.out 0 0 42 (by rw [Hdef.out, if_pos (trek_all_no hsk htk)])
        obtain ⟨⟨d0, d1⟩, ⟨e0, e1⟩, ⟨n0, n1⟩⟩ := t
        unfold Trek.val at hr
        simp only at hr c0 c1 c2 c3 c4 c5
        have Hr := Lib.hid hr
        have Hf := Lib.hid hf
        have Hxw := Lib.hid hxw
        clear hr hf hxw
        clear hx hx1 hx01 hall hsk htk
        go_wp2_with (go_at_call 45; refine (Hr.out _).mono ?_; rintro e w2 ⟨rfl, hx2⟩)
        go_ret3
        exact Hf.out _ (Hxw.out.trans hx2)
      | true =>
        rw [htk] at hr
        have hnext : ∀ q t, q < j + 1 → ts[q]? = some t → trekOk t = true := fun q u hq h1 => by
          rcases Nat.lt_or_ge q j with h' | h'
          · exact hall q u h' h1
          · obtain rfl : q = j := by omega
            rw [hsk] at h1
            cases h1
            exact htk
        obtain ⟨⟨d0, d1⟩, ⟨e0, e1⟩, ⟨n0, n1⟩⟩ := t
        unfold Trek.val at hr
        simp only at hr c0 c1 c2 c3 c4 c5
        have Hr := Lib.hid hr
        have Hx := Lib.hid hx
        have Hnext := Lib.hid hnext
        clear hr hx hnext
        clear hx1 hx01 hall hsk htk hxw
        go_wp2_with (go_at_call 45; refine (Hr.out _).mono ?_; rintro e w2 ⟨rfl, hx2⟩)
        go_roundw
        case rel => exact ⟨j + 1, by omega, by go_num, Hx.out.trans hx2, Hnext.out⟩
        case measure => simp [intOf]; omega
    · have hltB : decide ((j : Int) < (n : Int)) = false := by simp; omega
      obtain rfl : j = n := by omega
      have hallT := trek_all_yes Hsl.out hall
      have hdef2 := Hdef.out
      rw [if_neg (by rw [hallT]; simp)] at hdef2
      obtain ⟨z0, _⟩ := (Ext.refl wr).box ((hx1.trans hx).heap Ha0.out)
      have hfr : findR l ts x y far 0 = some (-1, -1) := rfl
      have hL0 := Hl.out.ext hxw
      have hlc : ∃ c, cap = c := ⟨_, rfl⟩
      have Hdef2 := Lib.hid hdef2
      have HallT := Lib.hid hallT
      have Hxw := Lib.hid hxw
      have HL0 := Lib.hid hL0
      clear hdef2 hallT hxw hL0
      clear Hdef hall hx hx1 hx01 Hrt Has Ha0 Hx0
      go_upto_region 14 with fail
      clear z0
      go_loopw [15, 16, 17, 18] (fun mv sv v i wq => ∃ (k : Nat) (va : Option Addr) (vc : Nat) (m s : Int), k ≤ j + 1 ∧ i = .int .i64 k ∧ mv = .int .i64 m ∧ sv = .int .i64 s ∧ v = .slice va len vc ∧ Ext wr wq ∧ HalvesAt wq va len (wayTo l ts (k - 1)) ∧ AreaOk (wayTo l ts (k - 1)) ∧ findR l ts x y far k = some (m, s)) (fun _ _ _ i _ => j + 1 - (intOf i).toNat)
      case atStart => exact ⟨0, a, cap, -1, -1, Nat.zero_le _, rfl, rfl, rfl, rfl, Ext.refl _, HL0.out, hA, hfr⟩
      case round =>
        obtain ⟨k, va, vc, m, s, hk, rfl, rfl, rfl, rfl, hq, hV, hVA, hfd⟩ := hrel
        by_cases hle : k ≤ j
        · have hleB : decide ((k : Int) ≤ (j : Int)) = true := by simp; omega
          rcases Nat.eq_zero_or_pos k with hk0 | hk0
          · have hk0B : decide ((0 : Int) < (k : Int)) = false := by simp; omega
            have hk0B' : decide (0 < k) = false := by simp; omega
            have hstep := findR_step hfd (.inl hk0)
            have hw : wayTo l ts (k - 1) = wayTo l ts k := by rw [hk0]
            rw [hw] at hV hVA
            have hkc := Hkn.out va vc _ wr hV hVA
            have hkk := known_012 (wayTo l ts k) x y far
            have HA7 := Lib.hid hVA
            have HV := Lib.hid hV
            have Hq := Lib.hid hq
            generalize knownOf (wayTo l ts k) x y far = kk at *
            have Hkc := Lib.hid hkc
            clear hV hVA hq hkc hw hfd hk0
            go_upto_region 22 with (go_at_call 65; refine Hkc.out.mono ?_; rintro e w7 ⟨rfl, hx7⟩; have HV7 := Lib.hid (HV.out.ext hx7); have Hx7 := Lib.hid (Hq.out.trans hx7); clear hx7)
            clear Hkc
            rcases hkk with rfl | rfl | rfl
            · have e1 : noteMay m 0 k = m := by simp only [noteMay]; split <;> omega
              have e2 : noteSure s 0 k = s := by unfold noteSure; split <;> omega
              have HSt := Lib.hid hstep
              rw [e1, e2] at HSt
              clear hstep e1 e2
              go_wp2_with fail
              go_roundw
              case rel => exact ⟨k + 1, va, vc, m, s, by omega, by go_num, rfl, rfl, rfl, Hx7.out, HV7.out, HA7.out, HSt.out⟩
              case measure => simp [intOf]; omega
            · by_cases hm : m < 0
              · have hmB : decide (m < 0) = true := decide_eq_true hm
                have e1 : noteMay m 1 k = (k : Int) := by simp only [noteMay]; split <;> omega
                have e2 : noteSure s 1 k = s := by unfold noteSure; split <;> omega
                have HSt := Lib.hid hstep
                rw [e1, e2] at HSt
                clear hstep e1 e2
                go_wp2_with fail
                go_roundw
                case rel => exact ⟨k + 1, va, vc, (k : Int), s, by omega, by go_num, rfl, rfl, rfl, Hx7.out, HV7.out, HA7.out, HSt.out⟩
                case measure => simp [intOf]; omega
              · have hmB : decide (m < 0) = false := decide_eq_false hm
                have e1 : noteMay m 1 k = m := by simp only [noteMay]; split <;> omega
                have e2 : noteSure s 1 k = s := by unfold noteSure; split <;> omega
                have HSt := Lib.hid hstep
                rw [e1, e2] at HSt
                clear hstep e1 e2
                go_wp2_with fail
                go_roundw
                case rel => exact ⟨k + 1, va, vc, m, s, by omega, by go_num, rfl, rfl, rfl, Hx7.out, HV7.out, HA7.out, HSt.out⟩
                case measure => simp [intOf]; omega
            · by_cases hm : m < 0
              · have hmB : decide (m < 0) = true := decide_eq_true hm
                by_cases hs : s < 0
                · have hsB : decide (s < 0) = true := decide_eq_true hs
                  have e1 : noteMay m 2 k = (k : Int) := by simp only [noteMay]; split <;> omega
                  have e2 : noteSure s 2 k = (k : Int) := by unfold noteSure; split <;> omega
                  have HSt := Lib.hid hstep
                  rw [e1, e2] at HSt
                  clear hstep e1 e2
                  go_wp2_with fail
                  go_roundw
                  case rel => exact ⟨k + 1, va, vc, (k : Int), (k : Int), by omega, by go_num, rfl, rfl, rfl, Hx7.out, HV7.out, HA7.out, HSt.out⟩
                  case measure => simp [intOf]; omega
                · have hsB : decide (s < 0) = false := decide_eq_false hs
                  have e1 : noteMay m 2 k = (k : Int) := by simp only [noteMay]; split <;> omega
                  have e2 : noteSure s 2 k = s := by unfold noteSure; split <;> omega
                  have HSt := Lib.hid hstep
                  rw [e1, e2] at HSt
                  clear hstep e1 e2
                  go_wp2_with fail
                  go_roundw
                  case rel => exact ⟨k + 1, va, vc, (k : Int), s, by omega, by go_num, rfl, rfl, rfl, Hx7.out, HV7.out, HA7.out, HSt.out⟩
                  case measure => simp [intOf]; omega
              · have hmB : decide (m < 0) = false := decide_eq_false hm
                by_cases hs : s < 0
                · have hsB : decide (s < 0) = true := decide_eq_true hs
                  have e1 : noteMay m 2 k = m := by simp only [noteMay]; split <;> omega
                  have e2 : noteSure s 2 k = (k : Int) := by unfold noteSure; split <;> omega
                  have HSt := Lib.hid hstep
                  rw [e1, e2] at HSt
                  clear hstep e1 e2
                  go_wp2_with fail
                  go_roundw
                  case rel => exact ⟨k + 1, va, vc, m, (k : Int), by omega, by go_num, rfl, rfl, rfl, Hx7.out, HV7.out, HA7.out, HSt.out⟩
                  case measure => simp [intOf]; omega
                · have hsB : decide (s < 0) = false := decide_eq_false hs
                  have e1 : noteMay m 2 k = m := by simp only [noteMay]; split <;> omega
                  have e2 : noteSure s 2 k = s := by unfold noteSure; split <;> omega
                  have HSt := Lib.hid hstep
                  rw [e1, e2] at HSt
                  clear hstep e1 e2
                  go_wp2_with fail
                  go_roundw
                  case rel => exact ⟨k + 1, va, vc, m, s, by omega, by go_num, rfl, rfl, rfl, Hx7.out, HV7.out, HA7.out, HSt.out⟩
                  case measure => simp [intOf]; omega
          · have hk0B : decide ((0 : Int) < (k : Int)) = true := by simp; omega
            have hk0B' : decide (0 < k) = true := by simp; omega
            obtain ⟨sb, so, t, rfl, hsk, hsb, c0, c1, c2, c3, c4, c5⟩ := (Hs.out.ext (Hxw.out.trans hq)).get (k - 1) (by omega)
            have htk : trekOk t = true := List.all_eq_true.1 HallT.out t (List.mem_of_getElem? hsk)
            have hmv := Hrm.out va vc _ t wr hV hVA htk
            have hsucc := wayTo_succ (l := l) hsk
            rw [Nat.sub_add_cancel hk0] at hsucc
            have hlen' : (wayTo l ts k).length = len := by rw [wayTo_len, Hll.out]
            rw [← hsucc] at hmv
            have hA' : fitB (wayTo l ts k) = true → AreaOk (wayTo l ts k) := fun h => by
              rw [hsucc] at h ⊢
              exact hVA.moved h
            have hbad : fitB (wayTo l ts k) = false → findTo l ts x y far j = none := fun h => findTo_bad (k := k - 1) (by rw [Nat.sub_add_cancel hk0]; exact h) (by omega)
            obtain ⟨i, hi⟩ : ∃ i, k - 1 = i := ⟨_, rfl⟩
            have hidx : (k : Int) - 1 = (i : Int) := by omega
            have hij : i < j := by omega
            rw [hi] at c0 c1 c2 c3 c4 c5
            obtain ⟨⟨d0, d1⟩, ⟨e0, e1⟩, ⟨n0, n1⟩⟩ := t
            unfold Trek.val at hmv
            simp only at hmv c0 c1 c2 c3 c4 c5
            clear hi
            cases hfi : fitB (wayTo l ts k) with
            | false =>
              replace hmv := hmv.mono fun e w' h => show e = .returned (.tuple #[.slice none 0 0, .bool false]) ∧ Ext wr w' from h.elim (fun h => absurd h.1 (by rw [hfi]; simp)) fun h => h.2
              have hf := Hfin.out 0 0 9 (by rw [Hdef2.out, hbad hfi])
              have hxq := Hxw.out.trans hq
              have Hmv := Lib.hid hmv
              have Hf := Lib.hid hf
              have Hxq := Lib.hid hxq
              clear hmv hf hxq
              clear hV hVA hq hfd hsk htk hsucc hA' hbad hk0 hfi
              go_wp2_with (go_at_call 71; refine Hmv.out.mono ?_; rintro e w5 ⟨rfl, hx5⟩)
              go_ret3
              exact Hf.out _ (Hxq.out.trans hx5)
            | true =>
              replace hmv := hmv.mono fun e w' h => show ∃ a n c, e = .returned (.tuple #[.slice a n c, .bool true]) ∧ n ≤ c ∧ c ≤ maxLen ∧ Ext wr w' ∧ HalvesAt w' a n (wayTo l ts k) ∧ From wr.heap.size a from h.elim (fun h => h.2) fun h => absurd h.1 (by rw [hfi]; simp)
              have hstep := findR_step hfd (.inr hfi)
              have hVA' := hA' hfi
              have hkk := known_012 (wayTo l ts k) x y far
              have hkc := fun W aa cc (h : HalvesAt W aa len (wayTo l ts k)) => Hkn.out aa cc _ W h hVA'
              have HA7 := Lib.hid hVA'
              have Hq := Lib.hid hq
              have Hlen' := Lib.hid hlen'
              generalize knownOf (wayTo l ts k) x y far = kk at *
              have Hmv := Lib.hid hmv
              have Hkc := Lib.hid hkc
              clear hmv hkc
              clear hV hVA hVA' hq hfd hsk htk hsucc hA' hbad hk0 hfi
              go_upto_region 22 with (first | (go_at_call 71; refine Hmv.out.mono ?_; rintro e w5 ⟨ma, mn, mc, rfl, m1, m2, hx5, hM, _⟩; obtain rfl : mn = len := hM.1.symm.trans Hlen'.out; have Hx5 := Lib.hid (Hq.out.trans hx5); have HM := Lib.hid hM; clear hx5 hM) | (go_at_call 65; refine (Hkc.out _ _ _ HM.out).mono ?_; rintro e w7 ⟨rfl, hx7⟩; have HV7 := Lib.hid (HM.out.ext hx7); have Hx7 := Lib.hid (Hx5.out.trans hx7); clear hx7))
              clear Hkc Hmv
              rcases hkk with rfl | rfl | rfl
              · have e1 : noteMay m 0 k = m := by simp only [noteMay]; split <;> omega
                have e2 : noteSure s 0 k = s := by unfold noteSure; split <;> omega
                have HSt := Lib.hid hstep
                rw [e1, e2] at HSt
                clear hstep e1 e2
                go_wp2_with fail
                go_roundw
                case rel => exact ⟨k + 1, ma, mc, m, s, by omega, by go_num, rfl, rfl, rfl, Hx7.out, HV7.out, HA7.out, HSt.out⟩
                case measure => simp [intOf]; omega
              · by_cases hm : m < 0
                · have hmB : decide (m < 0) = true := decide_eq_true hm
                  have e1 : noteMay m 1 k = (k : Int) := by simp only [noteMay]; split <;> omega
                  have e2 : noteSure s 1 k = s := by unfold noteSure; split <;> omega
                  have HSt := Lib.hid hstep
                  rw [e1, e2] at HSt
                  clear hstep e1 e2
                  go_wp2_with fail
                  go_roundw
                  case rel => exact ⟨k + 1, ma, mc, (k : Int), s, by omega, by go_num, rfl, rfl, rfl, Hx7.out, HV7.out, HA7.out, HSt.out⟩
                  case measure => simp [intOf]; omega
                · have hmB : decide (m < 0) = false := decide_eq_false hm
                  have e1 : noteMay m 1 k = m := by simp only [noteMay]; split <;> omega
                  have e2 : noteSure s 1 k = s := by unfold noteSure; split <;> omega
                  have HSt := Lib.hid hstep
                  rw [e1, e2] at HSt
                  clear hstep e1 e2
                  go_wp2_with fail
                  go_roundw
                  case rel => exact ⟨k + 1, ma, mc, m, s, by omega, by go_num, rfl, rfl, rfl, Hx7.out, HV7.out, HA7.out, HSt.out⟩
                  case measure => simp [intOf]; omega
              · by_cases hm : m < 0
                · have hmB : decide (m < 0) = true := decide_eq_true hm
                  by_cases hs : s < 0
                  · have hsB : decide (s < 0) = true := decide_eq_true hs
                    have e1 : noteMay m 2 k = (k : Int) := by simp only [noteMay]; split <;> omega
                    have e2 : noteSure s 2 k = (k : Int) := by unfold noteSure; split <;> omega
                    have HSt := Lib.hid hstep
                    rw [e1, e2] at HSt
                    clear hstep e1 e2
                    go_wp2_with fail
                    go_roundw
                    case rel => exact ⟨k + 1, ma, mc, (k : Int), (k : Int), by omega, by go_num, rfl, rfl, rfl, Hx7.out, HV7.out, HA7.out, HSt.out⟩
                    case measure => simp [intOf]; omega
                  · have hsB : decide (s < 0) = false := decide_eq_false hs
                    have e1 : noteMay m 2 k = (k : Int) := by simp only [noteMay]; split <;> omega
                    have e2 : noteSure s 2 k = s := by unfold noteSure; split <;> omega
                    have HSt := Lib.hid hstep
                    rw [e1, e2] at HSt
                    clear hstep e1 e2
                    go_wp2_with fail
                    go_roundw
                    case rel => exact ⟨k + 1, ma, mc, (k : Int), s, by omega, by go_num, rfl, rfl, rfl, Hx7.out, HV7.out, HA7.out, HSt.out⟩
                    case measure => simp [intOf]; omega
                · have hmB : decide (m < 0) = false := decide_eq_false hm
                  by_cases hs : s < 0
                  · have hsB : decide (s < 0) = true := decide_eq_true hs
                    have e1 : noteMay m 2 k = m := by simp only [noteMay]; split <;> omega
                    have e2 : noteSure s 2 k = (k : Int) := by unfold noteSure; split <;> omega
                    have HSt := Lib.hid hstep
                    rw [e1, e2] at HSt
                    clear hstep e1 e2
                    go_wp2_with fail
                    go_roundw
                    case rel => exact ⟨k + 1, ma, mc, m, (k : Int), by omega, by go_num, rfl, rfl, rfl, Hx7.out, HV7.out, HA7.out, HSt.out⟩
                    case measure => simp [intOf]; omega
                  · have hsB : decide (s < 0) = false := decide_eq_false hs
                    have e1 : noteMay m 2 k = m := by simp only [noteMay]; split <;> omega
                    have e2 : noteSure s 2 k = s := by unfold noteSure; split <;> omega
                    have HSt := Lib.hid hstep
                    rw [e1, e2] at HSt
                    clear hstep e1 e2
                    go_wp2_with fail
                    go_roundw
                    case rel => exact ⟨k + 1, ma, mc, m, s, by omega, by go_num, rfl, rfl, rfl, Hx7.out, HV7.out, HA7.out, HSt.out⟩
                    case measure => simp [intOf]; omega
        · have hleB : decide ((k : Int) ≤ (j : Int)) = false := by simp; omega
          obtain rfl : k = j + 1 := by omega
          have hf := Hfin.out m s 0 (by rw [Hdef2.out, show findTo l ts x y far j = some (m, s) from hfd])
          have hxq := Hxw.out.trans hq
          have Hf := Lib.hid hf
          have Hxq := Lib.hid hxq
          clear hf hxq
          clear hq hV hVA hfd
          go_wp2_with fail
          go_ret3
          exact Hf.out _ Hxq.out
end Go.Proofs.Ytacdndehlkaaeaa
