/- Where Round's closure begins. -/
import Derived.Test.YtkbhmajcddmhnaaVDfs
import Derived.Test.YtkbhmajcddmhnaaVRefRound
import Derived.Test.YtkbhmajcddmhnaaVGr6
namespace Go.Proofs.Ytkbhmajcddmhnaa
open Go.RowKit
set_option linter.unusedVariables false
set_option linter.unusedSimpArgs false

theorem map_new (w : World) (z : Value) : MapIs (w.alloc (.map #[] 0)) w.heap.size z (fun _ => z) :=
  ⟨#[], 0, heap_alloc_new w _, by simp [IntKeys], fun p => by simp⟩
theorem alloc_at {w0 W : World} {k : Nat} (h : W.heap.size = w0.heap.size + k) (o : Obj) : (W.alloc o).heap.size = w0.heap.size + (k + 1) ∧ (W.alloc o).heap[w0.heap.size + k]? = some o := by
  refine ⟨by simp [h]; omega, ?_⟩
  rw [← h]
  exact heap_alloc_new W o
theorem rd_begin (w0 : World) (bm bs : Nat) (W : World) (hW : W = (((((w0.alloc (.map #[] 0)).alloc (.cells #[.map (some w0.heap.size)] 128)).alloc (.cells #[.slice none 0 0] 24)).alloc (.cells #[.slice none 0 0] 24)).alloc (.cells #[.slice none 0 0] 24)).alloc (.cells #[moreVal w0.heap.size bm bs] 110)) :
    Rd w0 bm bs W [] [] [] (.slice none 0 0) (.slice none 0 0) (.slice none 0 0) (fun _ => .bool false) := by
  have hm := map_new w0 (.bool false)
  have s1 := alloc_at (w0 := w0) (W := w0) (k := 0) rfl (.map #[] 0)
  have x1 : Ext w0 (w0.alloc (.map #[] 0)) := (Ext.refl _).alloc _
  generalize w0.alloc (.map #[] 0) = W1 at *
  have s2 := alloc_at s1.1 (.cells #[.map (some w0.heap.size)] 128)
  have x2 : Ext W1 (W1.alloc (.cells #[.map (some w0.heap.size)] 128)) := (Ext.refl _).alloc _
  generalize W1.alloc (.cells #[.map (some w0.heap.size)] 128) = W2 at *
  have s3 := alloc_at s2.1 (.cells #[.slice none 0 0] 24)
  have x3 : Ext W2 (W2.alloc (.cells #[.slice none 0 0] 24)) := (Ext.refl _).alloc _
  generalize W2.alloc (.cells #[.slice none 0 0] 24) = W3 at *
  have s4 := alloc_at s3.1 (.cells #[.slice none 0 0] 24)
  have x4 : Ext W3 (W3.alloc (.cells #[.slice none 0 0] 24)) := (Ext.refl _).alloc _
  generalize W3.alloc (.cells #[.slice none 0 0] 24) = W4 at *
  have s5 := alloc_at s4.1 (.cells #[.slice none 0 0] 24)
  have x5 : Ext W4 (W4.alloc (.cells #[.slice none 0 0] 24)) := (Ext.refl _).alloc _
  generalize W4.alloc (.cells #[.slice none 0 0] 24) = W5 at *
  have s6 := alloc_at s5.1 (.cells #[moreVal w0.heap.size bm bs] 110)
  have x6 : Ext W5 (W5.alloc (.cells #[moreVal w0.heap.size bm bs] 110)) := (Ext.refl _).alloc _
  generalize W5.alloc (.cells #[moreVal w0.heap.size bm bs] 110) = W6 at *
  subst hW
  have e56 := x6
  have e46 := x5.trans e56
  have e36 := x4.trans e46
  have e26 := x3.trans e36
  have e16 := x2.trans e26
  have e06 := x1.trans e16
  exact {
    ext := e06
    size := by rw [s6.1]; omega
    bg := e26.heap s2.2
    bo := s6.2
    bl := e36.heap s3.2
    bu := e46.heap s4.2
    bf := e56.heap s5.2
    o1 := Owns.nil _ _ _ _
    o2 := Owns.nil _ _ _ _
    o3 := Owns.nil _ _ _ _
    map := hm.ext e16
    a12 := fun b hb => by simp [Value.ownBlock] at hb
    a13 := fun b hb => by simp [Value.ownBlock] at hb
    a23 := fun b hb => by simp [Value.ownBlock] at hb }
theorem gF_nil (l : List Offer) : gF l [] = fun _ => .bool false := by
  funext p
  simp [gF, gives]
end Go.Proofs.Ytkbhmajcddmhnaa

/- Contract: market.Round. -/
namespace Go.Proofs.Ytkbhmajcddmhnaa
open Go.RowKit
set_option linter.unusedVariables false
set_option linter.unusedSimpArgs false

@[local go_sem] theorem run_store_func (P : Program) (w : World) (a : Addr) (m : Mode) (f : Fn) (x y : Array Value) : (store a (.func f x y) m).run P w = stored P w a (.func f x y) m := run_store P w a _ m rfl
set_option maxRecDepth 100000 in
set_option maxHeartbeats 4000000 in
theorem mRound_any (a : Option Addr) (n cap : Nat) (l : List Offer) (p d : Int) (w : World)
    (hl : OffersAt w a n l) (hn : n ≤ 1000000) :
    Calls Try.prog 30 #[.slice a n cap, .int .i64 p, .int .i64 d] w (WentPost (wentD l p d) w) := by
  cases ho : offersOk l with
  | false =>
    have hb : wentD l p d = ⟨[], 60⟩ := by unfold wentD; rw [if_pos ho]
    rw [hb]
    have Hop := Lib.hid (open_bad a n cap l w hl (by omega) ho)
    clear ho hb hl
    go_enter Try.func30, Try.ntmps30
    go_wp2_with (go_at_call 61; refine Hop.out.mono ?_; rintro e w1 ⟨rfl, hx1⟩)
    refine bodyPost_ret (results_tmp2 rfl _ _ _) rfl ?_
    exact WentPost.bad (hx1.alloc _)
  | true =>
  have ho' := ho
  simp only [offersOk, Bool.and_eq_true, decide_eq_true_eq] at ho'
  have hnl := hl.1
  have hn10 : n ≤ 10 := by omega
  have Hop := Lib.hid (open_ok a n cap l w hl ho'.2 hn10)
  clear ho'
  have hi1 := fun W => in_ext p 0 9999 W
  have hi2 := fun W => in_ext d 0 100000 W
  cases h1 : inB p 0 9999 with
  | false =>
    have hb : wentD l p d = ⟨[], 2⟩ := by unfold wentD; rw [if_neg (by simp [ho]), if_pos (by simp [h1])]
    rw [hb]
    rw [h1] at hi1
    have Hi1 := Lib.hid hi1
    clear hi1
    clear ho hb hl h1 hi2 hnl
    go_enter Try.func30, Try.ntmps30
    go_wp2_with (go_at_call 61; refine Hop.out.mono ?_; rintro e w1 ⟨mp, rfl, hx1, _⟩)
    refine (Hi1.out _).mono ?_
    rintro e w2 ⟨rfl, hx2⟩
    go_wp2_with fail
    refine bodyPost_ret (results_tmp2 rfl _ _ _) rfl ?_
    exact WentPost.bad ((hx1.alloc _).trans hx2)
  | true =>
  rw [h1] at hi1
  cases h2 : inB d 0 100000 with
  | false =>
    have hb : wentD l p d = ⟨[], 2⟩ := by unfold wentD; rw [if_neg (by simp [ho]), if_pos (by simp [h2])]
    rw [hb]
    rw [h2] at hi2
    have Hi1 := Lib.hid hi1
    have Hi2 := Lib.hid hi2
    clear hi1 hi2
    clear ho hb hl h1 h2 hnl
    go_enter Try.func30, Try.ntmps30
    go_wp2_with (go_at_call 61; refine Hop.out.mono ?_; rintro e w1 ⟨mp, rfl, hx1, _⟩)
    refine (Hi1.out _).mono ?_
    rintro e w2 ⟨rfl, hx2⟩
    go_wp2_with fail
    refine (Hi2.out _).mono ?_
    rintro e w3 ⟨rfl, hx3⟩
    go_wp2_with fail
    refine bodyPost_ret (results_tmp2 rfl _ _ _) rfl ?_
    exact WentPost.bad ((hx1.alloc _).trans (hx2.trans hx3))
  | true =>
  rw [h2] at hi2
  have hb : wentD l p d = match roundDfs l (hereOf l p d) with | some ls => ⟨ls, 0⟩ | none => ⟨[], 6⟩ := by unfold wentD; rw [if_neg (by simp [ho]), if_neg (by simp [h1, h2])]; cases roundDfs l (hereOf l p d) <;> rfl
  have hat := fun mp B W (hW : Ext w W) (hm : MarketAt B W mp a n cap l) => at_any mp a n cap l p d W (hl.ext hW) hn10 B hm
  have hmem : ∀ k ∈ hereOf l p d, 0 ≤ k ∧ k < (n : Int) := fun k hk => by
    obtain ⟨j, o, rfl, hj, _⟩ := mem_hereOf (f := ⟨p, d, []⟩) hk
    have := getElem?_lt hj
    omega
  have hlen := hereOf_len l p d
  rw [hnl] at hlen
  obtain ⟨L, hL⟩ : ∃ L, hereOf l p d = L := ⟨_, rfl⟩
  rw [hL] at hb hat hmem hlen
  have Hb := Lib.hid hb
  have Hat := Lib.hid hat
  have Hmem := Lib.hid hmem
  have Hi1 := Lib.hid hi1
  have Hi2 := Lib.hid hi2
  have Hl := Lib.hid hl
  have Ho := Lib.hid ho
  have HL := Lib.hid hL
  clear hb hat hmem hi1 hi2 hl ho hL
  clear h1 h2 hnl
  go_enter Try.func30, Try.ntmps30
  go_wp2_with (go_at_call 61; refine Hop.out.mono ?_; rintro e w1 ⟨mp, rfl, hx1, hm1⟩)
  have hbm := heap_alloc_new w1 (.cells #[.pointer (some ⟨mp, 0, none⟩)] 101)
  have hx2 : Ext w1 (w1.alloc (.cells #[.pointer (some ⟨mp, 0, none⟩)] 101)) := (Ext.refl _).alloc _
  generalize w1.alloc (.cells #[.pointer (some ⟨mp, 0, none⟩)] 101) = w2 at *
  have hm2 := hm1.ext hx2
  have hxw2 := hx1.trans hx2
  obtain ⟨bm, hbme⟩ : ∃ b, w1.heap.size = b := ⟨_, rfl⟩
  rw [hbme] at hbm
  rw [hbme]
  have Hm2 := Lib.hid hm2
  have Hxw2 := Lib.hid hxw2
  have Hbm := Lib.hid hbm
  clear hm2 hxw2 hbm
  clear hm1 hx1 hx2 hbme
  refine (Hi1.out _).mono ?_
  rintro e w3 ⟨rfl, hx3⟩
  go_wp2_with fail
  refine (Hi2.out _).mono ?_
  rintro e w4 ⟨rfl, hx4⟩
  have hx24 := hx3.trans hx4
  have hbm4 := hx24.heap Hbm.out
  have cbm := ((Ext.refl w4).box hbm4).1
  have hm4 := Hm2.out.ext hx24
  have hxw4 := Hxw2.out.trans hx24
  have Hbm4 := Lib.hid hbm4
  have Hm4 := Lib.hid hm4
  have Hxw4 := Lib.hid hxw4
  clear hbm4 hm4 hxw4
  clear Hbm Hm2 Hxw2 hx24 hx3 hx4
  have hmm := @run_makeMap Try.prog
  go_wp2_with (go_at_call 62; refine (Hat.out _ _ _ Hxw4.out Hm4.out).mono ?_; rintro e w5 ⟨sa, sn, sc, rfl, hx5, _, hsc, hsm, hsi⟩; obtain rfl := hsi.1)
  clear hmm cbm
  have hbs := heap_alloc_new w5 (.cells #[.slice sa L.length sc] 24)
  have hx6 : Ext w4 (w5.alloc (.cells #[.slice sa L.length sc] 24)) := hx5.alloc _
  have hsi6 := hsi.ext ((Ext.refl w5).alloc (.cells #[.slice sa L.length sc] 24))
  have es : w5.heap.size + 1 = (w5.alloc (.cells #[.slice sa L.length sc] 24)).heap.size := by simp
  rw [es]
  generalize w5.alloc (.cells #[.slice sa L.length sc] 24) = w0 at *
  obtain ⟨bs, hbse⟩ : ∃ b, w5.heap.size = b := ⟨_, rfl⟩
  rw [hbse] at hbs
  rw [hbse]
  have hbm6 := hx6.heap Hbm4.out
  have hxw6 := Hxw4.out.trans hx6
  have hmp6 := (Hm4.out.ext hx6).2.1
  clear hsi hx5 es hbse Hbm4 Hxw4 Hm4 hx6
  rw [show w0.heap.size + 1 + 1 = w0.heap.size + 2 from rfl, show w0.heap.size + 2 + 1 = w0.heap.size + 3 from rfl, show w0.heap.size + 3 + 1 = w0.heap.size + 4 from rfl, show w0.heap.size + 4 + 1 = w0.heap.size + 5 from rfl]
  obtain ⟨W0, hW0⟩ : ∃ W, W = (((((w0.alloc (.map #[] 0)).alloc (.cells #[.map (some w0.heap.size)] 128)).alloc (.cells #[.slice none 0 0] 24)).alloc (.cells #[.slice none 0 0] 24)).alloc (.cells #[.slice none 0 0] 24)).alloc (.cells #[moreVal w0.heap.size bm bs] 110) := ⟨_, rfl⟩
  have hrd := rd_begin w0 bm bs W0 hW0
  unfold moreVal at hW0
  rw [← hW0]
  clear hW0
  rw [← gF_nil l] at hrd
  have hmore := more_any a n cap l w0 bm bs mp sa L.length sc L (Hl.out.ext hxw6) Ho.out hsi6 Hmem.out (by omega) hbm6 hmp6 hbs
  have Hrd := Lib.hid hrd
  have Hmore := Lib.hid hmore
  have Hxw6 := Lib.hid hxw6
  have Hsc := Lib.hid hsc
  have Hsm := Lib.hid hsm
  clear hrd hmore hxw6 hsc hsm
  clear Hop Hat Hmem Hi1 Hi2 Hl Ho HL hbm6 hmp6 hbs hsi6 hn hn10 hlen
  go_loopw [39] (fun i wr => ∃ (k : Nat) (vl vu vf : Value), k ≤ 5 ∧ i = .int .i64 k ∧ Rd w0 bm bs wr [] [] [] vl vu vf (gF l []) ∧ ∀ i, i < k → dfs l L (i + 1) [] = none) (fun i _ => 5 - (intOf i).toNat)
  case atStart => exact ⟨0, _, _, _, by omega, rfl, Hrd.out, fun i hi => by omega⟩
  case round =>
    obtain ⟨k, vl, vu, vf, hk, rfl, hr, hnone⟩ := hrel
    by_cases hkl : k < 5
    · have hkl' : decide ((k : Int) < 5) = true := by simp; omega
      have cbo := ((Ext.refl _).box hr.bo).1
      unfold moreVal at cbo
      have hc := Hmore.out (k + 1) [] _ vl vu vf (by simp; omega) (by omega) (by simp) hr
      rw [show ((k + 1 : Nat) : Int) = (k : Int) + 1 by omega] at hc
      cases hd : dfs l L (k + 1) [] with
      | some x =>
        rw [hd] at hc
        have hx := roundDfs_some hkl hnone hd
        have hb2 := Hb.out
        rw [hx] at hb2
        simp only at hb2
        have hxl := dfs_len hd
        have Hc := Lib.hid hc
        have Hb2 := Lib.hid hb2
        have Hxl := Lib.hid hxl
        clear hc hb2 hxl
        clear Hb hnone hr hd hx
        go_wp2_with (go_at_call 63; refine Hc.out.mono ?_; rintro e w2 ⟨rfl, l2, l3, vl2, vu2, vf2, F2, hr2⟩; obtain ⟨la, lc, rfl, _, hlc, hlm, hli⟩ := ints_of_owns hr2.o1; have cbl := ((Ext.refl _).box hr2.bl).1)
        refine bodyPost_ret (results_tmp2 rfl _ _ _) rfl ?_
        rw [Hb2.out]
        exact ⟨la, x.length, lc, rfl, Hxw6.out.trans hr2.ext, by have := Hxl.out; simp at this; omega, hli⟩
      | none =>
        rw [hd] at hc
        have hn2 : ∀ i, i < k + 1 → dfs l L (i + 1) [] = none := fun i hi => by
          rcases Nat.lt_or_ge i k with h | h
          · exact hnone i h
          · obtain rfl : i = k := by omega
            exact hd
        have Hc := Lib.hid hc
        have Hn2 := Lib.hid hn2
        clear hc hn2
        clear hnone hr hd
        go_wp2_with (go_at_call 63; refine Hc.out.mono ?_; rintro e w2 ⟨rfl, vl2, vu2, vf2, hr2, _⟩)
        case roundEnd => exact ⟨⟨k + 1, _, _, _, by omega, by simp, hr2, Hn2.out⟩, by simp [intOf]; omega⟩
    · obtain rfl : k = 5 := by omega
      have hx := roundDfs_none hnone
      have hb2 := Hb.out
      rw [hx] at hb2
      simp only at hb2
      have hre := hr.ext
      rw [show ((5 : Nat) : Int) = 5 from rfl]
      have Hb2 := Lib.hid hb2
      have Hre := Lib.hid hre
      clear hb2 hre
      clear Hb hnone hr hx
      go_wp2_with fail
      refine bodyPost_ret (results_tmp2 rfl _ _ _) rfl ?_
      rw [Hb2.out]
      exact WentPost.bad (Hxw6.out.trans Hre.out)
end Go.Proofs.Ytkbhmajcddmhnaa
