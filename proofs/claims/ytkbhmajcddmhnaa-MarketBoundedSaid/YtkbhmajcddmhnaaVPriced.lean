/- Contract: trip.priced. -/
import Derived.Test.YtkbhmajcddmhnaaVRefPr
namespace Go.Proofs.Ytkbhmajcddmhnaa
open Go.RowKit
set_option linter.unusedVariables false

theorem priceFn_any (x : Int) (w : World) : Calls Try.prog 78 #[.int .i64 x] w fun e w' => e = .returned (.bool (inB x 0 1000000)) ∧ Ext w w' := by
  go_enter Try.func78, Try.ntmps78
  go_wp2_with (go_at_call 51; refine (in_any _ _ _ _).mono ?_; rintro e w' ⟨rfl, rfl⟩)
  go_ret
  exact ⟨rfl, Ext.refl _⟩

theorem rowFn_any (a : Option Addr) (n c : Nat) (r : List Int) (w : World) (hr : IntsAt .i64 w a n r) (hn : n ≤ maxLen) :
    Calls Try.prog 77 #[.slice a n c] w fun e w' => e = .returned (.bool (rowOk r)) ∧ Ext w w' := by
  unfold maxLen at hn
  have hl := hr.1
  by_cases h5 : n = 5
  · subst h5
    have hev := every_int 78 (enters_of Try.func78 (by kernel_rfl) rfl) a 5 c r (fun n => inB n 0 1000000) w hr (by omega) (fun o _ W' _ => priceFn_any o W')
    have Hev := Lib.hid hev
    have Hl := Lib.hid hl
    clear hev hr hl
    go_enter Try.func77, Try.ntmps77
    go_wp2_with (go_at_call 75; refine Hev.out.mono ?_; rintro e w1 ⟨rfl, hx1⟩)
    go_ret
    exact ⟨ret_bool (by simp [rowOk, Hl.out]), by assumption⟩
  · have h5' : ((n : Int) == 5) = false := by simp; omega
    clear hr
    have Hl := Lib.hid hl
    clear hl
    go_enter Try.func77, Try.ntmps77
    go_wp2_with fail
    go_ret
    exact ⟨ret_bool (by simp [rowOk, Hl.out, h5]), Ext.refl _⟩

theorem mem_hereOf {l : List Offer} {f : Fair} {i : Int} (h : i ∈ hereOf l f.place f.day) : ∃ (j : Nat) (o : Offer), i = j ∧ l[j]? = some o ∧ openB o f = true := by
  unfold hereOf at h
  obtain ⟨h1, h2⟩ := List.mem_filter.1 h
  obtain ⟨j, rfl, hj, o, ho, hp⟩ := mem_idxsTo h1
  refine ⟨j, o, rfl, ho, ?_⟩
  simp only [openAt, Int.toNat_natCast, ho] at h2
  simp [openB, hp, h2]
theorem idxsTo_mem {l : List Offer} {p : Int} {j k : Nat} {o : Offer} (h : l[j]? = some o) (hp : o.place = p) (hj : j < k) : (j : Int) ∈ idxsTo l p k := by
  induction k with
  | zero => omega
  | succ k ih =>
    simp only [idxsTo, List.mem_append]
    rcases Nat.lt_or_ge j k with h' | h'
    · exact .inl (ih h')
    · obtain rfl : j = k := by omega
      right
      simp [h, hp]
theorem hereOf_mem {l : List Offer} {f : Fair} {j : Nat} {o : Offer} (h : l[j]? = some o) (ho : openB o f = true) : (j : Int) ∈ hereOf l f.place f.day := by
  simp only [openB, Bool.and_eq_true, beq_iff_eq] at ho
  unfold hereOf
  refine List.mem_filter.2 ⟨idxsTo_mem h ho.1 (getElem?_lt h), ?_⟩
  simp [openAt, h, ho.2]
theorem hereOf_len (l : List Offer) (p d : Int) : (hereOf l p d).length ≤ l.length := by
  have h1 := List.length_filter_le (openAt l d) (idxsTo l p l.length)
  have h2 := idxsTo_len l p l.length
  unfold hereOf; omega

set_option maxRecDepth 100000 in
set_option maxHeartbeats 4000000 in
theorem priced_any (B mp : Nat) (a : Option Addr) (n cap : Nat) (l : List Offer) (fa : Option Addr) (fn fc : Nat) (fs : List Fair) (pa : Option Addr) (pn pc : Nat) (ps : List (List Int)) (w : World)
    (hl : OffersAt w a n l) (hm : MarketAt B w mp a n cap l) (hf : FairsAt w fa fn fs) (hp : RowsAt w pa pn ps) (hpn : pn ≤ 1000000) (ho : offersOk l = true) (ht : tripOk fs = true) :
    Calls Try.prog 49 #[.agg #[.pointer (some ⟨mp, 0, none⟩), .slice fa fn fc], .slice pa pn pc] w fun e w' => e = .returned (.bool (PB (Priced l fs ps))) ∧ Ext w w' := by
  have hlen := trip_len ht
  have hfl := hf.1
  have hpl := hp.1
  have hol := offers_len ho
  have hnl := hl.1
  have Hl := Lib.hid hl
  have Hm := Lib.hid hm
  have Hf := Lib.hid hf
  have Hp := Lib.hid hp
  have Ho := Lib.hid ho
  have Ht := Lib.hid ht
  have Hfl := Lib.hid hfl
  have Hpl := Lib.hid hpl
  have Hnl := Lib.hid hnl
  clear hl hf hp ho ht hfl hpl hnl hm
  have hfn5 : fn ≤ 5 := by have := Hfl.out; omega
  have hfn1 : 1 ≤ fn := by have := Hfl.out; omega
  have hn10 : n ≤ 10 := by have := Hnl.out; omega
  clear hlen hol
  by_cases hnf : pn = fn
  case neg =>
    have hne : ((pn : Int) != (fn : Int)) = true := by rw [bne_iff_ne]; omega
    go_enter Try.func49, Try.ntmps49
    go_wp2_with fail
    go_step3
    go_wp2_with fail
    try rw [Exit.noGoto_ret]
    go_ret
    exact ⟨ret_bool (PB_false (fun h => hnf (by have := h.1; rw [Hpl.out, Hfl.out] at this; exact this))).symm, (Ext.refl _).alloc _⟩
  subst hnf
  have hev : ∀ W, Ext w W → Calls Try.prog 79 #[.slice pa pn pc, .func (.func 77) #[] #[]] W fun e w' => e = .returned (.bool (ps.all rowOk)) ∧ Ext W w' := fun W hW =>
    every_ints 77 (enters_of Try.func77 (by kernel_rfl) rfl) pa pn pc ps rowOk W (Hp.out.ext hW) (by omega) (fun r _ W' ka kn kc _ h1 h2 h3 => rowFn_any ka kn kc r W' h3 (by omega))
  have hne : ((pn : Int) != (pn : Int)) = false := by simp
  cases hrw : ps.all rowOk with
  | false =>
    rw [hrw] at hev
    have Hev := Lib.hid hev
    have Hrw := Lib.hid hrw
    clear hev hrw
    go_enter Try.func49, Try.ntmps49
    go_wp2_with fail
    go_step3
    go_wp2_with (go_at_call 79; refine (Hev.out _ ((Ext.refl _).alloc _)).mono ?_; rintro e w1 ⟨rfl, hx1⟩)
    try rw [Exit.noGoto_ret]
    go_ret
    refine ⟨ret_bool (PB_false fun h => ?_).symm, ((Ext.refl _).alloc _).trans (by assumption)⟩
    have : ps.all rowOk = true := by
      rw [List.all_eq_true]
      intro r hr
      obtain ⟨i, hi⟩ := List.mem_iff_getElem?.1 hr
      exact h.2.1 i r hi
    rw [Hrw.out] at this
    cases this
  | true =>
    rw [hrw] at hev
    have Hev := Lib.hid hev
    have hrows : ∀ (i : Nat) (r : List Int), ps[i]? = some r → rowOk r = true := fun i r hr => List.all_eq_true.1 hrw r (List.mem_of_getElem? hr)
    have Hrows := Lib.hid hrows
    clear hev hrw hrows
    go_enter Try.func49, Try.ntmps49
    go_wp2_with fail
    go_step3
    go_wp2_with (go_at_call 79; refine (Hev.out _ ((Ext.refl _).alloc _)).mono ?_; rintro e w1 ⟨rfl, hx1⟩)
    go_step3
    have hb0 : w1.heap[w.heap.size]? = some (.cells #[.pointer (some ⟨mp, 0, none⟩), .slice fa pn fc] 103 (0, 0)) := hx1.heap (heap_alloc_new w _)
    have hxw : Ext w w1 := ((Ext.refl _).alloc _).trans hx1
    have Hb0 := Lib.hid hb0
    have Hxw := Lib.hid hxw
    clear hb0 hxw hx1
    go_wp2_with fail
    go_loopw [6, 27] (fun r i wr => ∃ k : Nat, k ≤ pn ∧ i = .int .i64 k ∧ r = .bool true ∧ Ext w1 wr ∧ ∀ (j : Nat) (f : Fair), j < k → fs[j]? = some f → FairOk l fs.length ps j f) (fun _ i _ => pn - (intOf i).toNat)
    case atStart => exact ⟨0, Nat.zero_le _, rfl, rfl, Ext.refl _, fun j y h => by omega⟩
    case round =>
      obtain ⟨k, hk, rfl, rfl, hx, hall⟩ := hrel
      have Hall := Lib.hid hall
      clear hall
      by_cases hlt : k < pn
      · have hxwr : Ext w wr := Hxw.out.trans hx
        obtain ⟨b, off, f, ka, kn, kc, rfl, hfk, hb, c0, c1, c2, _, _, h3⟩ := (Hf.out.ext hxwr).get k hlt
        obtain rfl : kn = 5 := by rw [← h3.1]; exact (fair_bounds Ht.out hfk).1
        obtain ⟨pb, po, rb, ro, rc, rfl, hpb, p0, hrb, hrow⟩ := (Hp.out.ext hxwr).price Hrows.out k hlt
        have hhere := fun W (hW : Ext w W) => here_any mp a n cap l (some ⟨b, off, none⟩) pn fc fs k f W (Hl.out.ext hW) hn10 B (Hm.out.ext hW) (Hf.out.ext hW) (by omega) hfk
        have Hhere := Lib.hid hhere
        have Hrow := Lib.hid hrow
        have H3 := Lib.hid h3
        have Hfk := Lib.hid hfk
        have hlt' : decide ((k : Int) < (pn : Int)) = true := by simp; omega
        obtain ⟨bc, bf⟩ := hx.box Hb0.out
        have Hx := Lib.hid hxwr
        have Hx1 := Lib.hid hx
        clear h3 hfk hrow hhere hxwr hx
        obtain ⟨W0, hW0⟩ : ∃ W0 : World, W0 = wr := ⟨_, rfl⟩
        subst hW0
        go_wp2_with (go_at_call 53; refine (Hhere.out _ Hx.out).mono ?_; rintro e w2 ⟨a2, n2, k2, rfl, hx2, _, hnk2, hkm2, hi2⟩; obtain ⟨rfl⟩ : (hereOf l f.place f.day).length = n2 := hi2.1)
        have hLlen := hereOf_len l f.place f.day
        obtain ⟨L, hL⟩ : ∃ L, hereOf l f.place f.day = L := ⟨_, rfl⟩
        rw [hL] at hi2 hnk2 hLlen
        rw [hL]
        have HL := Lib.hid hL
        have Hi2 := Lib.hid hi2
        have hLn : L.length ≤ 10 := by have := Hnl.out; omega
        have Hx2 := Lib.hid hx2
        clear hL hi2 hx2 hLlen bc bf
        go_loopw [6, 36] (fun r i wi => ∃ g : Nat, g ≤ L.length ∧ i = .int .i64 g ∧ r = .bool true ∧ Ext w2 wi ∧ ∀ (j : Nat) (i : Int) (m : Nat) (o : Offer), j < g → L[j]? = some i → i = m → l[m]? = some o → OffOk f ps k o) (fun _ i _ => L.length - (intOf i).toNat)
        case atStart => exact ⟨0, Nat.zero_le _, rfl, rfl, Ext.refl _, fun j i m o h => by omega⟩
        case round =>
          obtain ⟨g, hg, rfl, rfl, hxi, halli⟩ := hrel
          have Hi := Lib.hid halli
          clear halli
          by_cases hgl : g < L.length
          · obtain ⟨lb, lo', ix, rfl, hixk, hlb, e0⟩ := (Hi2.out.ext hxi).get g hgl
            obtain ⟨j, x, rfl, hxk, hopen⟩ := mem_hereOf (l := l) (f := f) (i := ix) (by rw [HL.out]; exact List.mem_of_getElem? hixk)
            have hjn : j < n := by have := getElem?_lt hxk; have := Hnl.out; omega
            have hxall : Ext w wr := Hx.out.trans (Hx2.out.trans hxi)
            obtain ⟨ob, oo, x', rfl, hxk', hob, d0, d1, d2, d3, d4, d5, d6, d7⟩ := (Hl.out.ext hxall).get j hjn
            obtain rfl : x = x' := by rw [hxk] at hxk'; cases hxk'; rfl
            obtain ⟨gi, ge, hgi, hge, hgi5, hge5, _, hu1, hu2, hlo1, hlo2, hhi, _⟩ := offer_bounds Ho.out hxk
            obtain ⟨q1, q1a, q1b⟩ := Hrow.out gi hgi5
            obtain ⟨q2, q2a, q2b⟩ := Hrow.out ge hge5
            have hgl' : decide ((g : Int) < (L.length : Int)) = true := by simp; omega
            have q1' := (Hx2.out.trans hxi).cell q1
            have q2' := (Hx2.out.trans hxi).cell q2
            obtain ⟨bc, bf⟩ := (Hx1.out.trans (Hx2.out.trans hxi)).box Hb0.out
            have m0 := ((Hm.out.ext hxall)).2.1
            have hmb := block_lt_of_cell m0
            simp only at hmb
            have hj0 : (0 : Int) ≤ (j : Int) := by omega
            have hj1 : (j : Int) < (n : Int) := by omega
            have Hoff : Hid (OffOk f ps k x ↔ x.hi * pr ps k ge ≤ x.units * pr ps k gi) := Lib.hid (by unfold OffOk; rw [hgi, hge, hopen]; simp)
            have Hxk := Lib.hid hxk
            have Hixk := Lib.hid hixk
            have Hopen := Lib.hid hopen
            obtain ⟨pl, xgi, xge, un, lo, hi, fr, to⟩ := x
            simp only at hgi hge d0 d1 d2 d3 d4 d5 d6 d7 hu1 hu2 hlo1 hlo2 hhi
            subst hgi hge
            clear hxk hxk' hixk hopen q1 q2 hxall
            obtain ⟨A, hA⟩ : ∃ A, pr ps k gi = A := ⟨_, rfl⟩
            obtain ⟨B', hB⟩ : ∃ B, pr ps k ge = B := ⟨_, rfl⟩
            rw [hA] at q1a q1b q1'
            rw [hB] at q2a q2b q2'
            rw [hA, hB] at Hoff
            obtain ⟨m1, m2⟩ := mul_bd (M := 50) (N := 1000000) (show 0 ≤ hi by omega) hhi q2a q2b
            obtain ⟨m3, m4⟩ := mul_bd (M := 50) (N := 1000000) (show 0 ≤ un by omega) hu2 q1a q1b
            simp only [Int.reduceMul] at m2 m4
            clear hA hB
            by_cases hcmp : un * A < hi * B'
            · have hcmpB : decide (un * A < hi * B') = true := by simpa using hcmp
              clear hcmp
              go_wp2_with fail
              have hbx : (wr.alloc (.cells #[.int .i64 pl, .int .i64 gi, .int .i64 ge, .int .i64 un, .int .i64 lo, .int .i64 hi, .int .i64 fr, .int .i64 to] 81)).heap[wr.heap.size]? = some (.cells #[.int .i64 pl, .int .i64 gi, .int .i64 ge, .int .i64 un, .int .i64 lo, .int .i64 hi, .int .i64 fr, .int .i64 to] 81 (0, 0)) := heap_alloc_new _ _
              have hx1 : Ext wr (wr.alloc (.cells #[.int .i64 pl, .int .i64 gi, .int .i64 ge, .int .i64 un, .int .i64 lo, .int .i64 hi, .int .i64 fr, .int .i64 to] 81)) := (Ext.refl _).alloc _
              generalize wr.alloc (.cells #[.int .i64 pl, .int .i64 gi, .int .i64 ge, .int .i64 un, .int .i64 lo, .int .i64 hi, .int .i64 fr, .int .i64 to] 81) = W1 at *
              refine wp_region_ext (by kernel_rfl) (by kernel_rfl) (fun f' hf hs => ?_)
              have g3 := fun q => (hx1.trans (hf q)).cell q1'
              have g4 := fun q => (hx1.trans (hf q)).cell q2'
              have g5 := fun q => ((hf q).box hbx).1
              clear hf hs hbx
              repeat (go_big_quiet_step (fail))
              refine wpQuiet_nil ?_
              intro W2 hW2
              clear g3 g4 g5
              have hxW : Ext w2 W2 := hxi.trans (hx1.trans hW2)
              go_wp2_with fail
              try rw [Exit.noGoto_ret]
              go_ret
              refine ⟨ret_bool (PB_false fun h => ?_).symm, Hx.out.trans (Hx2.out.trans hxW)⟩
              have h1 := (h.2.2 k f Hfk.out).1 j _ Hxk.out
              have h2 := Hoff.out.1 h1
              have h3 := of_decide_eq_true hcmpB
              omega
            · have hcmpB : decide (un * A < hi * B') = false := by simpa using hcmp
              clear hcmp
              go_wp2_with fail
              have hbx : (wr.alloc (.cells #[.int .i64 pl, .int .i64 gi, .int .i64 ge, .int .i64 un, .int .i64 lo, .int .i64 hi, .int .i64 fr, .int .i64 to] 81)).heap[wr.heap.size]? = some (.cells #[.int .i64 pl, .int .i64 gi, .int .i64 ge, .int .i64 un, .int .i64 lo, .int .i64 hi, .int .i64 fr, .int .i64 to] 81 (0, 0)) := heap_alloc_new _ _
              have hx1 : Ext wr (wr.alloc (.cells #[.int .i64 pl, .int .i64 gi, .int .i64 ge, .int .i64 un, .int .i64 lo, .int .i64 hi, .int .i64 fr, .int .i64 to] 81)) := (Ext.refl _).alloc _
              generalize wr.alloc (.cells #[.int .i64 pl, .int .i64 gi, .int .i64 ge, .int .i64 un, .int .i64 lo, .int .i64 hi, .int .i64 fr, .int .i64 to] 81) = W1 at *
              refine wp_region_ext (by kernel_rfl) (by kernel_rfl) (fun f' hf hs => ?_)
              have g3 := fun q => (hx1.trans (hf q)).cell q1'
              have g4 := fun q => (hx1.trans (hf q)).cell q2'
              have g5 := fun q => ((hf q).box hbx).1
              clear hf hs hbx
              repeat (go_big_quiet_step (fail))
              refine wpQuiet_nil ?_
              intro W2 hW2
              clear g3 g4 g5
              have hxW : Ext w2 W2 := hxi.trans (hx1.trans hW2)
              go_wp2_with fail
              go_roundw
              case rel => exact ⟨g + 1, by omega, by go_num, rfl, hxW, fun j' i' m o hj' hi' hm ho' => by
                  rcases Nat.lt_or_ge j' g with h | h
                  · exact Hi.out j' i' m o h hi' hm ho'
                  · have e : j' = g := by omega
                    subst e
                    have h1 := Hixk.out
                    rw [hi'] at h1
                    cases h1
                    have e2 : j = m := by omega
                    subst e2
                    have h2 := Hxk.out
                    rw [ho'] at h2
                    cases h2
                    exact Hoff.out.2 (by have := of_decide_eq_false hcmpB; omega)⟩
              case measure => simp [intOf]; omega
          · have hoffs : ∀ (j : Nat) (o : Offer), l[j]? = some o → OffOk f ps k o := fun j o hj => by
              by_cases hop : openB o f = true
              · have hm := hereOf_mem hj hop
                rw [HL.out] at hm
                obtain ⟨q, hq⟩ := List.mem_iff_getElem?.1 hm
                exact Hi.out q _ j o (by have := getElem?_lt hq; omega) hq rfl hj
              · intro h; exact absurd h hop
            have Hoffs := Lib.hid hoffs
            clear hoffs Hi
            have hgn : decide ((g : Int) < (L.length : Int)) = false := by simp; omega
            by_cases hlast : k + 1 < pn
            · have hlast' : ((k : Int) == (pn : Int) - 1) = false := by simp; omega
              have Hxi := Lib.hid hxi
              clear hxi
              go_wp2_with fail
              obtain ⟨Wa, hWa⟩ : ∃ Wa : World, Wa = wr := ⟨_, rfl⟩
              subst hWa
              have hxa : Ext w Wa := Hx.out.trans (Hx2.out.trans Hxi.out)
              have Hxa := Lib.hid hxa
              have c2' := (Hx2.out.trans Hxi.out).cell c2
              have p0' := (Hx2.out.trans Hxi.out).cell p0
              clear c0 c1 c2 p0 hxa
              obtain ⟨pb2, po2, rb2, ro2, rc2, e2, hpb2, p2, hrb2, hrow2⟩ := (Hp.out.ext Hxa.out).price Hrows.out (k + 1) hlast
              cases e2
              have Hrow2 := Lib.hid hrow2
              clear hrow2
              go_loopw [6, 72] (fun r i wi => ∃ q : Nat, q ≤ 5 ∧ i = .int .i64 q ∧ r = .bool true ∧ Ext Wa wi ∧ ∀ (j : Nat), j < q → RoadOk f ps k j) (fun _ i _ => 5 - (intOf i).toNat)
              case atStart => exact ⟨0, Nat.zero_le _, rfl, rfl, Ext.refl _, fun j h => by omega⟩
              case round =>
                obtain ⟨q, hq, rfl, rfl, hxq, hallq⟩ := hrel
                have Hq := Lib.hid (And.intro hallq hxq)
                have c2q := hxq.cell c2'
                have p0q := hxq.cell p0'
                have p2q := hxq.cell p2
                have hbq := (Hx1.out.trans (Hx2.out.trans (Hxi.out.trans hxq))).box Hb0.out
                obtain ⟨bq, bfq⟩ := hbq
                clear hallq
                by_cases hq5 : q < 5
                · obtain ⟨sb, so, sp, rfl, hsk, hsb, s0, s1⟩ := (H3.out.ext ((Hx2.out.trans Hxi.out).trans hxq)).get q hq5
                  have hsp := (fair_bounds Ht.out Hfk.out).2.2.2.2.2 q sp hsk
                  obtain ⟨q1, q1a, q1b⟩ := Hrow.out q hq5
                  obtain ⟨q2, q2a, q2b⟩ := Hrow2.out q hq5
                  have q1' := hxq.cell ((Hx2.out.trans Hxi.out).cell q1)
                  have q2' := hxq.cell q2
                  have hq5' : decide ((q : Int) < 5) = true := by simp; omega
                  have Hroad : Hid (RoadOk f ps k q ↔ pr ps (k + 1) q * sp.hi ≤ 1000 * pr ps k q) := Lib.hid (by unfold RoadOk; simp [List.getD, hsk])
                  obtain ⟨slo, shi⟩ := sp
                  simp only at s0 s1 hsp Hroad
                  obtain ⟨A, hA⟩ : ∃ A, pr ps k q = A := ⟨_, rfl⟩
                  obtain ⟨B', hB⟩ : ∃ B, pr ps (k + 1) q = B := ⟨_, rfl⟩
                  rw [hA] at q1a q1b q1'
                  rw [hB] at q2a q2b q2'
                  rw [hA, hB] at Hroad
                  obtain ⟨m1, m2⟩ := mul_bd (M := 1000000) (N := 1000) q2a q2b (show 0 ≤ shi by omega) hsp.2.2
                  simp only [Int.reduceMul] at m2
                  obtain ⟨hs1, hs2, hs3⟩ := hsp
                  clear hA hB hsk q1 q2 hxq
                  by_cases hcmp : 1000 * A < B' * shi
                  all_goals
                    first
                      | (have hcmpB : decide (1000 * A < B' * shi) = true := by simpa using hcmp)
                      | (have hcmpB : decide (1000 * A < B' * shi) = false := by simpa using hcmp)
                    clear hcmp
                    have hk1 : IntKind.i64.wrap ((k : Int) + 1) = (k : Int) + 1 := IntWalk.i64_in _ (by omega)
                    have hk2 : 0 ≤ (k : Int) + 1 := by omega
                    have hk3 : ((k : Int) + 1).toNat = k + 1 := by omega
                    go_wp2_with fail
                    go_quiet (fail)
                    go_wp2_with fail
                  · try rw [Exit.noGoto_ret]
                    go_ret
                    refine ⟨ret_bool (PB_false fun h => ?_).symm, (Hxa.out.trans Hq.out.2).drewN _⟩
                    have h1 := Hroad.out.1 ((h.2.2 k f Hfk.out).2 (by have := Hfl.out; omega) q hq5)
                    have h3 := of_decide_eq_true hcmpB
                    omega
                  · go_roundw
                    case rel => exact ⟨q + 1, by omega, by go_num, rfl, Hq.out.2.drewN _, fun j hj => by
                        rcases Nat.lt_or_ge j q with h | h
                        · exact Hq.out.1 j h
                        · have e : j = q := by omega
                          subst e
                          exact Hroad.out.2 (by have := of_decide_eq_false hcmpB; omega)⟩
                    case measure => simp [intOf]; omega
                · have hq5' : decide ((q : Int) < 5) = false := by simp; omega
                  go_wp2_with fail
                  go_roundw
                  case rel => exact ⟨k + 1, by omega, by go_num, rfl, Hx1.out.trans (Hx2.out.trans (Hxi.out.trans Hq.out.2)), fun j f' hj hf' => by
                      rcases Nat.lt_or_ge j k with h | h
                      · exact Hall.out j f' h hf'
                      · have e : j = k := by omega
                        subst e
                        have := Hfk.out
                        rw [hf'] at this
                        cases this
                        exact ⟨Hoffs.out, fun _ g' hg' => Hq.out.1 g' (by omega)⟩⟩
                  case measure => simp [intOf]; omega
            · have hlast' : ((k : Int) == (pn : Int) - 1) = true := by simp; omega
              have Hxi := Lib.hid hxi
              clear hxi
              go_wp2_with fail
              try rw [Exit.noGoto_ret]
              go_ret
              refine ⟨ret_bool (PB_true ?_).symm, Hx.out.trans (Hx2.out.trans Hxi.out)⟩
              refine ⟨by rw [Hpl.out, Hfl.out], Hrows.out, fun j f' hf' => ?_⟩
              rcases Nat.lt_or_ge j k with h | h
              · exact Hall.out j f' h hf'
              · have e : j = k := by have := getElem?_lt hf'; have := Hfl.out; omega
                subst e
                have := Hfk.out
                rw [hf'] at this
                cases this
                exact ⟨Hoffs.out, fun h' => absurd h' (by have := Hfl.out; omega)⟩
      · have hkn : decide ((k : Int) < (pn : Int)) = false := by simp; omega
        have Hx := Lib.hid hx
        clear hx
        go_wp2_with fail
        try rw [Exit.noGoto_ret]
        go_ret
        refine ⟨ret_bool (PB_true ?_).symm, Hxw.out.trans Hx.out⟩
        exact ⟨by rw [Hpl.out, Hfl.out], Hrows.out, fun j f' hf' => Hall.out j f' (by have := getElem?_lt hf'; have := Hfl.out; omega) hf'⟩
end Go.Proofs.Ytkbhmajcddmhnaa
