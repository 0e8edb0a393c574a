/- The reference of layer 2: Herd, Check: what they say yes to is a valid herd. -/
import Derived.Test.YtcoelhpmkhimpaaRefH
import Derived.Test.YtcoelhpmkhimpaaSeqQ
import Derived.Test.YtcoelhpmkhimpaaFrom
import Derived.Test.YtcoelhpmkhimpaaFromB
namespace Go.Proofs.Ytcoelhpmkhimpaa
open Go.RowKit
set_option linter.unusedVariables false
set_option linter.unusedSimpArgs false
def Yes (l : List Animal) (w : World) (e : Ending) (w' : World) : Prop := ∃ b, e = .returned (.bool b) ∧ (b = true → HerdOk l) ∧ Ext w w'
theorem Yes.no {l : List Animal} {w w' : World} (h : Ext w w') : Yes l w (.returned (.bool false)) w' := ⟨false, rfl, fun e => Bool.noConfusion e, h⟩
theorem atOf_some {l : List Animal} {id : Int} {i : Nat} (h : atOf l id = i) : placeOf l id = some i := by
  unfold atOf at h
  cases e : placeOf l id with
  | none =>
    rw [e] at h
    simp only at h
    omega
  | some j =>
    rw [e] at h
    simp only at h
    rw [show j = i by omega]
theorem atOf_pos {l : List Animal} {id : Int} (h : ¬atOf l id < 0) : ∃ j, placeOf l id = some j := by
  unfold atOf at h
  cases e : placeOf l id with
  | none =>
    rw [e] at h
    simp only at h
    omega
  | some j => exact ⟨j, rfl⟩
theorem mom_root {l : List Animal} {k : Nat} {x : Animal} (h : l[k]? = some x) (e : x.mother = -1) : mom l k = none := by
  unfold mom
  rw [h]
  simp only
  rw [if_pos e]
theorem mom_some {l : List Animal} {k m : Nat} {x : Animal} (h : l[k]? = some x) (e : x.mother ≠ -1) (hp : placeOf l x.mother = some m) : mom l k = some m := by
  unfold mom
  rw [h]
  simp only
  rw [if_neg e, hp]
theorem atOf_is {l : List Animal} {id : Int} {j : Nat} (h : placeOf l id = some j) : atOf l id = j := by
  unfold atOf
  rw [h]
set_option maxRecDepth 100000 in
set_option maxHeartbeats 4000000 in
theorem herdTail {w W2 : World} {a : Option Addr} {n c : Nat} {l : List Animal} (hx : Ext w W2) (hl : ∀ W, Ext w W → AnimalsAt W a n l) (hn : n ≤ 16) (hall : ∀ (i : Nat) (x : Animal), l[i]? = some x → AnimalOk l i x) {u1 u2 u3 u4 u5 u6 u7 u8 u9 u10 u11 u12 u13 u14 u15 u16 u17 u18 u19 u20 u21 u22 u23 u24 u25 u26 u27 u28 u29 u30 u31 u32 u33 u34 u35 u36 u37 u38 u39 u40 u41 u42 u43 u44 u45 u46 u47 u48 u49 u50 u51 u52 u53 u54 u55 u56 u57 u58 u59 u60 u61 u62 u63 u64 u65 u66 u67 u68 u69 u70 u71 u72 u73 u74 u75 u76 u77 u78 u79 u80 u81 u82 u83 u84 u85 u86 u87 u88 u89 u90 u91 u92 u93 u94 u95 u96 u97 u98 u99 u100 u101 u102 u103 u104 u105 u106 u107 u108 u109 u110 u111 u112 u113 u114 u115 u116 u117 u118 u119 u120 u121 : Value} :
    (restFrom Try.f61 19).wp Try.prog (bodyPost Try.prog Try.f61 (Yes l w)) ⟨#[.slice a n c, u1, u2, u3, u4, u5, u6, u7, u8, u9, u10, u11, u12, u13, u14, u15, u16, u17, u18, u19, u20, u21, u22, u23, u24, u25, u26, u27, u28, u29, u30, u31, u32, u33, u34, u35, u36, u37, u38, u39, u40, u41, u42, u43, u44, u45, u46, u47, u48, u49, u50, u51, u52, u53, u54, u55, u56, u57, u58, u59, u60, u61, u62, u63, u64, u65, u66, u67, u68, u69, u70, u71, u72, u73, u74, u75, u76, u77, u78, u79, u80, u81, u82, u83, u84, u85, u86, u87, u88, u89, u90, u91, u92, u93, u94, u95, u96, u97, u98, u99, u100, u101, u102, u103, u104, u105, u106, u107, u108, u109, u110, u111, u112, u113, u114, u115, u116, u117, u118, u119, u120, u121], []⟩ W2 := by
  have hll := (hl w (Ext.refl w)).1
  have hat := fun id W (hW : Ext w W) => at2_any a n c l id W (hl W hW) (by omega)
  have hmo : ∀ (k : Nat) (x : Animal), l[k]? = some x → x.mother ≠ -1 → ∃ m, placeOf l x.mother = some m ∧ m < n := fun k x hk hm => by
    obtain ⟨j, hj⟩ := (hall k x hk).dam.resolve_left hm
    have := placeOf_lt hj
    exact ⟨j, hj, by omega⟩
  have Hx := Lib.hid hx
  have Hl := Lib.hid hl
  have Hall := Lib.hid hall
  have Hat := Lib.hid hat
  have Hmo := Lib.hid hmo
  clear hx hl hall hat hmo
  conv => arg 2; whnf
  dsimp only
  go_upto_region 20 with fail
  go_loopw [7] (fun i wr => ∃ k : Nat, i = .int .i64 k ∧ k ≤ n ∧ Ext w wr ∧ ∀ j, j < k → ∃ L, Line l j L) (fun i _ => n - (intOf i).toNat)
  case atStart => exact ⟨0, rfl, Nat.zero_le _, Hx.out, fun j hj => absurd hj (Nat.not_lt_zero _)⟩
  case round =>
    obtain ⟨i, rfl, hi, hxw, hb⟩ := hrel
    by_cases hlt : i < n
    · have hltB : decide ((i : Int) < (n : Int)) = true := by simp; omega
      have Hxw := Lib.hid hxw
      have Hb := Lib.hid hb
      clear hxw hb
      go_upto_region 23 with fail
      go_loopw [8, 9] (fun k s wr => ∃ (kk ss : Nat), k = .int .i64 kk ∧ s = .int .i64 ss ∧ kk < n ∧ ss ≤ n ∧ Ext w wr ∧ ((∃ L, Line l kk L) → ∃ L, Line l i L)) (fun k s _ => n + 1 - (intOf s).toNat)
      case atStart => exact ⟨i, 0, rfl, rfl, hlt, Nat.zero_le _, Hxw.out, fun h => h⟩
      case round =>
        obtain ⟨k, s, rfl, rfl, hk, hs, hxr, hch⟩ := hrel
        obtain ⟨b, off, x, ka, kn, kc, rfl, hxk, hbs, c0, c1, c2, c3, c4, q1, q2, hm⟩ := (Hl.out _ hxr).get k hk
        clear hm
        by_cases hmm : x.mother = -1
        · have hB : (x.mother != -1) = false := by rw [hmm]; rfl
          have hB' : (x.mother == -1) = true := by rw [hmm]; rfl
          have hfin := hch ⟨_, .root (mom_root hxk hmm)⟩
          have hb' : ∀ j, j < i + 1 → ∃ L, Line l j L := fun j hj => by
            by_cases e : j = i
            · subst e
              exact hfin
            · exact Hb.out j (by omega)
          clear hch hfin hmm hxk
          have Hxr := Lib.hid hxr
          have Hb' := Lib.hid hb'
          clear hxr hb'
          go_wp2_with fail
          go_roundw
          case rel => exact ⟨i + 1, by go_num, by omega, Hxr.out, Hb'.out⟩
          case measure => simp [intOf]; omega
        · have hB : (x.mother != -1) = true := by simpa using hmm
          have hB' : (x.mother == -1) = false := by simpa using hmm
          obtain ⟨m, hpm, hmn⟩ := Hmo.out k x hxk hmm
          have hat1 := fun W (hW : Ext w W) => Hat.out x.mother W hW
          rw [atOf_is hpm] at hat1
          have hch' : (∃ L, Line l m L) → ∃ L, Line l i L := fun ⟨L, hL⟩ => hch ⟨_, .step (mom_some hxk hmm hpm) hL⟩
          clear hch hmm hxk hpm
          have Hxr := Lib.hid hxr
          have Hch' := Lib.hid hch'
          have Hat1 := Lib.hid hat1
          clear hxr hch' hat1
          by_cases hst : n < s + 1
          · have hsB : decide ((n : Int) < (s : Int) + 1) = true := by simp; omega
            have hsB' : decide ((n : Int) < ((s + 1 : Nat) : Int)) = true := by simp; omega
            clear hst
            go_wp2_with (go_at_call 24; refine (Hat1.out _ Hxr.out).mono ?_; rintro e v1 ⟨rfl, hx1⟩)
            go_ret
            exact Yes.no (Hxr.out.trans hx1)
          · have hsB : decide ((n : Int) < (s : Int) + 1) = false := by simp; omega
            have hsB' : decide ((n : Int) ≤ (s : Int)) = false := by simp; omega
            clear hst
            go_wp2_with (go_at_call 24; refine (Hat1.out _ Hxr.out).mono ?_; rintro e v1 ⟨rfl, hx1⟩)
            go_roundw
            case rel => exact ⟨m, s + 1, rfl, by go_num, hmn, by simp at hsB; omega, Hxr.out.trans hx1, Hch'.out⟩
            case measure => simp [intOf]; simp at hsB; omega
    · have hltB : decide ((i : Int) < (n : Int)) = false := by simp; omega
      have hok : HerdOk l := ⟨by omega, Hall.out, fun j hj => hb j (by omega)⟩
      clear hb
      have Hxw := Lib.hid hxw
      have Hok := Lib.hid hok
      clear hxw hok
      go_wp2_with fail
      go_ret
      exact ⟨true, rfl, fun _ => Hok.out, Hxw.out⟩
theorem MarkIs.of {l : List Mark} {k : Nat} {x : Mark} (h : l[k]? = some x) (h1 : 0 ≤ x.spot ∧ x.spot ≤ 7) (h2 : 1 ≤ x.sign ∧ x.sign ≤ 20) (h3 : ∀ j y, j < k → l[j]? = some y → y.spot ≠ x.spot) : MarkIs l k := fun m hm => by
  rw [h] at hm
  cases hm
  exact ⟨h1, h2, h3⟩
set_option maxRecDepth 100000 in
set_option maxHeartbeats 4000000 in
theorem herdMarks {Q : Exit → Act → World → Prop} {w V0 : World} {p4 : Nat} {id mo b0 b1 : Int} {ka : Option Addr} {kn kc : Nat} {ms : List Mark}
    (hx : Ext w V0) (hp : V0.heap[p4]? = some (.cells #[.int .i64 id, .int .i64 mo, .int .i64 b0, .int .i64 b1, .slice ka kn kc] 69 (0, 0))) (hm : MarksAt V0 ka kn ms) (hk : kn ≤ 1000000000) {u0 u1 u2 u3 u5 u6 u7 u8 u9 u10 u11 u12 u13 u14 u15 u16 u17 u18 u19 u20 u21 u22 u23 u24 u25 u26 u27 u28 u29 u30 u31 u32 u33 u34 u35 u36 u37 u38 u39 u40 u41 u42 u43 u44 u45 u46 u47 u48 u49 u50 u51 u52 u53 u54 u55 u56 u57 u58 u59 u60 u61 u62 u63 u64 u65 u66 u67 u68 u69 u70 u71 u72 u73 u74 u75 u76 u77 u78 u79 u80 u81 u82 u83 u84 u85 u86 u87 u88 u89 u90 u91 u92 u93 u94 u95 u96 u97 u98 u99 u100 u101 u102 u103 u104 u105 u106 u107 u108 u109 u110 u111 u112 u113 u114 u115 u116 u117 u118 u119 u120 u121 : Value}
    (hnext : ∀ W', Ext w W' → MarksOk ms → ∀ {v2 v5 v6 v53 v54 v55 v56 v57 v58 v59 v60 v61 v62 v63 v64 v65 v66 v67 v68 v69 v70 v71 v72 v73 v74 v75 v76 v77 v78 v79 v80 v81 v82 v83 v84 v85 v86 v87 v88 v89 v90 v91 v92 v93 v94 v95 : Value}, Q .normal ⟨#[u0, u1, v2, u3, .pointer (some ⟨p4, 0, none⟩), v5, v6, u7, u8, u9, u10, u11, u12, u13, u14, u15, u16, u17, u18, u19, u20, u21, u22, u23, u24, u25, u26, u27, u28, u29, u30, u31, u32, u33, u34, u35, u36, u37, u38, u39, u40, u41, u42, u43, u44, u45, u46, u47, u48, u49, u50, u51, u52, v53, v54, v55, v56, v57, v58, v59, v60, v61, v62, v63, v64, v65, v66, v67, v68, v69, v70, v71, v72, v73, v74, v75, v76, v77, v78, v79, v80, v81, v82, v83, v84, v85, v86, v87, v88, v89, v90, v91, v92, v93, v94, v95, u96, u97, u98, u99, u100, u101, u102, u103, u104, u105, u106, u107, u108, u109, u110, u111, u112, u113, u114, u115, u116, u117, u118, u119, u120, u121], []⟩ W')
    (hret : ∀ (a' : Act) (w' : World), a'.defers = [] → a'.tmps.getD 2 undef = .bool false → Ext w w' → Q .ret a' w') :
    (restFrom Try.f61 9).wp Try.prog Q ⟨#[u0, u1, u2, u3, .pointer (some ⟨p4, 0, none⟩), u5, u6, u7, u8, u9, u10, u11, u12, u13, u14, u15, u16, u17, u18, u19, u20, u21, u22, u23, u24, u25, u26, u27, u28, u29, u30, u31, u32, u33, u34, u35, u36, u37, u38, u39, u40, u41, u42, u43, u44, u45, u46, u47, u48, u49, u50, u51, u52, u53, u54, u55, u56, u57, u58, u59, u60, u61, u62, u63, u64, u65, u66, u67, u68, u69, u70, u71, u72, u73, u74, u75, u76, u77, u78, u79, u80, u81, u82, u83, u84, u85, u86, u87, u88, u89, u90, u91, u92, u93, u94, u95, u96, u97, u98, u99, u100, u101, u102, u103, u104, u105, u106, u107, u108, u109, u110, u111, u112, u113, u114, u115, u116, u117, u118, u119, u120, u121], []⟩ V0 := by
  dsimp only at hnext
  have hml := hm.1
  have hwi := within2_any
  have Hx := Lib.hid hx
  have Hp := Lib.hid hp
  have Hm := Lib.hid hm
  have Hnext := Lib.hid hnext
  have Hret := Lib.hid hret
  have Hwi := Lib.hid hwi
  clear hx hp hm hnext hret hwi
  conv => arg 2; whnf
  dsimp only
  go_upto_region 10 with fail
  go_loopw [5] (fun i W => ∃ k : Nat, i = .int .i64 k ∧ k ≤ kn ∧ Ext V0 W ∧ ∀ j, j < k → MarkIs ms j) (fun i _ => kn - (intOf i).toNat)
  case atStart => exact ⟨0, rfl, Nat.zero_le _, Ext.refl _, fun j hj => absurd hj (Nat.not_lt_zero _)⟩
  case round =>
    obtain ⟨k, rfl, hkk, hxr, hb⟩ := hrel
    have hpr := hxr.heap Hp.out
    obtain ⟨zp, _⟩ := (Ext.refl _).box hpr
    clear hpr
    by_cases hlt : k < kn
    · have hltB : decide ((k : Int) < (kn : Int)) = true := by simp; omega
      obtain ⟨b, off, x, rfl, hxk, hbs, c0, c1⟩ := (Hm.out.ext hxr).get k hlt
      have hfin := fun (h1 : inB x.spot 0 7 = true) (h2 : inB x.sign 1 20 = true) (h3 : ∀ j y, j < k → ms[j]? = some y → y.spot ≠ x.spot) => MarkIs.of hxk (by simpa [inB] using h1) (by simpa [inB] using h2) h3
      have Hxr := Lib.hid hxr
      have Hb := Lib.hid hb
      have Hfin := Lib.hid hfin
      clear hxr hb hfin
      cases hS1 : inB x.spot 0 7 with
      | false =>
        go_upto_region 12 with fail
        refine wp_region_seq (fun f hf hs => ?_)
        have f0 := fun q => ((hf q).box (Hxr.out.heap Hp.out)).1
        have f1 := fun q => (hf q).cell c0
        have f2 := fun q => (hf q).cell c1
        have Hf := Lib.hid hf
        have HS := Lib.hid hs
        clear hf hs
        repeat (go_big_quiet_step ((go_at_call 105; exact Calls.ext_of (Hf.out _) HS.out (Hwi.out _ _ _ _))))
        refine wpQuiet_nil ?_
        intro W1 hW1
        clear f0 f1 f2
        have hx1 := Hxr.out.trans hW1
        clear hW1
        have hxw := Hx.out.trans hx1
        clear hx1
        have Hxw := Lib.hid hxw
        clear hxw
        go_wp2_with fail
        exact Hret.out _ _ rfl rfl Hxw.out
      | true =>
        cases hS2 : inB x.sign 1 20 with
        | false =>
          go_upto_region 12 with fail
          refine wp_region_seq (fun f hf hs => ?_)
          have f0 := fun q => ((hf q).box (Hxr.out.heap Hp.out)).1
          have f1 := fun q => (hf q).cell c0
          have f2 := fun q => (hf q).cell c1
          have Hf := Lib.hid hf
          have HS := Lib.hid hs
          clear hf hs
          repeat (go_big_quiet_step ((go_at_call 105; exact Calls.ext_of (Hf.out _) HS.out (Hwi.out _ _ _ _))))
          refine wpQuiet_nil ?_
          intro W1 hW1
          clear f0 f1 f2
          have hx1 := Hxr.out.trans hW1
          clear hW1
          have hxw := Hx.out.trans hx1
          clear hx1
          have Hxw := Lib.hid hxw
          clear hxw
          go_wp2_with fail
          exact Hret.out _ _ rfl rfl Hxw.out
        | true =>
          go_upto_region 12 with fail
          refine wp_region_seq (fun f hf hs => ?_)
          have f0 := fun q => ((hf q).box (Hxr.out.heap Hp.out)).1
          have f1 := fun q => (hf q).cell c0
          have f2 := fun q => (hf q).cell c1
          have Hf := Lib.hid hf
          have HS := Lib.hid hs
          clear hf hs
          repeat (go_big_quiet_step ((go_at_call 105; exact Calls.ext_of (Hf.out _) HS.out (Hwi.out _ _ _ _))))
          refine wpQuiet_nil ?_
          intro W1 hW1
          clear f0 f1 f2
          have hx1 := Hxr.out.trans hW1
          clear hW1
          have hfin := Hfin.out hS1 hS2
          clear hS1 hS2 Hfin zp
          have Hx1 := Lib.hid hx1
          have Hfin := Lib.hid hfin
          clear hx1 hfin
          go_upto_region 15 with fail
          go_loopw [6] (fun i W => ∃ j : Nat, i = .int .i64 j ∧ j ≤ k ∧ Ext V0 W ∧ ∀ i y, i < j → ms[i]? = some y → y.spot ≠ x.spot) (fun i _ => k - (intOf i).toNat)
          case atStart => exact ⟨0, rfl, Nat.zero_le _, Hx1.out, fun j y hj => absurd hj (Nat.not_lt_zero _)⟩
          case round =>
            obtain ⟨j, rfl, hj, hxj, hbj⟩ := hrel
            by_cases hlj : j < k
            · have hljB : decide ((j : Int) < (k : Int)) = true := by simp; omega
              obtain ⟨b5, o5, y, e5, hyj, _, d0, _⟩ := (Hm.out.ext hxj).get j (by omega)
              cases e5
              obtain ⟨b6, o6, x6, e6, hx6, _, d1, _⟩ := (Hm.out.ext hxj).get k hlt
              cases e6
              rw [hxk] at hx6
              cases hx6
              have hjn : decide ((j : Int) < (kn : Int)) = true := by simp; omega
              have hpj := hxj.heap Hp.out
              by_cases he : y.spot = x.spot
              · have heB : (y.spot == x.spot) = true := by simpa using he
                clear he hbj hyj
                have Hxj := Lib.hid hxj
                have Hpj := Lib.hid hpj
                have D0 := Lib.hid d0
                have D1 := Lib.hid d1
                clear hxj hpj d0 d1
                go_upto_region 17 with fail
                refine wp_region_ext (by kernel_rfl) (by kernel_rfl) (fun f hf hs => ?_)
                have f0 := fun q => ((hf q).box Hpj.out).1
                have f1 := fun q => (hf q).cell D0.out
                have f2 := fun q => (hf q).cell D1.out
                clear hf hs
                repeat (go_big_quiet_step (fail))
                refine wpQuiet_nil ?_
                intro W2 hW2
                clear f0 f1 f2
                have hx1 := Hxj.out.trans hW2
                clear hW2
                have hxw := Hx.out.trans hx1
                clear hx1
                have Hxw := Lib.hid hxw
                clear hxw
                go_wp2_with fail
                exact Hret.out _ _ rfl rfl Hxw.out
              · have heB : (y.spot == x.spot) = false := by simpa using he
                have hb' : ∀ i z, i < j + 1 → ms[i]? = some z → z.spot ≠ x.spot := fun i z hi hz => by
                  by_cases e : i = j
                  · subst e
                    rw [hyj] at hz
                    cases hz
                    exact he
                  · exact hbj i z (by omega) hz
                clear he hbj hyj
                have Hxj := Lib.hid hxj
                have Hpj := Lib.hid hpj
                have D0 := Lib.hid d0
                have D1 := Lib.hid d1
                have Hb' := Lib.hid hb'
                clear hxj hpj d0 d1 hb'
                go_upto_region 17 with fail
                refine wp_region_ext (by kernel_rfl) (by kernel_rfl) (fun f hf hs => ?_)
                have f0 := fun q => ((hf q).box Hpj.out).1
                have f1 := fun q => (hf q).cell D0.out
                have f2 := fun q => (hf q).cell D1.out
                clear hf hs
                repeat (go_big_quiet_step (fail))
                refine wpQuiet_nil ?_
                intro W2 hW2
                clear f0 f1 f2
                have hx1 := Hxj.out.trans hW2
                clear hW2
                have Hx1 := Lib.hid hx1
                clear hx1
                go_wp2_with fail
                go_roundw
                case rel => exact ⟨j + 1, by go_num, by omega, Hx1.out, Hb'.out⟩
                case measure => simp [intOf]; omega
            · have hljB : decide ((j : Int) < (k : Int)) = false := by simp; omega
              obtain rfl : j = k := by omega
              have hk1 := Hfin.out hbj
              have hb' : ∀ i, i < j + 1 → MarkIs ms i := fun i hi => by
                by_cases e : i = j
                · subst e
                  exact hk1
                · exact Hb.out i (by omega)
              clear hk1 hbj
              have Hxj := Lib.hid hxj
              have Hb' := Lib.hid hb'
              clear hxj hb'
              go_wp2_with fail
              go_roundw
              case rel => exact ⟨j + 1, by go_num, by omega, Hxj.out, Hb'.out⟩
              case measure => simp [intOf]; omega
    · have hltB : decide ((k : Int) < (kn : Int)) = false := by simp; omega
      have hok : MarksOk ms := fun j m hj => hb j (by have := (List.getElem?_eq_some_iff.1 hj).1; omega) m hj
      clear hb
      have hxw := Hx.out.trans hxr
      clear hxr
      have Hxw := Lib.hid hxw
      have Hok := Lib.hid hok
      clear hxw hok
      go_wp2_with fail
      exact Hnext.out _ Hxw.out Hok.out
theorem AnimalOk.of {l : List Animal} {i : Nat} {x : Animal} (h1 : inB x.id 0 9999 = true) (h2 : atOf l x.id = i) (h3 : x.mother = -1 ∨ ¬atOf l x.mother < 0) (h4 : spanOk x.born (-100000) 100000 = true) (h5 : MarksOk x.marks) : AnimalOk l i x := by
  refine ⟨by simpa [inB] using h1, atOf_some h2, h3.imp (fun h => h) fun h => atOf_pos h, ?_, h5⟩
  simp only [spanOk, Bool.and_eq_true, decide_eq_true_eq] at h4
  omega
set_option maxRecDepth 100000 in
set_option maxHeartbeats 4000000 in
theorem herd2_any (a : Option Addr) (n c : Nat) (l : List Animal) (w : World) (hl : AnimalsAt w a n l) (hn : n ≤ 1000000000) (hmk : ∀ x ∈ l, x.marks.length ≤ 1000000000) : Calls Try.prog 61 #[.slice a n c] w (Yes l w) := by
  have hll := hl.1
  have hla := fun W (hW : Ext w W) => hl.ext hW
  by_cases h16 : 16 < n
  · have hB : decide (16 < (n : Int)) = true := by simp; omega
    clear hla hl
    go_enter Try.func61, Try.ntmps61
    go_wp2_with fail
    go_ret
    exact Yes.no (Ext.refl _)
  · have hB : decide (16 < (n : Int)) = false := by simp; omega
    have hwi := within2_any
    have hor := ordered2_any
    have hat := fun id W (hW : Ext w W) => at2_any a n c l id W (hl.ext hW) hn
    have Hla := Lib.hid hla
    have Hmk := Lib.hid hmk
    have Hwi := Lib.hid hwi
    have Hor := Lib.hid hor
    have Hat := Lib.hid hat
    clear hla hmk hwi hor hat
    clear hl
    go_enter Try.func61, Try.ntmps61
    go_upto_region 4 with fail
    go_loopw [3] (fun i wr => ∃ k : Nat, i = .int .i64 k ∧ k ≤ n ∧ Ext w wr ∧ ∀ j x, j < k → l[j]? = some x → AnimalOk l j x) (fun i _ => n - (intOf i).toNat)
    case atStart => exact ⟨0, rfl, Nat.zero_le _, Ext.refl _, fun j x hj => absurd hj (Nat.not_lt_zero _)⟩
    case round =>
      obtain ⟨i, rfl, hi, hxw, hb⟩ := hrel
      by_cases hlt : i < n
      · have hltB : decide ((i : Int) < (n : Int)) = true := by simp; omega
        obtain ⟨b, off, x, ka, kn, kc, rfl, hxk, hbs, c0, c1, c2, c3, c4, q1, q2, hm⟩ := (Hla.out _ hxw).get i hlt
        have hml := hm.1
        have hkn := Hmk.out x (List.mem_of_getElem? hxk)
        rw [hml] at hkn
        have hfin := fun h1 h2 h3 h4 h5 => @AnimalOk.of l i x h1 h2 h3 h4 h5
        obtain ⟨id, mo, ⟨b0, b1⟩, ms⟩ := x
        simp only at c0 c1 c2 c3 hm hml hfin
        clear hml
        have hbnd := hbs
        have Hxw := Lib.hid hxw
        have Hb := Lib.hid hb
        have Hfin := Lib.hid hfin
        have Hm := Lib.hid hm
        have Hxk := Lib.hid hxk
        clear hxw hb hfin hm hxk
        go_upto_region 7 with fail
        have hp4 := heap_alloc_new wr (.cells #[.int .i64 id, .int .i64 mo, .int .i64 b0, .int .i64 b1, .slice ka kn kc] 69)
        have hx4 : Ext wr (wr.alloc (.cells #[.int .i64 id, .int .i64 mo, .int .i64 b0, .int .i64 b1, .slice ka kn kc] 69)) := (Ext.refl wr).alloc _
        generalize wr.alloc (.cells #[.int .i64 id, .int .i64 mo, .int .i64 b0, .int .i64 b1, .slice ka kn kc] 69) = W4 at *
        generalize wr.heap.size = p4 at *
        have hm4 := Hm.out.ext hx4
        have hxw4 := Hxw.out.trans hx4
        clear hx4 Hxw Hm c0 c1 c2 c3 c4 hbnd hbs
        have Hp4 := Lib.hid hp4
        have Hm4 := Lib.hid hm4
        have Hxw4 := Lib.hid hxw4
        clear hp4 hm4 hxw4
        cases h1 : inB id 0 9999 with
        | false =>
          refine wp_region_seq (fun f hf hs => ?_)
          have f0 := fun q => ((hf q).box Hp4.out).1
          have Hf := Lib.hid hf
          have HS := Lib.hid hs
          clear hf hs
          repeat (go_big_quiet_step ((first | (go_at_call 105; exact Calls.ext_of (Hf.out _) HS.out (Hwi.out _ _ _ _)) | (go_at_call 24; exact Calls.ext_of (Hf.out _) HS.out (Hat.out _ _ (Hxw4.out.trans (Hf.out _)))) | (go_at_call 106; exact Calls.ext_of (Hf.out _) HS.out (Hor.out ⟨_, _⟩ _ _ _)))))
          refine wpQuiet_nil ?_
          intro W5 hW5
          clear f0
          have hxw := Hxw4.out.trans hW5
          have Hxw := Lib.hid hxw
          clear hxw
          clear hW5
          go_wp2_with fail
          go_ret
          exact Yes.no Hxw.out
        | true =>
          by_cases h2 : atOf l id = (i : Int)
          · have h2B : (atOf l id != (i : Int)) = false := by simpa using h2
            have h2C : (atOf l id == (i : Int)) = true := by simpa using h2
            by_cases h3 : mo = -1
            · have h3B : (mo != -1) = false := by simpa using h3
              have h3C : (mo == -1) = true := by simpa using h3
              clear h2B
              cases h4 : spanOk ⟨b0, b1⟩ (-100000) 100000 with
              | false =>
                refine wp_region_seq (fun f hf hs => ?_)
                have f0 := fun q => ((hf q).box Hp4.out).1
                have Hf := Lib.hid hf
                have HS := Lib.hid hs
                clear hf hs
                repeat (go_big_quiet_step ((first | (go_at_call 105; exact Calls.ext_of (Hf.out _) HS.out (Hwi.out _ _ _ _)) | (go_at_call 24; exact Calls.ext_of (Hf.out _) HS.out (Hat.out _ _ (Hxw4.out.trans (Hf.out _)))) | (go_at_call 106; exact Calls.ext_of (Hf.out _) HS.out (Hor.out ⟨_, _⟩ _ _ _)))))
                refine wpQuiet_nil ?_
                intro W5 hW5
                clear f0
                have hxw := Hxw4.out.trans hW5
                have Hxw := Lib.hid hxw
                clear hxw
                clear hW5
                go_wp2_with fail
                go_ret
                exact Yes.no Hxw.out
              | true =>
                refine wp_region_seq (fun f hf hs => ?_)
                have f0 := fun q => ((hf q).box Hp4.out).1
                have Hf := Lib.hid hf
                have HS := Lib.hid hs
                clear hf hs
                repeat (go_big_quiet_step ((first | (go_at_call 105; exact Calls.ext_of (Hf.out _) HS.out (Hwi.out _ _ _ _)) | (go_at_call 24; exact Calls.ext_of (Hf.out _) HS.out (Hat.out _ _ (Hxw4.out.trans (Hf.out _)))) | (go_at_call 106; exact Calls.ext_of (Hf.out _) HS.out (Hor.out ⟨_, _⟩ _ _ _)))))
                refine wpQuiet_nil ?_
                intro W5 hW5
                clear f0
                have hxw := Hxw4.out.trans hW5
                have hp5 := hW5.heap Hp4.out
                have hm5 := Hm4.out.ext hW5
                have hg := Hfin.out h1 h2 (.inl h3) h4
                clear h1 h2 h4 hW5
                have Hxw := Lib.hid hxw
                have Hp5 := Lib.hid hp5
                have Hm5 := Lib.hid hm5
                have Hg := Lib.hid hg
                clear hxw hp5 hm5 hg
                iterate 6 go_step
                refine herdMarks Hxw.out Hp5.out Hm5.out hkn ?pnext ?pret
                case pret =>
                  intro a' w' k1 k2 k3
                  refine (bodyPost_ret (results_tmp rfl _ _ _) k1 ?_ : bodyPost Try.prog Try.f61 (Yes l w) .ret a' w')
                  rw [k2]
                  exact Yes.no k3
                case pnext =>
                  intro W' hW' hok
                  intros
                  have hb' : ∀ j x, j < i + 1 → l[j]? = some x → AnimalOk l j x := fun j x hj hx => by
                    by_cases e : j = i
                    · subst e
                      rw [Hxk.out] at hx
                      cases hx
                      exact Hg.out hok
                    · exact Hb.out j x (by omega) hx
                  clear hok
                  have HW' := Lib.hid hW'
                  have Hb' := Lib.hid hb'
                  clear hW' hb'
                  go_wp2_with fail
                  go_roundw
                  case rel => exact ⟨i + 1, by go_num, by omega, HW'.out, Hb'.out⟩
                  case measure => simp [intOf]; omega
            · have h3B : (mo != -1) = true := by simpa using h3
              have h3C : (mo == -1) = false := by simpa using h3
              by_cases h5 : atOf l mo < 0
              · have h5B : decide (atOf l mo < 0) = true := decide_eq_true h5
                refine wp_region_seq (fun f hf hs => ?_)
                have f0 := fun q => ((hf q).box Hp4.out).1
                have Hf := Lib.hid hf
                have HS := Lib.hid hs
                clear hf hs
                repeat (go_big_quiet_step ((first | (go_at_call 105; exact Calls.ext_of (Hf.out _) HS.out (Hwi.out _ _ _ _)) | (go_at_call 24; exact Calls.ext_of (Hf.out _) HS.out (Hat.out _ _ (Hxw4.out.trans (Hf.out _)))) | (go_at_call 106; exact Calls.ext_of (Hf.out _) HS.out (Hor.out ⟨_, _⟩ _ _ _)))))
                refine wpQuiet_nil ?_
                intro W5 hW5
                clear f0
                have hxw := Hxw4.out.trans hW5
                have Hxw := Lib.hid hxw
                clear hxw
                clear hW5
                go_wp2_with fail
                go_ret
                exact Yes.no Hxw.out
              · have h5B : decide (atOf l mo < 0) = false := decide_eq_false h5
                cases h4 : spanOk ⟨b0, b1⟩ (-100000) 100000 with
                | false =>
                  refine wp_region_seq (fun f hf hs => ?_)
                  have f0 := fun q => ((hf q).box Hp4.out).1
                  have Hf := Lib.hid hf
                  have HS := Lib.hid hs
                  clear hf hs
                  repeat (go_big_quiet_step ((first | (go_at_call 105; exact Calls.ext_of (Hf.out _) HS.out (Hwi.out _ _ _ _)) | (go_at_call 24; exact Calls.ext_of (Hf.out _) HS.out (Hat.out _ _ (Hxw4.out.trans (Hf.out _)))) | (go_at_call 106; exact Calls.ext_of (Hf.out _) HS.out (Hor.out ⟨_, _⟩ _ _ _)))))
                  refine wpQuiet_nil ?_
                  intro W5 hW5
                  clear f0
                  have hxw := Hxw4.out.trans hW5
                  have Hxw := Lib.hid hxw
                  clear hxw
                  clear hW5
                  go_wp2_with fail
                  go_ret
                  exact Yes.no Hxw.out
                | true =>
                  refine wp_region_seq (fun f hf hs => ?_)
                  have f0 := fun q => ((hf q).box Hp4.out).1
                  have Hf := Lib.hid hf
                  have HS := Lib.hid hs
                  clear hf hs
                  repeat (go_big_quiet_step ((first | (go_at_call 105; exact Calls.ext_of (Hf.out _) HS.out (Hwi.out _ _ _ _)) | (go_at_call 24; exact Calls.ext_of (Hf.out _) HS.out (Hat.out _ _ (Hxw4.out.trans (Hf.out _)))) | (go_at_call 106; exact Calls.ext_of (Hf.out _) HS.out (Hor.out ⟨_, _⟩ _ _ _)))))
                  refine wpQuiet_nil ?_
                  intro W5 hW5
                  clear f0
                  have hxw := Hxw4.out.trans hW5
                  have hp5 := hW5.heap Hp4.out
                  have hm5 := Hm4.out.ext hW5
                  have hg := Hfin.out h1 h2 (.inr h5) h4
                  clear h1 h2 h4 hW5
                  have Hxw := Lib.hid hxw
                  have Hp5 := Lib.hid hp5
                  have Hm5 := Lib.hid hm5
                  have Hg := Lib.hid hg
                  clear hxw hp5 hm5 hg
                  iterate 6 go_step
                  refine herdMarks Hxw.out Hp5.out Hm5.out hkn ?qnext ?qret
                  case qret =>
                    intro a' w' k1 k2 k3
                    refine (bodyPost_ret (results_tmp rfl _ _ _) k1 ?_ : bodyPost Try.prog Try.f61 (Yes l w) .ret a' w')
                    rw [k2]
                    exact Yes.no k3
                  case qnext =>
                    intro W' hW' hok
                    intros
                    have hb' : ∀ j x, j < i + 1 → l[j]? = some x → AnimalOk l j x := fun j x hj hx => by
                      by_cases e : j = i
                      · subst e
                        rw [Hxk.out] at hx
                        cases hx
                        exact Hg.out hok
                      · exact Hb.out j x (by omega) hx
                    clear hok
                    have HW' := Lib.hid hW'
                    have Hb' := Lib.hid hb'
                    clear hW' hb'
                    go_wp2_with fail
                    go_roundw
                    case rel => exact ⟨i + 1, by go_num, by omega, HW'.out, Hb'.out⟩
                    case measure => simp [intOf]; omega
          · have h2B : (atOf l id != (i : Int)) = true := by simpa using h2
            have h2C : (atOf l id == (i : Int)) = false := by simpa using h2
            refine wp_region_seq (fun f hf hs => ?_)
            have f0 := fun q => ((hf q).box Hp4.out).1
            have Hf := Lib.hid hf
            have HS := Lib.hid hs
            clear hf hs
            repeat (go_big_quiet_step ((first | (go_at_call 105; exact Calls.ext_of (Hf.out _) HS.out (Hwi.out _ _ _ _)) | (go_at_call 24; exact Calls.ext_of (Hf.out _) HS.out (Hat.out _ _ (Hxw4.out.trans (Hf.out _)))) | (go_at_call 106; exact Calls.ext_of (Hf.out _) HS.out (Hor.out ⟨_, _⟩ _ _ _)))))
            refine wpQuiet_nil ?_
            intro W5 hW5
            clear f0
            have hxw := Hxw4.out.trans hW5
            have Hxw := Lib.hid hxw
            clear hxw
            clear hW5
            go_wp2_with fail
            go_ret
            exact Yes.no Hxw.out
      · have hltB : decide ((i : Int) < (n : Int)) = false := by simp; omega
        have hall : ∀ j x, l[j]? = some x → AnimalOk l j x := fun j x hj => hb j x (by have := (List.getElem?_eq_some_iff.1 hj).1; omega) hj
        clear hb
        have Hxw := Lib.hid hxw
        have Hall := Lib.hid hall
        clear hxw hall
        go_upto_if 16 with fail
        iterate 6 go_step
        exact herdTail Hxw.out Hla.out (by omega) Hall.out
theorem check2_any (a : Option Addr) (n c : Nat) (l : List Animal) (w : World) (hl : AnimalsAt w a n l) (hn : n ≤ 1000000000) (hmk : ∀ x ∈ l, x.marks.length ≤ 1000000000) : Calls Try.prog 22 #[.slice a n c] w fun e w' => ∃ k : Int, e = .returned (.int .i64 k) ∧ (k = 0 → HerdOk l) ∧ Ext w w' := by
  have hh := herd2_any a n c l w hl hn hmk
  unfold Yes at hh
  have Hh := Lib.hid hh
  clear hh
  clear hl hmk
  go_enter Try.func22, Try.ntmps22
  go_upto_region 1 with fail
  go_wp2_with (go_at_call 61; refine Hh.out.mono ?_; rintro e v1 ⟨b, rfl, hb, hx1⟩; have Hb := Lib.hid hb; clear hb; cases b)
  all_goals go_ret
  · exact ⟨20, rfl, fun h => absurd h (by decide), hx1⟩
  · exact ⟨0, rfl, fun _ => Hb.out trivial, hx1⟩
end Go.Proofs.Ytcoelhpmkhimpaa
