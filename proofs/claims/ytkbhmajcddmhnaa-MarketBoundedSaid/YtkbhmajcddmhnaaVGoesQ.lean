/- goes: a barter, from its offer on. -/
import Derived.Test.YtkbhmajcddmhnaaVGr16
namespace Go.Proofs.Ytkbhmajcddmhnaa
open Go.RowKit
set_option linter.unusedVariables false
set_option linter.unusedSimpArgs false

theorem GSt.copied {w : World} {rb tb base : Nat} {t : TS} {rv : Value} {wr : World} (h : GSt w rb tb base t rv wr) (hl : L5 t) : (Try.prog.info? 66).map (·.size) = some (truCells t rv).toArray.size ∧ (truCells zTru (.slice none 0 0)).toArray.size = (truCells t rv).toArray.size ∧ (truCells t rv).toArray.all (·.oneCell') = true ∧ TrAt (wr.setRow rb (truCells t rv).toArray) rb t rv ∧ Ext w (wr.setRow rb (truCells t rv).toArray) := by
  obtain ⟨a, c, rfl⟩ := h.rv
  exact ⟨by rw [info66, tru_size hl], by rw [tru_size hl, tru_size zTru5], tru_one, setRow_heap wr rb _ _ 66 (0, 0) h.ret, below_setRow h.ext h.ord.1 _⟩
theorem GSt.put {w : World} {rb tb base : Nat} {t t' : TS} {rv : Value} {wr : World} (h : GSt w rb tb base t rv wr) {i : Nat} {v : Value} (ht : TrAt (wr.setCell ⟨tb, i, none⟩ v) tb t' rv) (hr : t'.roads = t.roads) : GSt w rb tb base t' rv (wr.setCell ⟨tb, i, none⟩ v) := by
  obtain ⟨o1, o2, o3, o4⟩ := h.ord
  exact ⟨ht, by rw [hr]; exact h.own.only (p := tb) ((Only.refl tb wr).setCell (x := ⟨tb, i, none⟩) (.inl rfl) v) o3, h.ret.same (heap_setCell_other _ _ _ _ (by simp only; omega)), h.ext.setCell (p := ⟨tb, i, none⟩) (by simp only; omega) v, o1, o2, o3, by simpa [World.setCell] using o4⟩
set_option maxRecDepth 100000 in
set_option maxHeartbeats 8000000 in
theorem goesRound {Q : Exit → Act → World → Prop} {w w4 : World} {l : List Offer} {fs : List Fair} {by_ : List Int} {ca : Option Addr} {cn cc k r m j gi ge xb yb fb fo fn fc : Nat} {t T1 : TS} {T pl un lo hi fr tu : Int} {y : Fair} {ra2 : Option Addr} {rc2 : Nat} {opn : Bool}
    (hT : T1.Ok k m) (hk : k < 60) (hm : m < fs.length) (hfl : fs.length = fn) (hfn5 : fn ≤ 5) (hby : IntsAt .u32 w ca cn by_) (hu : u32s by_) (hcn : cn ≤ 9223372036854775807)
    (hst4 : GSt w w.heap.size (w.heap.size + 1) (w.heap.size + 2) T1 (.slice ra2 m rc2) w4) (hb4 : w4.heap[xb]? = some (.cells #[.int .i64 m, .int .i64 j, .int .i64 T] 46 (0, 0)))
    (hy4 : w4.heap[yb]? = some (.cells #[.int .i64 pl, .int .i64 gi, .int .i64 ge, .int .i64 un, .int .i64 lo, .int .i64 hi, .int .i64 fr, .int .i64 tu] 81 (0, 0))) (hxt : w.heap.size + 1 < xb) (hyt : w.heap.size + 1 < yb)
    (d0 : w4.cell? ⟨fb, fo + m * 3, none⟩ = some (.int .i64 y.place)) (d1 : w4.cell? ⟨fb, fo + m * 3 + 1, none⟩ = some (.int .i64 y.day))
    (hopn : ∀ W, Calls Try.prog 56 #[.agg #[.int .i64 pl, .int .i64 gi, .int .i64 ge, .int .i64 un, .int .i64 lo, .int .i64 hi, .int .i64 fr, .int .i64 tu], .int .i64 y.place, .int .i64 y.day] W fun e w' => e = .returned (.bool opn) ∧ Ext W w')
    (g5 : 1 ≤ T) (g6 : T ≤ 1000000000000000) (hgi5 : gi < 5) (hge5 : ge < 5) (hgne : gi ≠ ge) (hu1 : 1 ≤ un) (hu2 : un ≤ 50) (hlo1 : 1 ≤ lo) (hlo2 : lo ≤ hi) (hhi : hi ≤ 50)
    (hsp : goStep l fs by_ k ⟨(m : Int), (j : Int), T⟩ t = if opn = false ∨ T1.held.getD gi 0 < T * un then none else
      if 1000000000000000 < ((T1.pay ⟨pl, gi, ge, un, lo, hi, fr, tu⟩ (T * un)).take ⟨pl, gi, ge, un, lo, hi, fr, tu⟩ (got ⟨pl, gi, ge, un, lo, hi, fr, tu⟩ T (pick by_ k))).held.getD ge 0 then none else
      some (((T1.pay ⟨pl, gi, ge, un, lo, hi, fr, tu⟩ (T * un)).take ⟨pl, gi, ge, un, lo, hi, fr, tu⟩ (got ⟨pl, gi, ge, un, lo, hi, fr, tu⟩ T (pick by_ k))).note ⟨pl, gi, ge, un, lo, hi, fr, tu⟩ (got ⟨pl, gi, ge, un, lo, hi, fr, tu⟩ T (pick by_ k))))
    {u0 u2 u3 u5 u6 u7 u8 u9 u11 u16 u17 u18 u19 u20 u21 u22 u23 u24 u25 u26 u27 u28 u29 u30 u31 u32 u33 u34 u35 u36 u37 u38 u39 u40 u41 u42 u43 u44 u45 u46 u47 u48 u49 u50 u51 u52 u53 u54 u55 u56 u57 u58 u59 u60 u61 u62 u63 u64 u65 u66 u67 u68 u69 u70 u71 u72 u73 u74 u75 u76 u77 u78 u79 u80 u81 u82 u83 u84 u85 u86 u87 u88 u89 u90 u91 u92 u93 u94 u95 u96 u97 u98 u99 u100 u101 u102 u103 u104 u105 u106 u107 u108 u109 u110 u111 u112 u113 u114 u115 u116 u117 u118 u119 u120 u121 u122 u123 u124 u125 u126 u127 u128 u129 u130 u131 u132 u133 u134 u135 u136 u137 u138 u139 u140 u141 u142 u143 u144 u145 u146 u147 u148 u149 u150 u151 u152 u153 u154 u155 u156 u157 u158 u159 u160 u161 u162 u163 u164 u165 u166 u167 u168 u169 u170 u171 u172 u173 u174 u175 u176 u177 u178 u179 u180 u181 u182 u183 u184 u185 u186 u187 u188 u189 u190 u191 u192 u193 u194 u195 u196 u197 u198 u199 u200 u201 u202 u203 u204 u205 : Value}
    (hround : ∀ (t' : TS) (w' : World), goStep l fs by_ k ⟨(m : Int), (j : Int), T⟩ t = some t' → GSt w w.heap.size (w.heap.size + 1) (w.heap.size + 2) t' (.slice ra2 m rc2) w' → ∀ {v16 v24 v25 v26 v27 v28 v29 v30 v31 v32 v33 v34 v35 v36 v37 v38 v39 v40 v41 v42 v43 v44 v45 v46 v47 v48 v49 v50 v51 v52 v53 v54 v55 v56 v57 v58 v59 v60 v61 v62 v63 v64 v65 v66 v67 v68 v69 v70 v71 v72 v73 v74 v75 v76 v77 v78 v79 v80 v81 v82 v83 v84 v85 v86 v87 v88 v89 v90 v91 v92 v93 v94 v95 v96 v97 v98 v99 v100 v101 v102 v103 v104 v105 v106 v107 v108 v109 v110 v111 v112 v113 v114 v115 v116 v117 v118 v119 v120 v121 v122 v123 v124 v125 v126 v127 v128 v129 v130 v131 v132 v133 v134 v135 v136 v137 v138 v139 v140 v141 v142 v143 v144 v145 v146 v147 v148 v149 v150 v151 v152 v153 v154 v155 v156 v157 v158 v159 v160 v161 v162 v163 v164 v165 v166 v167 v168 v169 v170 v171 v172 v173 v174 v175 v176 v177 v178 v179 v180 v181 v182 v183 v184 v185 v186 v187 v188 v189 : Value},
      Q .normal ⟨#[u0, .slice (some ⟨fb, fo, none⟩) fn fc, u2, u3, .slice ca cn cc, u5, u6, u7, u8, u9, .pointer (some ⟨w.heap.size, 0, none⟩), u11, .pointer (some ⟨w.heap.size + 1, 0, none⟩), .int .i64 k, .pointer (some ⟨xb, 0, none⟩), .pointer (some ⟨yb, 0, none⟩), v16, u17, u18, u19, u20, u21, u22, u23, v24, v25, v26, v27, v28, v29, v30, v31, v32, v33, v34, v35, v36, v37, v38, v39, v40, v41, v42, v43, v44, v45, v46, v47, v48, v49, v50, v51, v52, v53, v54, v55, v56, v57, v58, v59, v60, v61, v62, v63, v64, v65, v66, v67, v68, v69, v70, v71, v72, v73, v74, v75, v76, v77, v78, v79, v80, v81, v82, v83, v84, v85, v86, v87, v88, v89, v90, v91, v92, v93, v94, v95, v96, v97, v98, v99, v100, v101, v102, v103, v104, v105, v106, v107, v108, v109, v110, v111, v112, v113, v114, v115, v116, v117, v118, v119, v120, v121, v122, v123, v124, v125, v126, v127, v128, v129, v130, v131, v132, v133, v134, v135, v136, v137, v138, v139, v140, v141, v142, v143, v144, v145, v146, v147, v148, v149, v150, v151, v152, v153, v154, v155, v156, v157, v158, v159, v160, v161, v162, v163, v164, v165, v166, v167, v168, v169, v170, v171, v172, v173, v174, v175, v176, v177, v178, v179, v180, v181, v182, v183, v184, v185, v186, v187, v188, v189, u190, u191, u192, u193, u194, u195, u196, u197, u198, u199, u200, u201, u202, u203, u204, u205], []⟩ w')
    (hret : goStep l fs by_ k ⟨(m : Int), (j : Int), T⟩ t = none → ∀ (a' : Act) (w' : World), a'.defers = [] → a'.tmps.getD 10 undef = .pointer (some ⟨w.heap.size, 0, none⟩) → a'.tmps.getD 11 undef = .bool false → ∀ (t' : TS) (rv' : Value), L5 t' → TrAt w' w.heap.size t' rv' → Ext w w' → (truCells t' rv').toArray.all (·.oneCell') = true → Q .ret a' w') :
    (restFrom Try.f35 11).wp Try.prog Q
      ⟨#[u0, .slice (some ⟨fb, fo, none⟩) fn fc, u2, u3, .slice ca cn cc, u5, u6, u7, u8, u9, .pointer (some ⟨w.heap.size, 0, none⟩), u11, .pointer (some ⟨w.heap.size + 1, 0, none⟩), .int .i64 k, .pointer (some ⟨xb, 0, none⟩), .pointer (some ⟨yb, 0, none⟩), u16, u17, u18, u19, u20, u21, u22, u23, u24, u25, u26, u27, u28, u29, u30, u31, u32, u33, u34, u35, u36, u37, u38, u39, u40, u41, u42, u43, u44, u45, u46, u47, u48, u49, u50, u51, u52, u53, u54, u55, u56, u57, u58, u59, u60, u61, u62, u63, u64, u65, u66, u67, u68, u69, u70, u71, u72, u73, u74, u75, u76, u77, u78, u79, u80, u81, u82, u83, u84, u85, u86, u87, u88, u89, u90, u91, u92, u93, u94, u95, u96, u97, u98, u99, u100, u101, u102, u103, u104, u105, u106, u107, u108, u109, u110, u111, u112, u113, u114, u115, u116, u117, u118, u119, u120, u121, u122, u123, u124, u125, u126, u127, u128, u129, u130, u131, u132, u133, u134, u135, u136, u137, u138, u139, u140, u141, u142, u143, u144, u145, u146, u147, u148, u149, u150, u151, u152, u153, u154, u155, u156, u157, u158, u159, u160, u161, u162, u163, u164, u165, u166, u167, u168, u169, u170, u171, u172, u173, u174, u175, u176, u177, u178, u179, u180, u181, u182, u183, u184, u185, u186, u187, u188, u189, u190, u191, u192, u193, u194, u195, u196, u197, u198, u199, u200, u201, u202, u203, u204, u205], []⟩ w4 := by
  have hl5 := hT.l5
  have hfn1 : (m : Int) < fn := by omega
  obtain ⟨a0, a1⟩ := hT.held.2 gi
  obtain ⟨c0, c1⟩ := hT.held.2 ge
  obtain ⟨m1, m2⟩ := mul_bd (M := 1000000000000000) (N := 50) (show 0 ≤ T by omega) g6 (show 0 ≤ un by omega) hu2
  obtain ⟨m3, m4⟩ := mul_bd (M := 1000000000000000) (N := 50) (show 0 ≤ T by omega) g6 (show 0 ≤ hi by omega) hhi
  simp only [Int.reduceMul] at m2 m4
  obtain ⟨P, hP⟩ : ∃ P, T * un = P := ⟨_, rfl⟩
  obtain ⟨H, hH⟩ : ∃ H, T * hi = H := ⟨_, rfl⟩
  rw [hP] at m1 m2 hsp
  rw [hH] at m3 m4
  have cH4 := hst4.tru.cH hl5 hgi5
  obtain ⟨A, hA⟩ : ∃ A, T1.held.getD gi 0 = A := ⟨_, rfl⟩
  rw [hA] at cH4 a0 a1 hsp
  have hyo := hst4.ord
  have HT := Lib.hid hT
  have Hopn := Lib.hid hopn
  have Hsp := Lib.hid hsp
  have Hst4 := Lib.hid hst4
  have Hb4 := Lib.hid hb4
  have Hy4 := Lib.hid hy4
  have Hl5 := Lib.hid hl5
  have HA := Lib.hid hA
  have Hby := Lib.hid hby
  have Hu := Lib.hid hu
  clear hopn hsp hst4 hb4 hy4 hl5 hA hby hu
  clear hT
  dsimp only at hround
  conv => arg 2; whnf
  go_upto_region 11 with fail
  dsimp only
  obtain ⟨s110, hs110⟩ : ∃ q, (!opn || decide (A < P)) = q := ⟨_, rfl⟩
  go_cut [110] from 24 to 189 (fun s wx => s = .bool s110 ∧ Ext w4 wx)
  case first =>
    cases opn with
    | false =>
      obtain rfl : s110 = true := by rw [← hs110]; rfl
      refine wp_region_tree (.take [0, 1, 2, 3, 4, 5, 6, 7, 8, 9, 10, 11, 12] (.one 13 (.take [14, 15, 16, 17, 18, 19, 20, 21, 22, 23, 24, 25, 26, 27] .done))) (Ext w4) _ (by kernel_rfl) (by kernel_rfl) rfl ((Ext.refl _).drew) ?_
      intro ι _ f hf hs
      have f0 := fun q => ((hf q).box Hb4.out).1
      have f1 := fun q => ((hf q).box Hy4.out).1
      have f2 := fun q => (hf q).cell d0
      have f3 := fun q => (hf q).cell d1
      have f4 := fun q => (hf q).cell cH4
      have HS := Lib.hid hs
      clear hf hs
      simp only [treeOf, oneOp, twoOp, opsOf, consOp, List.getElem?_toArray, List.getElem?_cons_succ, List.getElem?_cons_zero]
      refine wpOT_take ?_
      repeat (go_big_quiet_step (fail))
      refine wpQuiet_nil ?_
      refine wpOT_one ?_
      go_wp2_with (go_at_call 56; refine (Hopn.out _).mono ?_; rintro e w5 ⟨rfl, hx5⟩)
      refine ⟨HS.out _ ((Ext.refl _).drew.trans hx5), ?_⟩
      refine wpOT_take ?_
      repeat (go_big_quiet_step (fail))
      refine wpQuiet_nil ?_
      refine wpOT_done ?_
      clear f0 f1 f2 f3 f4 HS
      go_wp2_with fail
      go_meet
      case rel => exact ⟨rfl, (Ext.refl _).drew.trans hx5⟩
    | true =>
      by_cases hlAP : A < P
      · have hlAPB : decide (A < P) = true := decide_eq_true hlAP
        obtain rfl : s110 = true := by rw [← hs110, hlAPB]; rfl
        refine wp_region_tree (.take [0, 1, 2, 3, 4, 5, 6, 7, 8, 9, 10, 11, 12] (.one 13 (.take [14, 15, 16, 17, 18, 19, 20, 21, 22, 23, 24, 25, 26, 27] .done))) (Ext w4) _ (by kernel_rfl) (by kernel_rfl) rfl ((Ext.refl _).drew) ?_
        intro ι _ f hf hs
        have f0 := fun q => ((hf q).box Hb4.out).1
        have f1 := fun q => ((hf q).box Hy4.out).1
        have f2 := fun q => (hf q).cell d0
        have f3 := fun q => (hf q).cell d1
        have f4 := fun q => (hf q).cell cH4
        have HS := Lib.hid hs
        clear hf hs
        simp only [treeOf, oneOp, twoOp, opsOf, consOp, List.getElem?_toArray, List.getElem?_cons_succ, List.getElem?_cons_zero]
        refine wpOT_take ?_
        repeat (go_big_quiet_step (fail))
        refine wpQuiet_nil ?_
        refine wpOT_one ?_
        go_wp2_with (go_at_call 56; refine (Hopn.out _).mono ?_; rintro e w5 ⟨rfl, hx5⟩)
        refine ⟨HS.out _ ((Ext.refl _).drew.trans hx5), ?_⟩
        refine wpOT_take ?_
        repeat (go_big_quiet_step (fail))
        refine wpQuiet_nil ?_
        refine wpOT_done ?_
        clear f0 f1 f2 f3 f4 HS
        go_wp2_with fail
        go_meet
        case rel => exact ⟨by first | rfl | (simp <;> omega), (Ext.refl _).drew.trans hx5⟩
      · have hlAPB : decide (A < P) = false := decide_eq_false hlAP
        obtain rfl : s110 = false := by rw [← hs110, hlAPB]; rfl
        refine wp_region_tree (.take [0, 1, 2, 3, 4, 5, 6, 7, 8, 9, 10, 11, 12] (.one 13 (.take [14, 15, 16, 17, 18, 19, 20, 21, 22, 23, 24, 25, 26, 27] .done))) (Ext w4) _ (by kernel_rfl) (by kernel_rfl) rfl ((Ext.refl _).drew) ?_
        intro ι _ f hf hs
        have f0 := fun q => ((hf q).box Hb4.out).1
        have f1 := fun q => ((hf q).box Hy4.out).1
        have f2 := fun q => (hf q).cell d0
        have f3 := fun q => (hf q).cell d1
        have f4 := fun q => (hf q).cell cH4
        have HS := Lib.hid hs
        clear hf hs
        simp only [treeOf, oneOp, twoOp, opsOf, consOp, List.getElem?_toArray, List.getElem?_cons_succ, List.getElem?_cons_zero]
        refine wpOT_take ?_
        repeat (go_big_quiet_step (fail))
        refine wpQuiet_nil ?_
        refine wpOT_one ?_
        go_wp2_with (go_at_call 56; refine (Hopn.out _).mono ?_; rintro e w5 ⟨rfl, hx5⟩)
        refine ⟨HS.out _ ((Ext.refl _).drew.trans hx5), ?_⟩
        refine wpOT_take ?_
        repeat (go_big_quiet_step (fail))
        refine wpQuiet_nil ?_
        refine wpOT_done ?_
        clear f0 f1 f2 f3 f4 HS
        go_wp2_with fail
        go_meet
        case rel => exact ⟨by first | rfl | (simp <;> omega), (Ext.refl _).drew.trans hx5⟩
  case rest =>
    obtain ⟨w5, rfl⟩ : ∃ w5 : World, w5 = wc := ⟨_, rfl⟩
    obtain ⟨rfl, hx5⟩ := hcut
    have hst5 := Hst4.out.later hx5
    have hb5 := hx5.heap Hb4.out
    have hy5 := hx5.heap Hy4.out
    have Hst5 := Lib.hid hst5
    have Hb5 := Lib.hid hb5
    have Hy5 := Lib.hid hy5
    clear hst5 hb5 hy5
    clear Hst4 Hb4 Hy4 d0 d1 cH4 Hopn hx5
    cases s110 with
    | true =>
      have hn : goStep l fs by_ k ⟨(m : Int), (j : Int), T⟩ t = none := by rw [Hsp.out, if_pos]; cases opn with | false => exact .inl rfl | true => exact .inr (by simpa using hs110)
      have Hn := Lib.hid hn
      clear hn
      clear hs110 Hsp
      obtain ⟨cp1, cp2, cp3, cp4, cp5⟩ := Hst5.out.copied Hl5.out
      have Cp1 := Lib.hid cp1
      have Cp2 := Lib.hid cp2
      have Cp3 := Lib.hid cp3
      have Cp4 := Lib.hid cp4
      have Cp5 := Lib.hid cp5
      clear cp1 cp2 cp3 cp4 cp5
      go_wp2_with (first | (refine wpList_load_row rfl 66 (.tmp 12) rfl (w.heap.size + 1) rfl 66 _ (0, 0) _ Hst5.out.tru Try.underlying66 rfl Cp1.out ?_) | (refine wpList_store_row rfl 66 (.tmp 10) (.tmp 111) rfl w.heap.size _ rfl rfl 66 _ Hst5.out.ret Cp1.out Cp2.out Cp3.out ?_))
      exact hret Hn.out _ _ rfl rfl rfl _ _ Hl5.out Cp4.out Cp5.out Cp3.out
    | false =>
      simp only [Bool.or_eq_false_iff, Bool.not_eq_false', decide_eq_false_iff_not] at hs110
      obtain ⟨rfl, hAP⟩ := hs110
      obtain ⟨V, hV⟩ : ∃ V, pick by_ k = V := ⟨_, rfl⟩
      obtain ⟨v0, v1⟩ := pick_bd Hu.out k
      rw [hV] at v0 v1
      obtain ⟨n1, n2⟩ := got_bd (x := ⟨pl, gi, ge, un, lo, hi, fr, tu⟩) (v := V) ⟨hlo1, hlo2, hhi⟩ (show 1 ≤ T by omega)
      have hsp := Hsp.out
      rw [if_neg (by simp; omega)] at hsp
      obtain ⟨i0, i1⟩ := inside_bd (s := ⟨lo, hi⟩) (v := V) hlo2
      simp only at i0 i1
      have hcc := fun W (hW : Ext w5 W) => choose_any ca cn cc by_ k W (Hby.out.ext (Hst5.out.ext.trans hW)) (by omega) hcn
      have hii := fun W => inside_any ⟨lo, hi⟩ V W (by simp only; omega) hlo2 (by simp only; omega) (by omega) (by omega)
      rw [hV] at hcc hsp
      have hgot : got ⟨pl, gi, ge, un, lo, hi, fr, tu⟩ T V = if T * insideOf ⟨lo, hi⟩ V < H ∧ V % 3 = 1 then T * insideOf ⟨lo, hi⟩ V + 1 else T * insideOf ⟨lo, hi⟩ V := by unfold got; simp only [hH]
      obtain ⟨N, hN⟩ : ∃ N, got ⟨pl, gi, ge, un, lo, hi, fr, tu⟩ T V = N := ⟨_, rfl⟩
      rw [hN] at hgot n1 n2 hsp
      simp only at n1 n2
      have hl0 : 0 ≤ T * lo := Int.mul_nonneg (by omega) (by omega)
      rw [hH] at n2
      generalize insideOf ⟨lo, hi⟩ V = I at *
      obtain ⟨z0, z1⟩ := mul_bd (M := 1000000000000000) (N := 50) (show 0 ≤ T by omega) (show T ≤ 1000000000000000 by omega) (show 0 ≤ I by omega) (show I ≤ 50 by omega)
      simp only [Int.reduceMul] at z1
      obtain ⟨Q0, hQ0⟩ : ∃ Q0, T * I = Q0 := ⟨_, rfl⟩
      rw [hQ0] at z0 z1 hgot
      simp only at hii
      clear Hsp
      have Hcc := Lib.hid hcc
      have Hii := Lib.hid hii
      have Hsp := Lib.hid hsp
      have HV := Lib.hid hV
      clear hcc hii hsp hV
      clear hN
      go_upto_region 13 with fail
      refine wp_region_ext (by kernel_rfl) (by kernel_rfl) (fun f hf hs => ?_)
      have f0 := fun q => ((hf q).box Hb5.out).1
      have f1 := fun q => ((hf q).box Hy5.out).1
      have Hf := Lib.hid hf
      have HS := Lib.hid hs
      clear hf hs
      repeat (go_big_quiet_step ((first | (go_at_call 68; exact Calls.ext_of (Hf.out _) HS.out ((Hcc.out _ (Hf.out _)).mono fun e w' h => ⟨h.1, h.2 ▸ Ext.refl _⟩)) | (go_at_call 67; exact Calls.ext_of (Hf.out _) HS.out (Hii.out _)))))
      refine wpQuiet_nil ?_
      intro W6 hW6
      clear f0 f1
      have hst6 := Hst5.out.later hW6
      have hb6 := hW6.heap Hb5.out
      have hy6 := hW6.heap Hy5.out
      have hby6 := Hby.out.ext hst6.ext
      have hcc6 := fun W (hW : W6 = W) => choose_any ca cn cc by_ k W (hW ▸ hby6) (by omega) hcn
      rw [HV.out] at hcc6
      have Hst6 := Lib.hid hst6
      have Hb6 := Lib.hid hb6
      have Hy6 := Lib.hid hy6
      clear hst6 hb6 hy6
      clear Hst5 Hb5 Hy5 Hcc Hii hW6
      go_step
      go_step
      go_step
      obtain ⟨f0, _⟩ := (Ext.refl W6).box Hb6.out
      obtain ⟨f1, _⟩ := (Ext.refl W6).box Hy6.out
      have Hcc6 := Lib.hid hcc6
      clear hcc6
      go_cut [16] from 24 to 189 (fun s16 wx => s16 = .int .i64 N ∧ W6 = wx)
      case first =>
        by_cases y1 : Q0 < H
        · have y1B : decide (Q0 < H) = true := decide_eq_true y1
          by_cases y2 : V % 3 = 1
          · have y2B : (V % 3 == 1) = true := by rw [beq_iff_eq]; exact y2
            rw [if_pos ⟨y1, y2⟩] at hgot
            subst hgot
            clear y1 y2
            go_wp2_with (go_at_call 68; refine (Hcc6.out _ rfl).mono ?_; rintro e w7 ⟨rfl, rfl⟩)
            go_meet
            case rel => exact ⟨rfl, rfl⟩
          · have y2B : (V % 3 == 1) = false := by rw [beq_eq_false_iff_ne]; exact y2
            rw [if_neg (fun e => y2 e.2)] at hgot
            subst hgot
            clear y1 y2
            go_wp2_with (go_at_call 68; refine (Hcc6.out _ rfl).mono ?_; rintro e w7 ⟨rfl, rfl⟩)
            go_meet
            case rel => exact ⟨rfl, rfl⟩
        · have y1B : decide (Q0 < H) = false := decide_eq_false y1
          rw [if_neg (fun e => y1 e.1)] at hgot
          subst hgot
          clear y1
          go_wp2_with fail
          go_meet
          case rel => exact ⟨rfl, rfl⟩
      case rest =>
        obtain ⟨rfl, rfl⟩ := hcut
        clear f0 f1 hgot Hcc6
        have cH6 := Hst6.out.tru.cH Hl5.out hgi5
        rw [HA.out] at cH6
        have fT6 := fun j => Hst6.out.tru.free j
        have hl56 : L5 { T1 with held := T1.held.set gi (A - P) } := ⟨by simp only [List.length_set]; exact Hl5.out.held, Hl5.out.given, Hl5.out.got, Hl5.out.lost⟩
        have hst7 := (Hst6.out.put (Hst6.out.tru.sH Hl5.out hgi5 (A - P)) rfl).later (Ext.refl _).drew
        have hoth7 : ∀ x, x ≠ w.heap.size + 1 → (W6.setCell ⟨w.heap.size + 1, gi, none⟩ (.int .i64 (A - P))).drew.heap[x]? = W6.heap[x]? := fun x hx => heap_setCell_other W6 _ _ _ hx
        have hb7 := (hoth7 xb (by omega)).trans Hb6.out
        have hy7 := (hoth7 yb (by omega)).trans Hy6.out
        have Hst7 := Lib.hid hst7
        have Hb7 := Lib.hid hb7
        have Hy7 := Lib.hid hy7
        have Hl56 := Lib.hid hl56
        clear hst7 hb7 hy7 hl56
        clear hoth7
        go_upto_region 16 with fail
        refine wp_region_mix [0, 1, 2, 3, 4, 5, 6, 7, 8, 9, 10] [(11, false), (12, false), (13, true)] (Ext W6) _ _ (by kernel_rfl) (by kernel_rfl) (by kernel_rfl) rfl rfl ((Ext.refl _).drew) ?_
        intro ι _ f hf
        have f0 := fun q => ((hf q).box Hb6.out).1
        have f1 := fun q => ((hf q).box Hy6.out).1
        have f2 := fun q => (hf q).cell cH6
        clear hf
        simp only [opsOf, opsOfT, consOp, consOpT, List.getElem?_toArray, List.getElem?_cons_succ, List.getElem?_cons_zero]
        repeat (go_big_quiet_step (fail))
        refine wpQuiet_nil ?_
        clear f0 f1 f2
        refine wpListS_step ?_
        go_wp2_with fail
        refine ⟨(Ext.refl _).drew, ?_⟩
        refine wpListS_step ?_
        go_wp2_with fail
        refine ⟨(Ext.refl _).drew, ?_⟩
        refine wpListS_last ?_
        go_wp2_with fail
        refine wpListS_nil ?_
        clear cH6 fT6
        generalize (W6.setCell ⟨w.heap.size + 1, gi, none⟩ (.int .i64 (A - P))).drew = w7 at *
        obtain ⟨Gv, hGv⟩ : ∃ Gv, T1.given.getD gi 0 = Gv := ⟨_, rfl⟩
        obtain ⟨e0, e1⟩ := HT.out.given.2 gi
        rw [hGv] at e0 e1
        have cG7 := Hst7.out.tru.cG Hl56.out hgi5
        simp only [hGv] at cG7
        have fT7 := fun j => Hst7.out.tru.free j
        have hst8 := (Hst7.out.put (Hst7.out.tru.sG Hl56.out hgi5 (Gv + P)) rfl).later (Ext.refl _).drew
        have hoth8 : ∀ x, x ≠ w.heap.size + 1 → (w7.setCell ⟨w.heap.size + 1, 5 + gi, none⟩ (.int .i64 (Gv + P))).drew.heap[x]? = w7.heap[x]? := fun x hx => heap_setCell_other w7 _ _ _ hx
        have hb8 := (hoth8 xb (by omega)).trans Hb7.out
        have hy8 := (hoth8 yb (by omega)).trans Hy7.out
        have Hst8 := Lib.hid hst8
        have Hb8 := Lib.hid hb8
        have Hy8 := Lib.hid hy8
        have HGv := Lib.hid hGv
        clear hst8 hb8 hy8 hGv
        clear hoth8 Hst6 Hb6 Hy6
        go_upto_region 17 with fail
        refine wp_region_mix [0, 1, 2, 3, 4, 5, 6, 7, 8, 9, 10] [(11, false), (12, false), (13, true)] (Ext w7) _ _ (by kernel_rfl) (by kernel_rfl) (by kernel_rfl) rfl rfl ((Ext.refl _).drew) ?_
        intro ι _ f hf
        have f0 := fun q => ((hf q).box Hb7.out).1
        have f1 := fun q => ((hf q).box Hy7.out).1
        have f2 := fun q => (hf q).cell cG7
        clear hf
        simp only [opsOf, opsOfT, consOp, consOpT, List.getElem?_toArray, List.getElem?_cons_succ, List.getElem?_cons_zero]
        repeat (go_big_quiet_step (fail))
        refine wpQuiet_nil ?_
        clear f0 f1 f2
        refine wpListS_step ?_
        go_wp2_with fail
        refine ⟨(Ext.refl _).drew, ?_⟩
        refine wpListS_step ?_
        go_wp2_with fail
        refine ⟨(Ext.refl _).drew, ?_⟩
        refine wpListS_last ?_
        go_wp2_with fail
        refine wpListS_nil ?_
        clear cG7 fT7
        generalize (w7.setCell ⟨w.heap.size + 1, 5 + gi, none⟩ (.int .i64 (Gv + P))).drew = w8 at *
        have hpay : T1.pay ⟨pl, gi, ge, un, lo, hi, fr, tu⟩ P = { { T1 with held := T1.held.set gi (A - P) } with given := T1.given.set gi (Gv + P) } := by
          simp only [TS.pay, Int.toNat_natCast, HA.out, HGv.out]
        obtain ⟨T8, hT8⟩ : ∃ T8, T1.pay ⟨pl, gi, ge, un, lo, hi, fr, tu⟩ P = T8 := ⟨_, rfl⟩
        have hst8 : GSt w w.heap.size (w.heap.size + 1) (w.heap.size + 2) T8 (.slice ra2 m rc2) w8 := by rw [← hT8, hpay]; exact Hst8.out
        have hl8 : L5 T8 := by
          rw [← hT8, hpay]
          exact ⟨Hl56.out.held, by simp only [List.length_set]; exact Hl5.out.given, Hl5.out.got, Hl5.out.lost⟩
        have eB : T8.held.getD ge 0 = T1.held.getD ge 0 := by
          rw [← hT8, hpay]
          simp only
          rw [getD_set _ _ _ (by rw [Hl5.out.held]; exact hgi5), if_neg (fun e => hgne e.symm)]
        have eO : T8.got = T1.got := by rw [← hT8, hpay]
        have hsp := Hsp.out
        rw [hT8] at hsp
        obtain ⟨B, hB⟩ : ∃ B, T1.held.getD ge 0 = B := ⟨_, rfl⟩
        rw [hB] at eB c0 c1
        have htake : T8.take ⟨pl, gi, ge, un, lo, hi, fr, tu⟩ N = { T8 with held := T8.held.set ge (B + N) } := by simp only [TS.take, Int.toNat_natCast, eB]
        rw [htake] at hsp
        obtain ⟨T9, hT9⟩ : ∃ T9 : TS, { T8 with held := T8.held.set ge (B + N) } = T9 := ⟨_, rfl⟩
        have eB9 : T9.held.getD ge 0 = B + N := by rw [← hT9]; simp only; rw [getD_set _ _ _ (by rw [hl8.held]; exact hge5), if_pos rfl]
        have eO9 : T9.got = T1.got := by rw [← hT9]; exact eO
        have hl9 : L5 T9 := by rw [← hT9]; exact ⟨by simp only [List.length_set]; exact hl8.held, hl8.given, hl8.got, hl8.lost⟩
        rw [hT9] at hsp
        have cH8 := hst8.tru.cH hl8 hge5
        rw [eB] at cH8
        have fT8 := fun j => hst8.tru.free j
        obtain ⟨f1, _⟩ := (Ext.refl w8).box Hy8.out
        have hst9 := hst8.put (hst8.tru.sH hl8 hge5 (B + N)) rfl
        rw [hT9] at hst9
        have hy9 := (heap_setCell_other w8 ⟨w.heap.size + 1, ge, none⟩ yb (.int .i64 (B + N)) (by simp only; omega)).trans Hy8.out
        clear Hsp
        have Hst9 := Lib.hid hst9
        have Hy9 := Lib.hid hy9
        have Hsp := Lib.hid hsp
        have EB9 := Lib.hid eB9
        have EO9 := Lib.hid eO9
        have Hl9 := Lib.hid hl9
        clear hst9 hy9 hsp eB9 eO9 hl9
        clear hpay hT8 htake hT9 Hst7 Hb7 Hy7 Hst8 Hb8 Hy8 hst8 hl8 eB eO
        go_upto_region 19 with fail
        clear cH8 fT8 f1
        generalize w8.setCell ⟨w.heap.size + 1, ge, none⟩ (.int .i64 (B + N)) = w9 at *
        obtain ⟨f1, _⟩ := (Ext.refl w9).box Hy9.out
        have cH9 := Hst9.out.tru.cH Hl9.out hge5
        rw [EB9.out] at cH9
        by_cases hfull : 1000000000000000 < B + N
        · have hfullB : decide (1000000000000000 < B + N) = true := decide_eq_true hfull
          have hn : goStep l fs by_ k ⟨(m : Int), (j : Int), T⟩ t = none := by rw [Hsp.out, if_pos (by rw [EB9.out]; exact hfull)]
          have Hn := Lib.hid hn
          clear hn
          clear Hsp
          go_upto_region 20 with fail
          clear f1 cH9
          obtain ⟨cp1, cp2, cp3, cp4, cp5⟩ := Hst9.out.copied Hl9.out
          have Cp1 := Lib.hid cp1
          have Cp2 := Lib.hid cp2
          have Cp3 := Lib.hid cp3
          have Cp4 := Lib.hid cp4
          have Cp5 := Lib.hid cp5
          clear cp1 cp2 cp3 cp4 cp5
          go_wp2_with (first | (refine wpList_load_row rfl 66 (.tmp 12) rfl (w.heap.size + 1) rfl 66 _ (0, 0) _ Hst9.out.tru Try.underlying66 rfl Cp1.out ?_) | (refine wpList_store_row rfl 66 (.tmp 10) (.tmp 179) rfl w.heap.size _ rfl rfl 66 _ Hst9.out.ret Cp1.out Cp2.out Cp3.out ?_))
          exact hret Hn.out _ _ rfl rfl rfl _ _ Hl9.out Cp4.out Cp5.out Cp3.out
        · have hfullB : decide (1000000000000000 < B + N) = false := decide_eq_false hfull
          have hsp := Hsp.out
          rw [if_neg (by rw [EB9.out]; exact hfull)] at hsp
          obtain ⟨o0, o1⟩ := HT.out.got.2 ge
          have cO9 := Hst9.out.tru.cO Hl9.out hge5
          rw [EO9.out] at cO9
          obtain ⟨O0, hO0⟩ : ∃ O0, T1.got.getD ge 0 = O0 := ⟨_, rfl⟩
          rw [hO0] at o0 o1 cO9
          have hnote : T9.note ⟨pl, gi, ge, un, lo, hi, fr, tu⟩ N = { T9 with got := T9.got.set ge (O0 + N) } := by
            simp only [TS.note, Int.toNat_natCast, EO9.out, hO0]
          have fT9 := fun j => Hst9.out.tru.free j
          have hst10 := Hst9.out.put (Hst9.out.tru.sO Hl9.out hge5 (O0 + N)) rfl
          rw [← hnote] at hst10
          clear Hsp
          have Hst10 := Lib.hid hst10
          have Hsp := Lib.hid hsp
          clear hst10 hsp
          clear hnote hO0
          go_wp2_with fail
          exact hround _ _ Hsp.out Hst10.out

end Go.Proofs.Ytkbhmajcddmhnaa
