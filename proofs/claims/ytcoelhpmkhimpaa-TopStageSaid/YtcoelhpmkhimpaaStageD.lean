/- TopStage: the days of a leg. -/
import Derived.Test.YtcoelhpmkhimpaaStageP
import Derived.Test.YtcoelhpmkhimpaaFrom
namespace Go.Proofs.Ytcoelhpmkhimpaa
open Go.RowKit
set_option linter.unusedVariables false
set_option linter.unusedSimpArgs false
set_option maxRecDepth 100000 in
set_option maxHeartbeats 8000000 in
theorem stageDays {Q : Exit → Act → World → Prop} {w W2 V : World} (s : Breed) (q : Camel) (m : March) {ga sa : Option Addr} {gn gc sc n p23 k : Nat} {n0 : Int} (l : List Camel)
    (hS : StIn W2 (w.heap.size + 1) q V) (hx : Ext w V) (hb : V.heap[w.heap.size]? = some (.cells s.cells.toArray 25 (0, 0))) (hm : V.heap[w.heap.size + 1 + 1]? = some (.cells m.cells.toArray 29 (0, 0))) (hd : V.heap[p23]? = some (.cells #[.int .i64 n0, .int .i64 ((n : Int) + 1)] 23 (0, 0))) (hn : n < 60)
    (hbo : breedOk s = true) (hq : CamelOk s q) (hdo : dayOk m = true) (hlv : daysOf s q (List.replicate (n + 1) m) = some (l, 0)) (hll : l.length = n + 1) (hlo : ∀ x ∈ l, CamelOk s x)
    {u0 u1 u2 u3 u4 u5 u6 u12 u13 u15 u16 u19 u20 u21 u22 u24 u25 u26 u27 u28 u29 u30 u31 u32 u33 u34 u35 u36 u37 u38 u39 u40 u41 u42 u43 u44 u45 u46 u47 u48 u49 u50 u51 u52 u53 u54 u55 u56 u57 u58 u59 u60 u61 u62 u63 u64 u65 u66 u67 u68 u69 u70 u71 u72 u73 u74 u75 u76 u80 u81 u82 u83 u84 u85 u86 u87 u88 u89 u90 u91 u92 u93 u94 u95 u96 u97 u98 u99 u100 u101 u102 u103 u104 u105 u106 u107 u108 u109 u110 u111 u112 u113 u114 u115 u116 u117 u118 u119 u120 u121 u122 u123 u124 u125 u126 u127 u128 u129 u130 u131 u132 u133 u134 u135 u136 u137 u138 u139 u140 u141 u142 u143 u144 u145 u146 u147 u148 u149 u150 u151 u152 u153 u154 u155 u156 u157 u158 u159 u160 u161 u162 u163 u164 u165 u166 u167 u168 u169 u170 u171 u172 u173 u174 u175 u176 u177 u178 u179 u180 u181 u182 u183 u184 u185 u186 u187 u188 : Value}
    (hround : ∀ (q' : Camel) (W' : World), CamelOk s q' → StIn W2 (w.heap.size + 1) q' W' → ∀ {v22 v23 v24 v25 v26 v27 v28 v29 v30 v31 v80 v81 v82 v83 v84 v85 v86 v87 v88 v89 v90 v91 v92 v93 v94 v95 v96 v97 v98 v99 v100 v101 v102 v103 v104 v105 v106 v107 v108 v109 v110 v111 v112 v113 v114 v115 v116 v117 v118 v119 v120 v121 v122 v123 v124 v125 v126 v127 v128 v129 v130 v131 v132 v133 v134 v135 v136 v137 v138 v139 v140 v141 v142 v143 v144 v145 v146 v147 v148 v149 v150 v151 v152 v153 v154 v155 v156 v157 v158 v159 v160 v161 v162 v163 v164 v165 v166 v167 v168 v169 v170 v171 v172 v173 v174 v175 v176 v177 v178 v179 v180 v181 v182 v183 v184 v185 v186 v187 : Value},
      Q .normal ⟨#[u0, u1, u2, u3, u4, u5, u6, .slice ga gn gc, .pointer (some ⟨w.heap.size, 0, none⟩), .pointer (some ⟨w.heap.size + 1, 0, none⟩), .pointer (some ⟨w.heap.size + 1 + 1, 0, none⟩), .pointer (some ⟨w.heap.size + 1 + 1 + 1, 0, none⟩), u12, u13, .pointer (some ⟨w.heap.size + 1 + 1 + 1 + 1, 0, none⟩), u15, u16, .bool true, .slice sa gn sc, u19, u20, u21, v22, v23, v24, v25, v26, v27, v28, v29, v30, v31, u32, u33, u34, u35, u36, u37, u38, u39, u40, u41, u42, u43, u44, u45, u46, u47, u48, u49, u50, u51, u52, u53, u54, u55, u56, u57, u58, u59, u60, u61, u62, u63, u64, u65, u66, u67, u68, u69, u70, u71, u72, u73, u74, u75, u76, .slice sa gn sc, .int .i64 gn, .int .i64 k, v80, v81, v82, v83, v84, v85, v86, v87, v88, v89, v90, v91, v92, v93, v94, v95, v96, v97, v98, v99, v100, v101, v102, v103, v104, v105, v106, v107, v108, v109, v110, v111, v112, v113, v114, v115, v116, v117, v118, v119, v120, v121, v122, v123, v124, v125, v126, v127, v128, v129, v130, v131, v132, v133, v134, v135, v136, v137, v138, v139, v140, v141, v142, v143, v144, v145, v146, v147, v148, v149, v150, v151, v152, v153, v154, v155, v156, v157, v158, v159, v160, v161, v162, v163, v164, v165, v166, v167, v168, v169, v170, v171, v172, v173, v174, v175, v176, v177, v178, v179, v180, v181, v182, v183, v184, v185, v186, v187, u188], []⟩ W') :
    (restFrom Try.f3 22).wp Try.prog Q
      ⟨#[u0, u1, u2, u3, u4, u5, u6, .slice ga gn gc, .pointer (some ⟨w.heap.size, 0, none⟩), .pointer (some ⟨w.heap.size + 1, 0, none⟩), .pointer (some ⟨w.heap.size + 1 + 1, 0, none⟩), .pointer (some ⟨w.heap.size + 1 + 1 + 1, 0, none⟩), u12, u13, .pointer (some ⟨w.heap.size + 1 + 1 + 1 + 1, 0, none⟩), u15, u16, .bool true, .slice sa gn sc, u19, u20, u21, u22, .pointer (some ⟨p23, 0, none⟩), u24, u25, u26, u27, u28, u29, u30, u31, u32, u33, u34, u35, u36, u37, u38, u39, u40, u41, u42, u43, u44, u45, u46, u47, u48, u49, u50, u51, u52, u53, u54, u55, u56, u57, u58, u59, u60, u61, u62, u63, u64, u65, u66, u67, u68, u69, u70, u71, u72, u73, u74, u75, u76, .slice sa gn sc, .int .i64 gn, .int .i64 k, u80, u81, u82, u83, u84, u85, u86, u87, u88, u89, u90, u91, u92, u93, u94, u95, u96, u97, u98, u99, u100, u101, u102, u103, u104, u105, u106, u107, u108, u109, u110, u111, u112, u113, u114, u115, u116, u117, u118, u119, u120, u121, u122, u123, u124, u125, u126, u127, u128, u129, u130, u131, u132, u133, u134, u135, u136, u137, u138, u139, u140, u141, u142, u143, u144, u145, u146, u147, u148, u149, u150, u151, u152, u153, u154, u155, u156, u157, u158, u159, u160, u161, u162, u163, u164, u165, u166, u167, u168, u169, u170, u171, u172, u173, u174, u175, u176, u177, u178, u179, u180, u181, u182, u183, u184, u185, u186, u187, u188], []⟩ V := by
  dsimp only at hround
  have hsp := stretch_any
  have hask : askDays s q (List.replicate (n + 1) m) = 0 := ask_ok hbo (camelIs.2 hq) (by simp; omega) (fun x hx => by rw [(List.mem_replicate.1 hx).2]; exact hdo)
  have hbi := breedIs hbo
  have hdl := heap_lt hd
  have hc := hS.at'
  have hcl := heap_lt hc
  obtain ⟨z23, _⟩ := (Ext.refl V).box hd
  obtain ⟨hh, ld, ⟨e0, e1⟩, ⟨g0, g1⟩, ⟨d0, d1⟩⟩ := m
  unfold March.cells at hm
  simp only at hm
  have Hround := Lib.hid hround
  have HS := Lib.hid hS
  have Hx := Lib.hid hx
  have Hb := Lib.hid hb
  have Hm := Lib.hid hm
  have Hd := Lib.hid hd
  have Hbo := Lib.hid hbo
  have Hq := Lib.hid hq
  have Hdo := Lib.hid hdo
  have Hlv := Lib.hid hlv
  have Hlo := Lib.hid hlo
  have Hsp := Lib.hid hsp
  have Hask := Lib.hid hask
  have Hbi := Lib.hid hbi
  have Hc := Lib.hid hc
  clear hround hS hx hb hm hd hbo hq hdo hlv hlo hsp hask hbi hc
  conv => arg 2; whnf
  go_wp2_with fail
  clear z23
  go_loopw [27, 146] (fun v i wr => ∃ (j : Nat), i = .int .i64 j ∧ j ≤ n + 1 ∧ Ext V wr ∧ Owns wr V.heap.size 29 8 v (dayRows (List.replicate j ⟨hh, ld, ⟨e0, e1⟩, ⟨g0, g1⟩, ⟨d0, d1⟩⟩))) (fun _ i _ => n + 1 - (intOf i).toNat)
  case atStart => exact ⟨0, rfl, by omega, Ext.refl _, Owns.nil _ _ _ _⟩
  case round =>
    obtain ⟨j, rfl, hj, hxv, hown⟩ := hrel
    obtain ⟨va, vc, rfl, hfr, hvc, hvm, hda⟩ := days_of_owns hown
    rw [List.length_replicate] at hvc hda hown ⊢
    unfold maxLen at hvm
    by_cases hlt : j < n + 1
    · have hltB : decide ((j : Int) < (n : Int) + 1) = true := by simp; omega
      have hmw := hxv.heap Hm.out
      have hsz := hxv.size
      have Hmw := Lib.hid hmw
      have Hxv := Lib.hid hxv
      have Hown := Lib.hid hown
      clear hmw hxv hown
      clear hfr hda
      go_wp2_with (first | (refine wpList_load_row rfl 29 (.tmp 10) rfl (w.heap.size + 1 + 1) rfl 29 _ (0, 0) _ Hmw.out Try.underlying29 rfl (by kernel_rfl) ?_) | (at_builtin; refine wpList_app elem48s _ rfl (.tmp 148) (.tmp 150) rfl V.heap.size (.slice va j vc) (dayRows (List.replicate j ⟨hh, ld, ⟨e0, e1⟩, ⟨g0, g1⟩, ⟨d0, d1⟩⟩)) rfl (Hown.out.alloc _) (some ⟨wr.heap.size, 0, none⟩) 1 1 (dayRows [⟨hh, ld, ⟨e0, e1⟩, ⟨g0, g1⟩, ⟨d0, d1⟩⟩]) rfl rfl (day_src wr ⟨hh, ld, ⟨e0, e1⟩, ⟨g0, g1⟩, ⟨d0, d1⟩⟩) (dayRows_row _) (by simp [dayRows]; omega) (by simp; omega) ?_; intro v6 w6 ho6 hg6 _; have hx6 := (Hxv.out.alloc (.cells #[.int .i64 hh, .int .i64 ld, .int .i64 e0, .int .i64 e1, .int .i64 g0, .int .i64 g1, .int .i64 d0, .int .i64 d1] 29)).app (Hown.out.alloc _) hg6; rw [← dayRows_append, ← List.replicate_succ'] at ho6; clear hg6; obtain ⟨va6, vc6, hv6, -⟩ := days_of_owns ho6; rw [List.length_replicate] at hv6; subst hv6; have Ho6 := Lib.hid ho6; have Hx6 := Lib.hid hx6; clear ho6 hx6))
      go_roundw
      case rel => exact ⟨j + 1, by go_num, by omega, Hx6.out, Ho6.out⟩
      case measure => simp [intOf]; omega
    · have hltB : decide ((j : Int) < (n : Int) + 1) = false := by simp; omega
      obtain rfl : j = n + 1 := by omega
      have hcs := hxv.heap Hb.out
      have hcq := hxv.heap Hc.out
      have hcd := hxv.heap Hd.out
      have hSv := HS.out.next hxv
      have hxw := Hx.out.trans hxv
      have hvb : ∀ x, va = some x → x.block < wr.heap.size := fun x h0 => by
        obtain ⟨b, off, _, e, _, hb, _⟩ := hda.get 0 (by omega)
        rw [h0] at e
        cases e
        exact hb
      have hdy := days_any s q (List.replicate (n + 1) ⟨hh, ld, ⟨e0, e1⟩, ⟨g0, g1⟩, ⟨d0, d1⟩⟩) va (n + 1) vc (l, 0) wr hda Hask.out Hlv.out hvc (by unfold maxLen; omega) hvb
      rw [Breed.val_eq, Camel.val_eq] at hdy
      unfold DaysPost at hdy
      simp only [hll] at hdy
      have Hcs := Lib.hid hcs
      have Hcq := Lib.hid hcq
      have Hcd := Lib.hid hcd
      have HSv := Lib.hid hSv
      have Hxw := Lib.hid hxw
      have Hdy := Lib.hid hdy
      clear hcs hcq hcd hSv hxw hdy
      clear hfr hvb hown hxv hda hlt
      go_upto_region 28 with (first | (refine wpList_load_row rfl 25 (.tmp 8) rfl w.heap.size rfl 25 _ (0, 0) _ Hcs.out Try.underlying25 rfl (by kernel_rfl) ?_) | (refine wpList_load_row rfl 27 (.tmp 9) rfl (w.heap.size + 1) rfl 27 _ (0, 0) _ Hcq.out Try.underlying27 rfl (by kernel_rfl) ?_) | (go_at_call 15; refine Hdy.out.mono ?_; rintro er v9 ⟨a9, c9, rfl, -, hk1, hk2, hC9, hx9⟩))
      have hd9 := hx9.heap Hcd.out
      have hb9 := hx9.heap Hcs.out
      have hS9 := HSv.out.next hx9
      have hq9 := hS9.at'
      obtain ⟨bb, off, x, rfl, hxk, hbb, y0, y1, y2, y3, y4, y5, y6⟩ := hC9.get n (by omega)
      have hxo := Hlo.out x (List.mem_of_getElem? hxk)
      obtain ⟨⟨x0, x1⟩, ⟨x2, x3⟩, ⟨x4, x5⟩, x6⟩ := x
      simp only at y0 y1 y2 y3 y4 y5 y6
      unfold maxLen at hk2
      have hnB : (((n + 1 : Nat) : Int) != (n : Int) + 1) = false := by simp
      have hnC : ((n : Int) + 1 - 1) = (n : Int) := by omega
      obtain ⟨z23, _⟩ := (Ext.refl v9).box hd9
      have hfl := full_ok Hbi.out hxo
      have hql := heap_lt hq9
      have Hd9 := Lib.hid hd9
      have Hb9 := Lib.hid hb9
      have HS9 := Lib.hid hS9
      have Hq9 := Lib.hid hq9
      have Hfl := Lib.hid hfl
      clear hd9 hb9 hS9 hq9 hfl
      clear hxk hxo hx9 hC9 Hcs Hcq Hcd HSv Hxw Hdy Hask Hlv Hlo Hm Hd Hb Hc HS Hx
      go_upto_region 31 with (refine wpList_store_row rfl 27 (.tmp 9) (.tmp 180) rfl (w.heap.size + 1) #[.int .i64 x0, .int .i64 x1, .int .i64 x2, .int .i64 x3, .int .i64 x4, .int .i64 x5, .bool x6] rfl rfl 27 _ Hq9.out (by kernel_rfl) (by rfl) (by kernel_rfl) ?_)
      have hS10 := HS9.out.row ⟨⟨x0, x1⟩, ⟨x2, x3⟩, ⟨x4, x5⟩, x6⟩
      change StIn W2 (w.heap.size + 1) ⟨⟨x0, x1⟩, ⟨x2, x3⟩, ⟨x4, x5⟩, x6⟩ (v9.setRow (w.heap.size + 1) #[.int .i64 x0, .int .i64 x1, .int .i64 x2, .int .i64 x3, .int .i64 x4, .int .i64 x5, .bool x6]) at hS10
      have hb10 := (setRow_other v9 (w.heap.size + 1) w.heap.size #[.int .i64 x0, .int .i64 x1, .int .i64 x2, .int .i64 x3, .int .i64 x4, .int .i64 x5, .bool x6] (by omega)).trans Hb9.out
      generalize v9.setRow (w.heap.size + 1) #[.int .i64 x0, .int .i64 x1, .int .i64 x2, .int .i64 x3, .int .i64 x4, .int .i64 x5, .bool x6] = W10 at *
      have hfull : W10.cell? ⟨w.heap.size, 0, none⟩ = some (.int .i64 s.full) := ((Ext.refl W10).box hb10).1 0
      have HS10 := Lib.hid hS10
      clear hS10
      clear z23 y0 y1 y2 y3 y4 y5 y6 hb10 Hb9 HS9 Hq9 Hd9
      go_wp2_with (go_at_call 16; refine (Hsp.out _ _ _).mono ?_; rintro er v11 ⟨rfl, hx11⟩; have hS11 := HS10.out.next hx11; have h99 : v11.heap[w.heap.size + 1]? = some (.cells #[.int .i64 x0, .int .i64 x1, .int .i64 x2, .int .i64 x3, .int .i64 x4, .int .i64 x5, .bool x6] 27 (0, 0)) := hS11.at'; obtain ⟨z9, z9'⟩ := (Ext.refl v11).box h99; have h9l := heap_lt hS11.at'; have HS11 := Lib.hid hS11; clear hS11)
      exact Hround.out _ _ Hfl.out (HS11.out.full s.full)
end Go.Proofs.Ytcoelhpmkhimpaa
