/- brand.open: the mothers' places (from region 14 on). -/
import Derived.Test.YtcoelhpmkhimpaaOpenA
import Derived.Test.YtcoelhpmkhimpaaSeqQ
import Derived.Lib.AppendZeros
namespace Go.Proofs.Ytcoelhpmkhimpaa
open Go.RowKit
set_option linter.unusedVariables false
set_option linter.unusedSimpArgs false
theorem infoI3 : (Try.prog.info? 3).map (fun i => (i.zero, i.size, i.bytes)) = some (some (.int .i64 0), 1, 8) := by kernel_rfl
theorem elemI34 : Elem Try.prog 34 3 1 := by
  obtain ⟨i, h1, h2, h3, h4⟩ := info_parts infoI3
  exact ⟨Try.underlying34, ⟨i, _, _, h1, h2, h3, h4, rfl, by decide⟩, by decide⟩
theorem but_grownI {W W' : World} {v : Value} (h : W.grownBy W' v.ownBlock) : But (fun b => v.ownBlock = some b) W W' := by
  obtain ⟨h1, h2, h3, h4, h5⟩ := h
  exact ⟨h1, h2, h3, h4, fun b o hb hn => (h5 b (heap_lt hb) (fun e => hn e.symm)).trans hb⟩
theorem one_int (W : World) (x : Int) (T : TypeId) : SlAt (W.alloc (.cells #[.int .i64 x] T)) 1 (some ⟨W.heap.size, 0, none⟩) 1 (fun k => (intRows .i64 [x]).getD k []) := by
  intro _
  refine ⟨W.heap.size, 0, rfl, fun k hk j v hv => ?_⟩
  obtain rfl : k = 0 := by omega
  have hj : j = 0 := by
    have := (List.getElem?_eq_some_iff.1 hv).1
    simp [intRows] at this
    omega
  subst hj
  rw [cell_of_row _ _ _ _ T (0, 0) (heap_alloc_new W _)]
  exact hv
theorem owns_setO {W : World} {base e sz b i : Nat} {v u : Value} {rows : List (List Value)} (h : Owns W base e sz v rows) (hb : b < base) : Owns (W.setCell ⟨b, i, none⟩ u) base e sz v rows := by
  refine h.kept (row := some b) ⟨rfl, rfl, rfl, by simp, fun k hk hne => Below.heap_setCell _ _ _ _ fun e => hne (by rw [e])⟩ ?_
  cases ho : v.ownBlock with
  | none => exact .inl rfl
  | some g => exact .inr fun e => by have := (h.lt g ho).1; simp only [Option.some.injEq] at e; omega
/-- the herd at work, with the places of k mothers -/
structure OB (w : World) (hb mp : Nat) (a : Option Addr) (c : Nat) (v : Value) (l : List Animal) (k : Nat) (u : Value) (V : World) : Prop where
  ext : Ext w V
  b1 : V.heap[w.heap.size]? = some (.cells #[.slice a l.length c] 63 (0, 0))
  b2 : V.heap[w.heap.size + 1]? = some (.cells #[.pointer none] 134 (0, 0))
  b3 : V.heap[w.heap.size + 1 + 1]? = some (.cells #[.int .i64 0] 40 (0, 0))
  box : V.heap[hb]? = some (.cells #[.slice a l.length c, .map (some mp), u, v] 141 (0, 0))
  map : OMapIs V mp (placeV l)
  own : Owns V (hb + 1) 3 1 u (intRows .i64 ((momsI l).take k))
theorem OB.more {w : World} {hb mp : Nat} {a : Option Addr} {c : Nat} {v : Value} {l : List Animal} {k : Nat} {u : Value} {V V' : World} (h : OB w hb mp a c v l k u V) (e : Ext V V') : OB w hb mp a c v l k u V' :=
  ⟨h.ext.trans e, e.heap h.b1, e.heap h.b2, e.heap h.b3, e.heap h.box, h.map.ext e, h.own.ext e⟩
theorem OB.put {w : World} {hb mp : Nat} {a : Option Addr} {c : Nat} {v : Value} {l : List Animal} {k : Nat} {u u' : Value} {V V' : World} (h : OB w hb mp a c v l k u V) (hhb : w.heap.size + 1 + 1 < mp) (hmh : mp < hb)
    (hg : V.grownBy V' u.ownBlock) (ho : Owns V' (hb + 1) 3 1 u' (intRows .i64 ((momsI l).take (k + 1)))) : OB w hb mp a c v l (k + 1) u' (V'.setCell ⟨hb, 2, none⟩ u') := by
  have hbu := but_grownI hg
  have hO : ∀ b, u.ownBlock = some b → hb < b := fun b hb' => (h.own.lt b hb').1
  have kp : ∀ b o, V.heap[b]? = some o → b < hb → (V'.setCell ⟨hb, 2, none⟩ u').heap[b]? = some o := fun b o h1 h2 => (Below.heap_setCell _ _ _ _ (by simp only; omega)).trans (hbu.block b o h1 fun e => by have := hO b e; omega)
  have hx := But.ext h.ext hbu fun b e => by have := hO b e; omega
  have hbx := hbu.block _ _ h.box fun e => by have := hO _ e; omega
  obtain ⟨es, ck, q1, q2⟩ := h.map
  refine ⟨hx.setCell (p := ⟨hb, 2, none⟩) (by simp only; omega) _, kp _ _ h.b1 (by omega), kp _ _ h.b2 (by omega), kp _ _ h.b3 (by omega), ?_, ⟨es, ck, kp _ _ q1 hmh, q2⟩, owns_setO ho (by omega)⟩
  rw [heap_setCell_box, hbx]
  rfl
theorem momI_root {l : List Animal} {k : Nat} {x : Animal} (h : l[k]? = some x) (e : x.mother = -1) : momI l k = -1 := by
  unfold momI
  rw [mom_root h e]
theorem momI_some {l : List Animal} {k m : Nat} {x : Animal} (h : l[k]? = some x) (e : x.mother ≠ -1) (hp : placeOf l x.mother = some m) : momI l k = m := by
  unfold momI
  rw [mom_some h e hp]
set_option maxRecDepth 100000 in
set_option maxHeartbeats 8000000 in
theorem openMoms {w W : World} {a : Option Addr} {c hb mp : Nat} {v : Value} {l : List Animal} (hok : HerdOk l) (hla : ∀ V, Ext w V → AnimalsAt V a l.length l) (hcc : l.length ≤ c ∧ c ≤ maxLen)
    (hst : OB w hb mp a c v l 0 (.slice none 0 0) W) (hhb : w.heap.size + 1 + 1 < mp) (hmh : mp < hb) {u5 u6 u7 u8 u9 u10 u11 u12 u13 u14 u15 u16 u17 u18 u19 u20 u21 u22 u23 u24 u25 u26 u27 u28 u29 u30 u31 u32 u33 u34 u35 u36 u37 u38 u39 u40 u41 u42 u43 u44 u45 u46 u47 u48 u49 u50 u51 u52 u53 u54 u55 u56 u57 u58 u59 u60 u61 u62 u63 u64 u65 u66 u67 u68 u69 u70 u71 u72 u73 u74 u75 u76 u77 u78 u79 u80 u81 u82 u83 u84 u85 u86 u87 u88 u89 u90 u91 u92 u93 u94 u95 u96 u97 u98 u99 u100 u101 u102 u103 u104 u105 u106 u107 u108 u109 u110 u111 u112 u113 u114 u115 u116 u117 u118 u119 u120 u121 u122 u123 u124 u125 u126 u127 u128 u129 u130 u131 : Value} :
    (restFrom Try.f62 14).wp Try.prog (bodyPostM Fence.wide 3 Try.prog Try.f62 (OpenPost l w))
      ⟨#[.slice a l.length c, .pointer (some ⟨w.heap.size, 0, none⟩), .pointer (some ⟨w.heap.size + 1, 0, none⟩), .pointer (some ⟨w.heap.size + 1 + 1, 0, none⟩), .pointer (some ⟨hb, 0, none⟩), u5, u6, u7, u8, u9, u10, u11, u12, u13, u14, u15, u16, u17, u18, u19, u20, u21, u22, u23, u24, u25, u26, u27, u28, u29, u30, u31, u32, u33, u34, u35, u36, u37, u38, u39, u40, u41, u42, u43, u44, u45, u46, u47, u48, u49, u50, u51, u52, u53, u54, u55, u56, u57, u58, u59, u60, u61, u62, u63, u64, u65, u66, u67, u68, u69, u70, u71, u72, u73, u74, u75, u76, u77, u78, u79, u80, u81, u82, u83, u84, u85, u86, u87, u88, u89, u90, u91, u92, u93, u94, u95, u96, u97, u98, u99, u100, u101, u102, u103, u104, u105, u106, u107, u108, u109, u110, u111, u112, u113, u114, u115, u116, u117, u118, u119, u120, u121, u122, u123, u124, u125, u126, u127, u128, u129, u130, u131], []⟩ W := by
  have hlen := hok.len
  obtain ⟨z1, _⟩ := (Ext.refl W).box hst.b1
  have Hst := Lib.hid hst
  have Hla := Lib.hid hla
  clear hst hla
  conv => arg 2; whnf
  dsimp only
  go_upto_region 15 with fail
  clear z1
  go_loopw [85] (fun i V => ∃ (k : Nat) (u : Value), i = .int .i64 k ∧ k ≤ l.length ∧ OB w hb mp a c v l k u V) (fun i _ => l.length - (intOf i).toNat)
  case atStart => exact ⟨0, _, rfl, Nat.zero_le _, Hst.out⟩
  case round =>
    obtain ⟨k, u, rfl, hk, hS⟩ := hrel
    by_cases hlt : k < l.length
    · have hltB : decide ((k : Int) < (l.length : Int)) = true := by simp; omega
      obtain ⟨b, off, x, ka, kn, kc, rfl, hxk, hbs, c0, c1, c2, c3, c4, q1, q2, hm⟩ := (Hla.out _ hS.ext).get k hlt
      clear hm
      obtain ⟨va, vc, rfl, hf0, hf1, hf2, hf3⟩ := ints_of_owns hS.own
      have hvl : ((momsI l).take k).length = k := by rw [List.length_take, momsI_len]; omega
      have hvl2 := hvl
      rw [hvl] at hf1 hf3 hS
      unfold maxLen at hf2
      have hid := (hok.each k x hxk).dam
      have hroot := @momI_root l k x hxk
      have hsome := fun j => @momI_some l k j x hxk
      have htake : (momsI l).take (k + 1) = (momsI l).take k ++ [momI l k] := by
        rw [List.take_add_one, momsI_get hlt]
        rfl
      have hlk := fun (Vq : World) (hV : Ext wr Vq) => (run_lookup_int (P := Try.prog) (hS.map.ext hV) Try.underlying138 Try.underlying3 (z := .int .i64 0) (by kernel_rfl) x.mother).1
      obtain ⟨id, mo, ⟨b0, b1⟩, ms⟩ := x
      simp only at c0 c1 c2 c3 hid hroot hsome hlk
      have hbs' := hbs
      have HS := Lib.hid hS
      have Hid := Lib.hid hid
      have Hroot := Lib.hid hroot
      have Hsome := Lib.hid hsome
      have Hlk := Lib.hid hlk
      have Htake := Lib.hid htake
      clear hS hid hroot hsome hlk htake
      clear hf0 hf3
      go_upto_region 17 with fail
      have hx4 : Ext wr (wr.alloc (.cells #[.int .i64 id, .int .i64 mo, .int .i64 b0, .int .i64 b1, .slice ka kn kc] 69)) := (Ext.refl wr).alloc _
      have hp4 := heap_alloc_new wr (.cells #[.int .i64 id, .int .i64 mo, .int .i64 b0, .int .i64 b1, .slice ka kn kc] 69)
      generalize wr.alloc (.cells #[.int .i64 id, .int .i64 mo, .int .i64 b0, .int .i64 b1, .slice ka kn kc] 69) = W4 at *
      generalize wr.heap.size = p12 at *
      have hS4 := HS.out.more hx4
      have hlk4 := fun (Vq : World) (hV : Ext W4 Vq) => Hlk.out Vq (hx4.trans hV)
      obtain ⟨R1, hR1⟩ : ∃ R, (placeV l mo).getD (.int .i64 0) = R := ⟨_, rfl⟩
      obtain ⟨R2, hR2⟩ : ∃ R, (placeV l mo).isSome = R := ⟨_, rfl⟩
      rw [hR1, hR2] at hlk4
      clear c0 c1 c2 c3 c4 hbs hbs' HS Hlk hx4
      have HS4 := Lib.hid hS4
      have Hp4 := Lib.hid hp4
      have Hlk4 := Lib.hid hlk4
      have HR1 := Lib.hid hR1
      have HR2 := Lib.hid hR2
      clear hS4 hp4 hlk4 hR1 hR2
      refine wp_region_ext (by kernel_rfl) (by kernel_rfl) (fun f hf hs => ?_)
      have f0 := fun q => ((hf q).box Hp4.out).1
      have f1 := fun q => ((hf q).box HS4.out.box).1
      have f2 := fun q => Hlk4.out _ (hf q)
      clear hf hs
      repeat (go_big_quiet_step (fail))
      refine wpQuiet_nil ?_
      intro W5 hW5
      clear f0 f1 f2
      have hS5 := HS4.out.more hW5
      have hp5 := hW5.heap Hp4.out
      obtain ⟨y0, y1⟩ := (Ext.refl W5).box hp5
      clear HS4 hW5 Hlk4
      have HS5 := Lib.hid hS5
      clear hS5
      by_cases hm1 : mo = -1
      · have hB : (mo == -1) = true := by simpa using hm1
        have hB' : decide (mo = -1) = true := decide_eq_true hm1
        have hmm := Hroot.out hm1
        have hb5 := HS5.out.box
        obtain ⟨y2, y3⟩ := (Ext.refl W5).box hb5
        have hown5 := HS5.out.own.alloc (.cells #[.int .i64 (momI l k)] 3)
        have hsrc5 := one_int W5 (momI l k) 3
        have hhb5 := heap_lt hb5
        clear hb5
        obtain ⟨MM, hMM⟩ : ∃ M, momI l k = M := ⟨_, rfl⟩
        rw [hMM] at hown5 hsrc5
        have Hown5 := Lib.hid hown5
        have Hsrc5 := Lib.hid hsrc5
        have HMM := Lib.hid hMM
        clear hown5 hsrc5 hMM
        have hM1 : MM = -1 := by rw [← HMM.out]; exact hmm
        subst hM1
        clear hm1
        have hSa := HS5.out.more ((Ext.refl W5).alloc (.cells #[.int .i64 (-1)] 3))
        have hrl : ((intRows .i64 ((momsI l).take k)).length : Nat) = k := by simp [intRows, momsI_len]; omega
        have hne : ¬((Value.slice va k vc).ownBlock = some hb) := fun e => by have := (HS5.out.own.lt hb e).1; omega
        have hl6 : ((momsI l).take k ++ [(-1)]).length = k + 1 := by rw [List.length_append, hvl2]; rfl
        have HSa := Lib.hid hSa
        have Hne := Lib.hid hne
        have Hl6 := Lib.hid hl6
        clear hSa hne hl6
        clear hmm
        go_wp2_with (at_builtin; refine wpList_app elemI34 _ rfl (.tmp 108) (.tmp 110) rfl (hb + 1) (.slice va k vc) (intRows .i64 ((momsI l).take k)) rfl Hown5.out (some ⟨W5.heap.size, 0, none⟩) 1 1 (intRows .i64 [(-1)]) rfl rfl Hsrc5.out (intRows_row _ _) (by rw [hrl]; omega) (by simp; omega) ?_; intro v6 w6 ho6 hg6 _; rw [← intRows_append] at ho6; obtain ⟨a6, c6, e6, _, _, _, _⟩ := ints_of_owns ho6; rw [Hl6.out] at e6; subst e6; have hb6 := (but_grownI hg6).block _ _ HSa.out.box Hne.out; clear y2 y3; obtain ⟨y2, y3⟩ := (Ext.refl w6).box hb6; have hlt6 := heap_lt hb6; clear hb6; have Ho6 := Lib.hid ho6; have Hg6 := Lib.hid hg6; clear ho6 hg6)
        go_roundw
        case rel => exact ⟨k + 1, _, by go_num, by omega, HSa.out.put hhb hmh Hg6.out (by rw [Htake.out, HMM.out]; exact Ho6.out)⟩
        case measure => simp [intOf]; omega
      · have hB : (mo == -1) = false := by simpa using hm1
        have hB' : decide (mo = -1) = false := decide_eq_false hm1
        obtain ⟨m, hpm⟩ := Hid.out.resolve_left hm1
        have hmm := Hsome.out m hm1 hpm
        have hr1 : R1 = .int .i64 (m : Int) := by
          rw [← HR1.out]
          unfold placeV
          rw [hpm]
          rfl
        have hr2 : R2 = true := by
          rw [← HR2.out]
          unfold placeV
          rw [hpm]
          rfl
        subst hr1 hr2
        have hb5 := HS5.out.box
        obtain ⟨y2, y3⟩ := (Ext.refl W5).box hb5
        have hown5 := HS5.out.own.alloc (.cells #[.int .i64 (momI l k)] 3)
        have hsrc5 := one_int W5 (momI l k) 3
        have hhb5 := heap_lt hb5
        clear hb5
        obtain ⟨MM, hMM⟩ : ∃ M, momI l k = M := ⟨_, rfl⟩
        rw [hMM] at hown5 hsrc5
        have Hown5 := Lib.hid hown5
        have Hsrc5 := Lib.hid hsrc5
        have HMM := Lib.hid hMM
        clear hown5 hsrc5 hMM
        have hM1 : MM = (m : Int) := by rw [← HMM.out]; exact hmm
        subst hM1
        clear hm1 hpm
        have hSa := HS5.out.more ((Ext.refl W5).alloc (.cells #[.int .i64 ((m : Nat) : Int)] 3))
        have hrl : ((intRows .i64 ((momsI l).take k)).length : Nat) = k := by simp [intRows, momsI_len]; omega
        have hne : ¬((Value.slice va k vc).ownBlock = some hb) := fun e => by have := (HS5.out.own.lt hb e).1; omega
        have hl6 : ((momsI l).take k ++ [((m : Nat) : Int)]).length = k + 1 := by rw [List.length_append, hvl2]; rfl
        have HSa := Lib.hid hSa
        have Hne := Lib.hid hne
        have Hl6 := Lib.hid hl6
        clear hSa hne hl6
        clear hmm
        go_wp2_with (at_builtin; refine wpList_app elemI34 _ rfl (.tmp 108) (.tmp 110) rfl (hb + 1) (.slice va k vc) (intRows .i64 ((momsI l).take k)) rfl Hown5.out (some ⟨W5.heap.size, 0, none⟩) 1 1 (intRows .i64 [((m : Nat) : Int)]) rfl rfl Hsrc5.out (intRows_row _ _) (by rw [hrl]; omega) (by simp; omega) ?_; intro v6 w6 ho6 hg6 _; rw [← intRows_append] at ho6; obtain ⟨a6, c6, e6, _, _, _, _⟩ := ints_of_owns ho6; rw [Hl6.out] at e6; subst e6; have hb6 := (but_grownI hg6).block _ _ HSa.out.box Hne.out; clear y2 y3; obtain ⟨y2, y3⟩ := (Ext.refl w6).box hb6; have hlt6 := heap_lt hb6; clear hb6; have Ho6 := Lib.hid ho6; have Hg6 := Lib.hid hg6; clear ho6 hg6)
        go_roundw
        case rel => exact ⟨k + 1, _, by go_num, by omega, HSa.out.put hhb hmh Hg6.out (by rw [Htake.out, HMM.out]; exact Ho6.out)⟩
        case measure => simp [intOf]; omega
    · have hltB : decide ((k : Int) < (l.length : Int)) = false := by simp; omega
      obtain rfl : k = l.length := by omega
      have hall : (momsI l).take l.length = momsI l := List.take_of_length_le (by rw [momsI_len]; omega)
      have how := hS.own
      rw [hall] at how
      obtain ⟨va, vc, rfl, hf0, hf1, hf2, hf3⟩ := ints_of_owns how
      rw [momsI_len] at hf1 hf3 hS
      have hin : HerdIn wr hb a c mp va vc v l := ⟨hS.box, ⟨hf1, hf2⟩, Hla.out _ hS.ext, hcc, hS.map, hf3⟩
      have hx := hS.ext
      have g1 := hS.b1
      have g2 := hS.b2
      have g3 := hS.b3
      have Hin := Lib.hid hin
      have Hx := Lib.hid hx
      have G1 := Lib.hid g1
      have G2 := Lib.hid g2
      have G3 := Lib.hid g3
      have Hf0 := Lib.hid hf0
      clear hin hx g1 g2 g3 hf0
      clear hS how hf3 hall
      go_upto_if 86 with fail
      iterate 6 go_step
      exact openTail hok (Hla.out _ (Ext.refl _)) Hx.out G1.out G2.out G3.out Hin.out (by omega) (fun x hx => by have := Hf0.out x hx; omega)
end Go.Proofs.Ytcoelhpmkhimpaa
