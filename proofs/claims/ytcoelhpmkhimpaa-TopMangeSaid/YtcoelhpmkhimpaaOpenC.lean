/- brand.open: a herd that is in order is opened. -/
import Derived.Test.YtcoelhpmkhimpaaOpenB
import Derived.Test.YtcoelhpmkhimpaaSignC
namespace Go.Proofs.Ytcoelhpmkhimpaa
open Go.RowKit
set_option linter.unusedVariables false
set_option linter.unusedSimpArgs false
theorem But.boxI {O : Nat → Prop} {w w' : World} (h : But O w w') {b : Nat} {cs : Array Value} {t : TypeId} (hb : w.heap[b]? = some (.cells cs t (0, 0))) (hn : ¬O b) : (∀ j, w'.cell? ⟨b, j, none⟩ = cs[j]?) ∧ (∀ j, w'.frozen? ⟨b, j, none⟩ = false) := (Ext.refl w').box (h.block _ _ hb hn)
theorem but_block {W W' : World} {p : Nat} (h : W.grownBy W' (some p)) : But (fun b => b = p) W W' := by
  obtain ⟨h1, h2, h3, h4, h5⟩ := h
  exact ⟨h1, h2, h3, h4, fun b o hb hn => (h5 b (heap_lt hb) (fun e => hn (Option.some.inj e))).trans hb⟩
theorem info196 : (Try.prog.info? 196).map (fun i => (i.zero, i.size, i.bytes)) = some (some (.agg #[.int .i64 0, .int .i64 0, .int .i64 0, .int .i64 0, .int .i64 0, .int .i64 0, .int .i64 0, .int .i64 0]), 8, 64) := by kernel_rfl
theorem elem139 : Elem Try.prog 139 196 8 := by
  obtain ⟨i, h1, h2, h3, h4⟩ := info_parts info196
  exact ⟨Try.underlying139, ⟨i, _, _, h1, h2, h3, h4, rfl, by decide⟩, by decide⟩
def signRow (S : List Int) : List Value := S.map (.int .i64)
def signRows (R : List (List Int)) : List (List Value) := R.map signRow
theorem signRows_row {R : List (List Int)} (h : ∀ S ∈ R, S.length = 8) : ∀ r ∈ signRows R, r.length = 8 ∧ ∀ u ∈ r, u.oneCell' = true := by
  intro r hr
  obtain ⟨S, hS, rfl⟩ := List.mem_map.1 hr
  refine ⟨by simp [signRow, h S hS], fun u hu => ?_⟩
  obtain ⟨x, _, rfl⟩ := List.mem_map.1 hu
  rfl
theorem signRows_append (A B : List (List Int)) : signRows (A ++ B) = signRows A ++ signRows B := by simp [signRows]
theorem sign_src {W : World} {b : Nat} {S : List Int} (h : W.heap[b]? = some (.cells (ivs S) 196 (0, 0))) : SlAt W 8 (some ⟨b, 0, none⟩) 1 (fun k => (signRows [S]).getD k []) :=
  slAt_one (fun j v hv => by
    rw [cell_of_row _ _ _ _ 196 (0, 0) h, Nat.zero_add]
    unfold ivs
    rw [List.getElem?_toArray]
    exact hv)
theorem len8 {S : List Int} (h : S.length = 8) : ∃ s0 s1 s2 s3 s4 s5 s6 s7, S = [s0, s1, s2, s3, s4, s5, s6, s7] := by
  match S, h with
  | [s0, s1, s2, s3, s4, s5, s6, s7], _ => exact ⟨s0, s1, s2, s3, s4, s5, s6, s7, rfl⟩
theorem place_take {l : List Animal} {k : Nat} {x : Animal} (h : l[k]? = some x) (hp : placeOf l x.id = some k) : placeV (l.take k) x.id = none ∧ placeV (l.take (k + 1)) = fun q => if q = x.id then some (.int .i64 (k : Int)) else placeV (l.take k) q := by
  have hk : k < l.length := (List.getElem?_eq_some_iff.1 h).1
  have hn : placeOf (l.take k) x.id = none := by
    unfold placeOf at hp ⊢
    rw [List.findIdx?_eq_some_iff_getElem] at hp
    obtain ⟨_, _, h3⟩ := hp
    rw [List.findIdx?_eq_none_iff]
    intro a ha
    obtain ⟨j, hj, rfl⟩ := List.mem_iff_getElem.1 ha
    rw [List.length_take] at hj
    rw [List.getElem_take]
    have := h3 j (by omega)
    simpa using this
  have ht : l.take (k + 1) = l.take k ++ [x] := by rw [List.take_add_one, h]; rfl
  refine ⟨by unfold placeV; rw [hn]; rfl, funext fun q => ?_⟩
  by_cases hq : q = x.id
  · subst hq
    rw [if_pos rfl]
    unfold placeV placeOf
    rw [ht, List.findIdx?_append]
    unfold placeOf at hn
    rw [hn]
    have hl : (l.take k).length = k := by rw [List.length_take]; omega
    simp [hl]
  · rw [if_neg hq]
    unfold placeV placeOf
    rw [ht, List.findIdx?_append]
    have hx : List.findIdx? (fun a => a.id == q) [x] = none := by simp [List.findIdx?_cons, Ne.symm hq]
    rw [hx]
    simp
/-- the first loop's state -/
structure OA (w : World) (a : Option Addr) (c : Nat) (l : List Animal) (k : Nat) (v : Value) (V : World) : Prop where
  ext : Ext w V
  b1 : V.heap[w.heap.size]? = some (.cells #[.slice a l.length c] 63 (0, 0))
  b2 : V.heap[w.heap.size + 1]? = some (.cells #[.pointer none] 134 (0, 0))
  b3 : V.heap[w.heap.size + 1 + 1]? = some (.cells #[.int .i64 0] 40 (0, 0))
  box : V.heap[w.heap.size + 1 + 1 + 1 + 1]? = some (.cells #[.slice a l.length c, .map (some (w.heap.size + 1 + 1 + 1)), .slice none 0 0, v] 141 (0, 0))
  map : OMapIs V (w.heap.size + 1 + 1 + 1) (placeV (l.take k))
  own : ∃ R : List (List Int), R.length = k ∧ Owns V (w.heap.size + 1 + 1 + 1 + 1 + 1) 196 8 v (signRows R)
theorem OA.more {w : World} {a : Option Addr} {c : Nat} {l : List Animal} {k : Nat} {v : Value} {V V' : World} (h : OA w a c l k v V) (e : Ext V V') : OA w a c l k v V' :=
  ⟨h.ext.trans e, e.heap h.b1, e.heap h.b2, e.heap h.b3, e.heap h.box, h.map.ext e, let ⟨R, h1, h2⟩ := h.own; ⟨R, h1, h2.ext e⟩⟩
/-- the map has been written -/
theorem OA.mapped {w : World} {a : Option Addr} {c : Nat} {l : List Animal} {k : Nat} {v : Value} {V V' : World} (h : OA w a c l k v V) (hg : V.grownBy V' (some (w.heap.size + 1 + 1 + 1))) (hm : OMapIs V' (w.heap.size + 1 + 1 + 1) (placeV (l.take (k + 1)))) :
    Ext w V' ∧ V'.heap[w.heap.size]? = some (.cells #[.slice a l.length c] 63 (0, 0)) ∧ V'.heap[w.heap.size + 1]? = some (.cells #[.pointer none] 134 (0, 0)) ∧ V'.heap[w.heap.size + 1 + 1]? = some (.cells #[.int .i64 0] 40 (0, 0))
      ∧ V'.heap[w.heap.size + 1 + 1 + 1 + 1]? = some (.cells #[.slice a l.length c, .map (some (w.heap.size + 1 + 1 + 1)), .slice none 0 0, v] 141 (0, 0)) ∧ OMapIs V' (w.heap.size + 1 + 1 + 1) (placeV (l.take (k + 1))) ∧ ∃ R : List (List Int), R.length = k ∧ Owns V' (w.heap.size + 1 + 1 + 1 + 1 + 1) 196 8 v (signRows R) := by
  have kp : ∀ b o, V.heap[b]? = some o → b ≠ w.heap.size + 1 + 1 + 1 → V'.heap[b]? = some o := fun b o h1 h2 => (but_block hg).block b o h1 h2
  refine ⟨But.ext h.ext (but_block hg) (fun b e => by omega), kp _ _ h.b1 (by omega), kp _ _ h.b2 (by omega), kp _ _ h.b3 (by omega), kp _ _ h.box (by omega), hm, ?_⟩
  obtain ⟨R, h1, h2⟩ := h.own
  refine ⟨R, h1, h2.kept hg ?_⟩
  cases ho : v.ownBlock with
  | none => exact .inl rfl
  | some g => exact .inr fun e => by have := (h2.lt g ho).1; simp only [Option.some.injEq] at e; omega
theorem OA.put {w : World} {a : Option Addr} {c : Nat} {l : List Animal} {k : Nat} {v v' : Value} {V V' : World} {R : List (List Int)} {S : List Int} (h0 : Hid (Ext w V)) (h1 : Hid (V.heap[w.heap.size]? = some (.cells #[.slice a l.length c] 63 (0, 0)))) (h2 : Hid (V.heap[w.heap.size + 1]? = some (.cells #[.pointer none] 134 (0, 0)))) (h3 : Hid (V.heap[w.heap.size + 1 + 1]? = some (.cells #[.int .i64 0] 40 (0, 0))))
    (h4 : Hid (V.heap[w.heap.size + 1 + 1 + 1 + 1]? = some (.cells #[.slice a l.length c, .map (some (w.heap.size + 1 + 1 + 1)), .slice none 0 0, v] 141 (0, 0)))) (h5 : Hid (OMapIs V (w.heap.size + 1 + 1 + 1) (placeV (l.take (k + 1))))) (hR : R.length = k) (hO : Owns V (w.heap.size + 1 + 1 + 1 + 1 + 1) 196 8 v (signRows R))
    (hb : But (fun b => v.ownBlock = some b) V V') (ho : Owns V' (w.heap.size + 1 + 1 + 1 + 1 + 1) 196 8 v' (signRows (R ++ [S]))) : OA w a c l (k + 1) v' (V'.setCell ⟨w.heap.size + 1 + 1 + 1 + 1, 3, none⟩ v') := by
  have hO' : ∀ b, v.ownBlock = some b → w.heap.size + 1 + 1 + 1 + 1 < b := fun b e => (hO.lt b e).1
  have kp : ∀ b o, V.heap[b]? = some o → b < w.heap.size + 1 + 1 + 1 + 1 → (V'.setCell ⟨w.heap.size + 1 + 1 + 1 + 1, 3, none⟩ v').heap[b]? = some o := fun b o h1 h2 => (Below.heap_setCell _ _ _ _ (by simp only; omega)).trans (hb.block b o h1 fun e => by have := hO' b e; omega)
  have hx := But.ext h0.out hb fun b e => by have := hO' b e; omega
  have hbx := hb.block _ _ h4.out fun e => by have := hO' _ e; omega
  obtain ⟨es, ck, q1, q2⟩ := h5.out
  refine ⟨hx.setCell (p := ⟨w.heap.size + 1 + 1 + 1 + 1, 3, none⟩) (by simp only; omega) _, kp _ _ h1.out (by omega), kp _ _ h2.out (by omega), kp _ _ h3.out (by omega), ?_, ⟨es, ck, kp _ _ q1 (by omega), q2⟩, R ++ [S], by rw [List.length_append, hR]; rfl, owns_setO ho (by omega)⟩
  rw [heap_setCell_box, hbx]
  rfl
theorem signed8 (x : Animal) (ka : Option Addr) (kn kc : Nat) (w : World) (hm : MarksAt w ka kn x.marks) (hkc : kn ≤ kc) (hkm : kc ≤ maxLen) (hok : MarksOk x.marks) :
    Calls Try.prog 107 #[.agg #[.int .i64 x.id, .int .i64 x.mother, .int .i64 x.born.lo, .int .i64 x.born.hi, .slice ka kn kc]] w fun e w' => ∃ s0 s1 s2 s3 s4 s5 s6 s7 : Int, e = .returned (.tuple #[.agg #[.int .i64 s0, .int .i64 s1, .int .i64 s2, .int .i64 s3, .int .i64 s4, .int .i64 s5, .int .i64 s6, .int .i64 s7], .bool true]) ∧ Ext w w' :=
  (signed_any x ka kn kc w hm hkc hkm hok).mono (by
    rintro e w' ⟨S, h8, rfl, hx⟩
    obtain ⟨s0, s1, s2, s3, s4, s5, s6, s7, rfl⟩ := len8 h8
    exact ⟨s0, s1, s2, s3, s4, s5, s6, s7, rfl, hx⟩)
theorem OA.start (w W : World) (a : Option Addr) (c : Nat) (l : List Animal) (hW : ((((w.alloc (.cells #[.slice a l.length c] 63)).alloc (.cells #[.pointer none] 134)).alloc (.cells #[.int .i64 0] 40)).alloc (.map #[] 0)).alloc (.cells #[.slice a l.length c, .map (some (w.heap.size + 1 + 1 + 1)), .slice none 0 0, .slice none 0 0] 141) = W) : OA w a c l 0 (.slice none 0 0) W := by
  have e1 : ((((w.alloc (.cells #[.slice a l.length c] 63)).alloc (.cells #[.pointer none] 134)).alloc (.cells #[.int .i64 0] 40))).heap.size = w.heap.size + 1 + 1 + 1 := by simp
  have hm := OMapIs.made (((w.alloc (.cells #[.slice a l.length c] 63)).alloc (.cells #[.pointer none] 134)).alloc (.cells #[.int .i64 0] 40))
  rw [e1] at hm
  subst hW
  refine ⟨((((Ext.refl w).alloc _).alloc _).alloc _).alloc _ |>.alloc _, ?_, ?_, ?_, alloc_at _ _ _ (by simp), hm.ext ((Ext.refl _).alloc _), [], rfl, Owns.nil _ _ _ _⟩
  · exact ((((Ext.refl _).alloc _).alloc _).alloc _ |>.alloc _).heap (heap_alloc_new w _)
  · exact (((Ext.refl _).alloc _).alloc _ |>.alloc _).heap (alloc_at _ _ _ (by simp))
  · exact ((Ext.refl _).alloc _ |>.alloc _).heap (alloc_at _ _ _ (by simp))
set_option maxRecDepth 100000 in
set_option maxHeartbeats 8000000 in
theorem open_any {w : World} {a : Option Addr} {c : Nat} {l : List Animal} (hok : HerdOk l) (hla : AnimalsAt w a l.length l) (hcc : l.length ≤ c ∧ c ≤ maxLen) : Calls Try.prog 62 #[.slice a l.length c] w (OpenPost l w) := by
  have hlen := hok.len
  have hla' : ∀ V, Ext w V → AnimalsAt V a l.length l := fun V e => hla.ext e
  have Hla' := Lib.hid hla'
  clear hla'
  clear hla
  refine (callsIn_wide (n := 3)).1 ?_
  refine callsIn_of_wp_marks Try.func62 rfl trivial ?_ rfl
  simp only [Try.ntmps62, List.size_toArray, List.length_cons, List.length_nil, Nat.reduceAdd, Nat.reduceSub, Array.replicate_succ, Array.replicate_zero, List.push_toArray, List.append_toArray, List.nil_append, List.cons_append]
  refine wpIn_wide.2 ?_
  have hmm := @run_makeMap Try.prog
  go_upto_region 5 with fail
  have hst := OA.start w _ a c l rfl
  clear hmm
  generalize ((((w.alloc (.cells #[.slice a l.length c] 63)).alloc (.cells #[.pointer none] 134)).alloc (.cells #[.int .i64 0] 40)).alloc (.map #[] 0)).alloc (.cells #[.slice a l.length c, .map (some (w.heap.size + 1 + 1 + 1)), .slice none 0 0, .slice none 0 0] 141) = W0 at *
  have Hst := Lib.hid hst
  clear hst
  go_loopw [26] (fun i V => ∃ (k : Nat) (v : Value), i = .int .i64 k ∧ k ≤ l.length ∧ OA w a c l k v V) (fun i _ => l.length - (intOf i).toNat)
  case atStart => exact ⟨0, _, rfl, Nat.zero_le _, Hst.out⟩
  case round =>
    obtain ⟨k, v, rfl, hk, hS⟩ := hrel
    by_cases hlt : k < l.length
    · have hltB : decide ((k : Int) < (l.length : Int)) = true := by simp; omega
      obtain ⟨b, off, x, ka, kn, kc, rfl, hxk, hbs, c0, c1, c2, c3, c4, q1, q2, hm⟩ := (Hla'.out _ hS.ext).get k hlt
      have hak := hok.each k x hxk
      have hid1 : inB x.id 0 9999 = true := by have := hak.id; simp [inB]; omega
      have hid2 : spanOk x.born (-100000) 100000 = true := by have := hak.born; simp [spanOk]; omega
      have hmk := hak.marks
      obtain ⟨hp0, hp1⟩ := place_take hxk hak.at'
      have e1 : (placeV (l.take k) x.id).getD (.int .i64 0) = .int .i64 0 := by rw [hp0]; rfl
      have e2 : (placeV (l.take k) x.id).isSome = false := by rw [hp0]; rfl
      have hlk := fun (Vq : World) (hV : Ext wr Vq) => (run_lookup_int (P := Try.prog) (hS.map.ext hV) Try.underlying138 Try.underlying3 (z := .int .i64 0) (by kernel_rfl) x.id).1
      rw [e1, e2] at hlk
      clear hp0 e1 e2 hak
      obtain ⟨id, mo, ⟨b0, b1⟩, ms⟩ := x
      simp only at c0 c1 c2 c3 hid1 hid2 hmk hp1 hlk hm
      have hbs' := hbs
      have HS := Lib.hid hS
      have Hid1 := Lib.hid hid1
      have Hid2 := Lib.hid hid2
      have Hmk := Lib.hid hmk
      have Hp1 := Lib.hid hp1
      have Hlk := Lib.hid hlk
      have Hm := Lib.hid hm
      clear hS hid1 hid2 hmk hp1 hlk hm
      clear hxk
      go_upto_region 7 with fail
      have hx4 : Ext wr (wr.alloc (.cells #[.int .i64 id, .int .i64 mo, .int .i64 b0, .int .i64 b1, .slice ka kn kc] 69)) := (Ext.refl wr).alloc _
      have hp4 := heap_alloc_new wr (.cells #[.int .i64 id, .int .i64 mo, .int .i64 b0, .int .i64 b1, .slice ka kn kc] 69)
      generalize wr.alloc (.cells #[.int .i64 id, .int .i64 mo, .int .i64 b0, .int .i64 b1, .slice ka kn kc] 69) = W4 at *
      generalize hp5 : wr.heap.size = p6 at *
      obtain ⟨y4, _⟩ := (Ext.refl W4).box hp4
      have Hx4 := Lib.hid hx4
      have Hp4 := Lib.hid hp4
      clear hx4 hp4
      clear c0 c1 c2 c3 c4 hbs hbs'
      go_upto_region 8 with (go_at_call 107; refine (signed8 (⟨id, mo, ⟨b0, b1⟩, ms⟩ : Animal) ka kn kc _ (Hm.out.ext Hx4.out) q1 q2 Hmk.out).mono ?_; rintro e w5 ⟨s0, s1, s2, s3, s4, s5, s6, s7, rfl, hx5⟩)
      have hx6 := (Hx4.out.trans hx5).alloc (.cells #[.int .i64 s0, .int .i64 s1, .int .i64 s2, .int .i64 s3, .int .i64 s4, .int .i64 s5, .int .i64 s6, .int .i64 s7] 196)
      have hp6 := (hx5.alloc (.cells #[.int .i64 s0, .int .i64 s1, .int .i64 s2, .int .i64 s3, .int .i64 s4, .int .i64 s5, .int .i64 s6, .int .i64 s7] 196)).heap Hp4.out
      have hp7 := heap_alloc_new w5 (.cells #[.int .i64 s0, .int .i64 s1, .int .i64 s2, .int .i64 s3, .int .i64 s4, .int .i64 s5, .int .i64 s6, .int .i64 s7] 196)
      generalize w5.alloc (.cells #[.int .i64 s0, .int .i64 s1, .int .i64 s2, .int .i64 s3, .int .i64 s4, .int .i64 s5, .int .i64 s6, .int .i64 s7] 196) = W6 at *
      have hp67 : p6 < w5.heap.size := by have := hx5.size; have := heap_lt Hp4.out; omega
      have hp56 : wr.heap.size = p6 := hp5
      generalize w5.heap.size = p7 at *
      have hn6 : ¬(p6 = w.heap.size + 1 + 1 + 1) := fun e => by have := heap_lt HS.out.box; omega
      have hn7 : ¬(p7 = w.heap.size + 1 + 1 + 1) := fun e => by have := heap_lt HS.out.box; have := hp67; omega
      have hS6 := HS.out.more hx6
      have Hn6 := Lib.hid hn6
      have Hn7 := Lib.hid hn7
      clear hn6 hn7
      have hlk6 := fun (Vq : World) (hV : Ext W6 Vq) => Hlk.out Vq (hx6.trans hV)
      clear Hx4 Hp4 HS Hlk hx5 hx6 Hm y4
      have HS6 := Lib.hid hS6
      have Hlk6 := Lib.hid hlk6
      have Hp6 := Lib.hid hp6
      have Hp7 := Lib.hid hp7
      clear hS6 hlk6 hp6 hp7
      refine wp_region_ext (by kernel_rfl) (by kernel_rfl) (fun f hf hs => ?_)
      have f0 := fun q => ((hf q).box Hp6.out).1
      have f1 := fun q => ((hf q).box HS6.out.box).1
      have f2 := fun q => Hlk6.out _ (hf q)
      clear hf hs
      repeat (go_big_quiet_step (fail))
      refine wpQuiet_nil ?_
      intro W8 hW8
      clear f0 f1 f2
      have hS8 := HS6.out.more hW8
      have hp68 := hW8.heap Hp6.out
      have hp78 := hW8.heap Hp7.out
      obtain ⟨y6, _⟩ := (Ext.refl W8).box hp68
      clear HS6 hW8 Hp6 Hp7 Hlk6
      have HS8 := Lib.hid hS8
      have Hp68 := Lib.hid hp68
      have Hp78 := Lib.hid hp78
      clear hS8 hp68 hp78
      go_upto_region 11 with (first
        | (go_at_call 108; refine (fromB1 (alloc_at _ _ _ (by simp)) Hid1.out).mono ?_; rintro e v1 ⟨rfl, hx1⟩; have hv1 := ((Ext.refl W8).alloc _).trans hx1; clear y6; obtain ⟨y6, _⟩ := (Ext.refl v1).box (hv1.heap Hp68.out))
        | (go_at_call 109; refine (ordB1 (alloc_at _ _ _ (by simp)) Hid2.out).mono ?_; rintro e v2 ⟨rfl, hx2⟩; have hv2 := (hv1.alloc _).trans hx2))
      have hS9 := HS8.out.more hv2
      have hp69 := hv2.heap Hp68.out
      have hp79 := hv2.heap Hp78.out
      clear HS8 hv1 hv2 hx1 hx2 Hp68 Hp78 y6
      have HS9 := Lib.hid hS9
      have Hp69 := Lib.hid hp69
      have Hp79 := Lib.hid hp79
      clear hS9 hp69 hp79
      refine wp_region_plan (.take [0, 1, 2, 3, 4, 5, 6] (.fin (.one 7 .done))) [7] (Ext v2) _ (by kernel_rfl) (by kernel_rfl) rfl (EC.ext v2) ((Ext.refl _).drew) ?_
      simp only [planOf, treeOf, oneOp, twoOp, opsOf, consOp, callOC, oneOC, twoOC, List.getElem?_toArray, List.getElem?_cons_succ, List.getElem?_cons_zero]
      intro ι _ f hf
      have f0 := fun q => ((hf q).box Hp69.out).1
      have f1 := fun q => ((hf q).box HS9.out.box).1
      clear hf
      repeat (go_big_quiet_step (fail))
      refine wpQuiet_nil ?_
      clear f0 f1
      intro W10 hW10
      refine wpOT_one ?_
      obtain ⟨W11, hrun, hm11, hg11⟩ := run_mapUpdate_int (P := Try.prog) (HS9.out.map.ext hW10) Try.underlying138 Try.underlying3 id (.int .i64 (k : Int))
      rw [← Hp1.out] at hm11
      obtain ⟨x11, b11, b12, b13, bb11, m11, R, hRl, hown⟩ := (HS9.out.more hW10).mapped hg11 hm11
      have hp611 := (but_block hg11).block _ _ (hW10.heap Hp69.out) Hn6.out
      have hp711 := (but_block hg11).block _ _ (hW10.heap Hp79.out) Hn7.out
      clear hg11 hm11
      have hRr : (signRows R).length = k := by unfold signRows; rw [List.length_map, hRl]
      obtain ⟨va, vc, rfl, _, _, _, _⟩ := hown.slAt
      rw [hRr] at bb11 hown
      have X11 := Lib.hid x11
      have B11 := Lib.hid b11
      have B12 := Lib.hid b12
      have B13 := Lib.hid b13
      have Bb11 := Lib.hid bb11
      have M11 := Lib.hid m11
      have Hp611 := Lib.hid hp611
      have Hp711 := Lib.hid hp711
      have Hown := Lib.hid hown
      have HRl := Lib.hid hRl
      clear x11 b11 b12 b13 bb11 m11 hp611 hp711 hown hRl
      clear HS9 Hp69 Hp79 hW10 Hp1
      go_wp2_with fail
      refine wpOT_done ?_
      clear hrun
      go_upto_region 12 with fail
      refine wp_region_plan (.take [1, 2, 3, 4, 5] (.free [0] (.one 6 (.fin (.one 7 (.take [8, 9] (.one 10 .done))))))) [7, 8, 9, 10] (Ext W11) _ (by kernel_rfl) (by kernel_rfl) rfl (EC.ext W11) ((Ext.refl _).drew) ?_
      simp only [planOf, treeOf, oneOp, twoOp, opsOf, consOp, callOC, oneOC, twoOC, List.getElem?_toArray, List.getElem?_cons_succ, List.getElem?_cons_zero]
      intro ι _ f hf
      have f0 := fun q => ((hf q).box Bb11.out).1
      have f1 := fun q => ((hf q).box Hp711.out).1
      clear hf
      repeat (go_big_quiet_step (fail))
      refine wpQuiet_nil ?_
      clear f0 f1
      refine wpOC_free ?_
      repeat (go_big_quiet_step (fail))
      refine wpQuiet_nil ?_
      intro W12 hW12
      go_wp2_with fail
      have hx13 := hW12.alloc (.cells #[.int .i64 s0, .int .i64 s1, .int .i64 s2, .int .i64 s3, .int .i64 s4, .int .i64 s5, .int .i64 s6, .int .i64 s7] 196)
      have hp13 := heap_alloc_new W12 (.cells #[.int .i64 s0, .int .i64 s1, .int .i64 s2, .int .i64 s3, .int .i64 s4, .int .i64 s5, .int .i64 s6, .int .i64 s7] 196)
      generalize W12.alloc (.cells #[.int .i64 s0, .int .i64 s1, .int .i64 s2, .int .i64 s3, .int .i64 s4, .int .i64 s5, .int .i64 s6, .int .i64 s7] 196) = W13 at *
      generalize W12.heap.size = p13 at *
      refine ⟨fun V => Ext W11 V ∧ V.heap[p13]? = some (.cells #[.int .i64 s0, .int .i64 s1, .int .i64 s2, .int .i64 s3, .int .i64 s4, .int .i64 s5, .int .i64 s6, .int .i64 s7] 196 (0, 0)), (EC.ext W11).and (EC.heap p13 _), fun _ h => h.1, ⟨hx13, hp13⟩, ?_⟩
      clear hW12 hx13 hp13 W12 W13
      rintro W14 ⟨hx14, hp14⟩
      have hown13 := Hown.out.ext hx14
      have hsrc13 : SlAt W14 8 (some ⟨p13, 0, none⟩) 1 (fun k => (signRows [[s0, s1, s2, s3, s4, s5, s6, s7]]).getD k []) := sign_src (S := [s0, s1, s2, s3, s4, s5, s6, s7]) hp14
      have hb13 := hx14.but (fun b => (Value.slice va k vc).ownBlock = some b)
      have hsz13 : w.heap.size + 1 + 1 + 1 + 1 + 1 ≤ W14.heap.size := by have := heap_lt Bb11.out; have := hx14.size; omega
      have hne : ¬((Value.slice va k vc).ownBlock = some (w.heap.size + 1 + 1 + 1 + 1)) := fun e => by have := (Hown.out.lt _ e).1; omega
      clear hx14 hp14
      have hl6 : (signRows (R ++ [[s0, s1, s2, s3, s4, s5, s6, s7]])).length = k + 1 := by unfold signRows; rw [List.length_map, List.length_append, HRl.out]; rfl
      have Hown13 := Lib.hid hown13
      have Hsrc13 := Lib.hid hsrc13
      have Hb13 := Lib.hid hb13
      have Hne := Lib.hid hne
      have HRr := Lib.hid hRr
      have Hsz13 := Lib.hid hsz13
      have Hl6 := Lib.hid hl6
      clear hown13 hsrc13 hb13 hne hRr hsz13 hl6
      refine wpOT_one ?_
      go_wp2_with (at_builtin; refine wpList_app elem139 _ rfl (.tmp 76) (.tmp 78) rfl (w.heap.size + 1 + 1 + 1 + 1 + 1) (.slice va k vc) (signRows R) rfl Hown13.out (some ⟨p13, 0, none⟩) 1 1 (signRows [[s0, s1, s2, s3, s4, s5, s6, s7]]) rfl rfl Hsrc13.out (signRows_row (by simp)) (by rw [HRr.out]; omega) Hsz13.out ?_; intro v6 w6 ho6 hg6 _; have hb6 := Hb13.out.trans (but_grownI hg6); clear hg6; rw [← signRows_append] at ho6; obtain ⟨a6, c6, e6, _, _, _, _⟩ := ho6.slAt; rw [Hl6.out] at e6; subst e6; have Ho6 := Lib.hid ho6; have Hb6 := Lib.hid hb6; clear ho6 hb6)
      have hS12 := OA.put X11 B11 B12 B13 Bb11 M11 HRl.out Hown.out Hb6.out Ho6.out
      obtain ⟨z6, z7⟩ := (Ext.refl w6).box (Hb6.out.block _ _ Bb11.out Hne.out)
      have hlt6 := heap_lt (Hb6.out.block _ _ Bb11.out Hne.out)
      have HS12 := Lib.hid hS12
      clear hS12
      clear Hb6 Ho6 Hb13 Hsrc13 Hown13
      refine wpOT_take ?_
      repeat (go_big_quiet_step (fail))
      refine wpQuiet_nil ?_
      refine wpOT_one ?_
      go_wp2_with fail
      refine wpOT_done ?_
      generalize w6.setCell ⟨w.heap.size + 1 + 1 + 1 + 1, 3, none⟩ (.slice a6 (k + 1) c6) = W15 at *
      go_wp2_with fail
      go_roundw
      case rel => exact ⟨k + 1, _, by go_num, by omega, HS12.out⟩
      case measure => simp [intOf]; omega
    · have hltB : decide ((k : Int) < (l.length : Int)) = false := by simp; omega
      obtain rfl : k = l.length := by omega
      have hOB : OB w (w.heap.size + 1 + 1 + 1 + 1) (w.heap.size + 1 + 1 + 1) a c v l 0 (.slice none 0 0) wr := ⟨hS.ext, hS.b1, hS.b2, hS.b3, hS.box, by have := hS.map; rwa [List.take_length] at this, Owns.nil _ _ _ _⟩
      obtain ⟨y1, _⟩ := (Ext.refl wr).box hS.b1
      have HOB := Lib.hid hOB
      clear hOB
      clear hS
      go_upto_if 27 with fail
      iterate 6 go_step
      exact openMoms hok Hla'.out hcc HOB.out (by omega) (by omega)
end Go.Proofs.Ytcoelhpmkhimpaa
