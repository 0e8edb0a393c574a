/- The law GuideTreks. -/
import Derived.Test.YtacdndehlkaaeaaVRFinds
import Derived.Test.YtacdndehlkaaeaaVMarch
import Derived.Test.YtacdndehlkaaeaaVLawLooks
namespace Go.Proofs.Ytacdndehlkaaeaa
open Go.RowKit
set_option linter.unusedVariables false
set_option linter.unusedSimpArgs false
def trekRows (l : List Trek) : List (List Value) := l.map Trek.cells
theorem trekRows_row (l : List Trek) : ∀ r ∈ trekRows l, r.length = 6 ∧ ∀ u ∈ r, u.oneCell' = true := by
  intro r hr
  obtain ⟨x, _, rfl⟩ := List.mem_map.1 hr
  exact ⟨rfl, fun u hu => by simp [Trek.cells] at hu; rcases hu with rfl | rfl | rfl | rfl | rfl | rfl <;> rfl⟩
theorem TreksAt.src {w : World} {a : Option Addr} {n : Nat} {l : List Trek} (h : TreksAt w a n l) : SlAt w 6 a n (fun i => (trekRows l).getD i []) :=
  h.2.congr fun i hi => by
    have : i < l.length := by rw [h.1]; exact hi
    simp [trekRows, List.getD, List.getElem?_map, List.getElem?_eq_getElem this]
theorem treks_of_owns {w : World} {B : Nat} {e : TypeId} {v : Value} {l : List Trek} (h : Owns w B e 6 v (trekRows l)) : ∃ a c, v = .slice a l.length c ∧ From B a ∧ l.length ≤ c ∧ c ≤ maxLen ∧ TreksAt w a l.length l := by
  obtain ⟨a, c, hv, h1, h2, h3, h4⟩ := h.slAt
  rw [show (trekRows l).length = l.length by simp [trekRows]] at hv h2 h4
  refine ⟨a, c, hv, h1, h2, h3, rfl, h4.congr fun i hi => ?_⟩
  simp [trekRows, List.getD, List.getElem?_map, List.getElem?_eq_getElem hi]
theorem info63 : (Try.prog.info? 63).map (fun i => (i.zero, i.size, i.bytes)) = some (some (.agg #[.int .i64 0, .int .i64 0, .int .i64 0, .int .i64 0, .int .i64 0, .int .i64 0]), 6, 48) := by kernel_rfl
theorem elem64 : Elem Try.prog 64 63 6 := by
  obtain ⟨i, h1, h2, h3, h4⟩ := info_parts info63
  exact ⟨Try.underlying64, ⟨i, _, _, h1, h2, h3, h4, by kernel_rfl, by decide⟩, by decide⟩
theorem march_len (l : List Half) (t : Trek) : (marchOf l t).1.length ≤ l.length := by
  unfold marchOf
  split
  · exact Nat.zero_le _
  · split
    · exact Nat.zero_le _
    · split
      · exact Nat.zero_le _
      · split
        · exact Nat.zero_le _
        · rw [moved_len]; exact Nat.le_refl _
set_option maxRecDepth 100000 in
set_option maxHeartbeats 8000000 in
theorem lawTreks_any (a : Option Addr) (len cap : Nat) (l : List Half) (t : Trek) (sa : Option Addr) (n sc : Nat) (ts : List Trek) (x y far : Int) (w : World) (hl : HalvesAt w a len l) (hc : len ≤ cap) (hm : cap ≤ maxLen) (hs : TreksAt w sa n ts) (hn : n ≤ maxLen) :
    Calls Try.prog 5 #[.agg #[.slice a len cap], t.val, .slice sa n sc, .int .i64 x, .int .i64 y, .int .i64 far] w fun e w' => e = .returned (.bool true) ∧ Ext w w' := by
  have hgr := fun W => great_any a len cap W
  have hll := hl.1
  have hsl := hs.1
  unfold maxLen at hn
  have hsee := fun W oa oc (hO : HalvesAt W oa len l) (h1' : len ≤ oc) (h2 : oc ≤ maxLen) => march_any oa len oc l t W hO h1' h2
  have hrsee := fun W (hW : Ext w W) (h : len ≤ 60) => rmarch_any a len cap l t W (hl.ext hW) hc hm (by omega)
  have hcl := fun W oa oc ma mc (hO : HalvesAt W oa len l) (h1' : len ≤ oc) (h2 : oc ≤ maxLen) (hM : TreksAt W ma n ts) (h : n ≤ 70) => finds_any oa len oc l ma n mc ts x y far W hO h1' h2 hM (by omega)
  have hrcl := fun W (hW : Ext w W) (h : len ≤ 60) (h' : n ≤ 70) => rfinds_any a len cap l sa n sc ts x y far W (hl.ext hW) (by omega) (hs.ext hW) (by omega)
  have htw := fun W (hW : Ext w W) (h : len ≤ 60) => twin_any a len cap l W (hl.ext hW) (by omega)
  have hsaA := fun W oa oc (hW : Ext w W) (hO : HalvesAt W oa len l) (h : len ≤ 60) => sameArea_any oa a len len oc cap l l W hO (hl.ext hW) (by omega)
  have hlen40 : (marchOf l t).1.length ≤ len := by have := march_len l t; omega
  unfold AreaOwn at hsee
  unfold RMarchPost at hrsee
  unfold FindsPost at hcl hrcl
  obtain ⟨S, hS⟩ : ∃ S, marchOf l t = S := ⟨_, rfl⟩
  obtain ⟨C, hC⟩ : ∃ C, findsOf l ts x y far = C := ⟨_, rfl⟩
  rw [hS] at hsee hrsee hlen40
  rw [hC] at hcl hrcl
  obtain ⟨SL, SE⟩ := S
  obtain ⟨C1, C2, C3⟩ := C
  simp only at hsee hrsee hcl hrcl hlen40
  obtain ⟨N, hN⟩ : ∃ N, SL.length = N := ⟨_, rfl⟩
  rw [hN] at hrsee hlen40
  obtain ⟨⟨d0, d1⟩, ⟨e0, e1⟩, ⟨n0, n1⟩⟩ := t
  unfold Trek.val at hsee hrsee ⊢
  simp only at hsee hrsee ⊢
  obtain ⟨W0, hW0⟩ : ∃ W0, (w.alloc (.cells #[.slice a len cap] 24)).alloc (.cells #[.int .i64 d0, .int .i64 d1, .int .i64 e0, .int .i64 e1, .int .i64 n0, .int .i64 n1] 63) = W0 := ⟨_, rfl⟩
  have hx0 : Ext w W0 := by rw [← hW0]; exact ((Ext.refl w).alloc _).alloc _
  have ha0 : W0.heap[w.heap.size]? = some (.cells #[.slice a len cap] 24 (0, 0)) := by rw [← hW0]; exact ((Ext.refl _).alloc _).heap (heap_alloc_new w _)
  have hs0 : W0.heap[w.heap.size + 1]? = some (.cells #[.int .i64 d0, .int .i64 d1, .int .i64 e0, .int .i64 e1, .int .i64 n0, .int .i64 n1] 63 (0, 0)) := by rw [← hW0]; exact alloc_at _ _ _ (by simp)
  obtain ⟨z0, _⟩ := (Ext.refl W0).box ha0
  have hsz0 := hx0.size
  have Hx0 := Lib.hid hx0
  have Ha0 := Lib.hid ha0
  have Hs0 := Lib.hid hs0
  have Hll := Lib.hid hll
  have Hsl := Lib.hid hsl
  clear hx0 ha0 hs0 hll hsl
  by_cases hg : 60 < len
  · have hgB : decide (60 < len) = true := decide_eq_true hg
    rw [hgB] at hgr
    have Hgr := Lib.hid hgr
    clear hgr
    clear hl hs hsee hrsee hcl hrcl htw hsaA hgB
    go_enter Try.func5, Try.ntmps5
    go_wp2_with (go_at_call 14; refine (Hgr.out _).mono ?_; rintro e w1 ⟨rfl, hx1⟩)
    go_ret
    exact ⟨rfl, Hx0.out.trans hx1⟩
  have hgB : decide (60 < len) = false := decide_eq_false hg
  rw [hgB] at hgr
  by_cases hg2 : 70 < n
  · have hgB2 : decide ((70 : Int) < (n : Int)) = true := decide_eq_true (by omega)
    have hgB2' : decide (70 < n) = true := decide_eq_true hg2
    have Hgr := Lib.hid hgr
    clear hgr
    clear hl hs hsee hrsee hcl hrcl htw hsaA hgB
    go_enter Try.func5, Try.ntmps5
    go_wp2_with (go_at_call 14; refine (Hgr.out _).mono ?_; rintro e w1 ⟨rfl, hx1⟩)
    go_ret
    exact ⟨rfl, Hx0.out.trans hx1⟩
  have hgB2 : decide ((70 : Int) < (n : Int)) = false := decide_eq_false (by omega)
  have hgB2' : decide (70 < n) = false := decide_eq_false hg2
  replace hrsee := fun W hW => hrsee W hW (by omega)
  replace hrcl := fun W hW => hrcl W hW (by omega) (by omega)
  replace hcl := fun W oa oc ma mc hO h1 h2 hM => hcl W oa oc ma mc hO h1 h2 hM (by omega)
  replace htw := fun W hW => htw W hW (by omega)
  replace hsaA := fun W oa oc hW hO => hsaA W oa oc hW hO (by omega)
  have hsrl : (trekRows ts).length = n := by simp only [trekRows, List.length_map]; exact Hsl.out
  have Hgr := Lib.hid hgr
  have Hl := Lib.hid hl
  have Hs := Lib.hid hs
  have Hsee := Lib.hid hsee
  have Hrsee := Lib.hid hrsee
  have Hcl := Lib.hid hcl
  have Hrcl := Lib.hid hrcl
  have Htw := Lib.hid htw
  have HsaA := Lib.hid hsaA
  have Hsrl := Lib.hid hsrl
  have HN := Lib.hid hN
  clear hgr hl hs hsee hrsee hcl hrcl htw hsaA hsrl hN
  clear hgB hS hC
  go_enter Try.func5, Try.ntmps5
  go_wp2_with (first | (go_at_call 14; refine (Hgr.out _).mono ?_; rintro e w1 ⟨rfl, hx1⟩; have hx01 := Hx0.out.trans hx1; have ha1 := hx1.heap Ha0.out; obtain ⟨z1, _⟩ := (Ext.refl w1).box ha1; clear z0 hW0) | (go_at_call 15; refine (Htw.out _ hx01).mono ?_; rintro e w2 ⟨oa, oc, rfl, o1, o2, hx2, hO2, hof⟩; have hxw2 := hx01.trans hx2; clear z1) | (at_builtin; refine wpList_app elem64 _ rfl (.tmp 37) (.tmp 38) rfl w2.heap.size _ [] rfl (Owns.empty' (alloc_at _ _ _ rfl) (Nat.le_refl _) rfl (by decide)) sa n sc (trekRows ts) rfl Hsrl.out ((Hs.out.ext hxw2).ext ((Ext.refl _).alloc _)).src (trekRows_row _) ?_ ?_ ?_))
  · simp only [List.length_nil]; omega
  · simp
  intro v3 w3 ho3 hg3 _
  obtain ⟨ma, mc, hv3, _, k3, k3', hM3⟩ := treks_of_owns ho3
  rw [Hsl.out] at hv3 hM3
  subst hv3
  have hx3 : Ext w2 w3 := ((Ext.refl w2).alloc _).app (Owns.empty' (sz := 6) (cap := 0) (alloc_at _ _ _ rfl) (Nat.le_refl _) rfl (by decide)) hg3
  clear ho3 hg3
  obtain ⟨W4, hW4⟩ : ∃ W4, w3.alloc (.cells #[.slice oa len oc] 24) = W4 := ⟨_, rfl⟩
  have hx34 : Ext w3 W4 := by rw [← hW4]; exact (Ext.refl _).alloc _
  have hb7 : W4.heap[w3.heap.size]? = some (.cells #[.slice oa len oc] 24 (0, 0)) := by rw [← hW4]; exact heap_alloc_new w3 _
  have hx4 := hxw2.trans (hx3.trans hx34)
  have hx14 := hx2.trans (hx3.trans hx34)
  have hO4 := hO2.ext (hx3.trans hx34)
  have hM4 := hM3.ext hx34
  have hs4 := (hx1.trans hx14).heap Hs0.out
  have ha4 := (hx1.trans hx14).heap Ha0.out
  obtain ⟨z4, _⟩ := (Ext.refl W4).box hb7
  obtain ⟨y4, _⟩ := (Ext.refl W4).box hs4
  have Hb7 := Lib.hid hb7
  have Hx4 := Lib.hid hx4
  have HO4 := Lib.hid hO4
  have HM4 := Lib.hid hM4
  have Hs4 := Lib.hid hs4
  have Ha4 := Lib.hid ha4
  clear hb7 hx4 hO4 hM4 hs4 ha4
  clear hx34 hx3 hx2 hO2 hof hxw2 hM3 hx1 hx01 ha1 hx14
  have hl3 := heap_lt Hb7.out
  have hl0 := heap_lt Ha4.out
  have hl1 := heap_lt Hs4.out
  have hsameA := fun W (b : Option Addr) bc (c : Option Addr) cc (h1 : HalvesAt W b N SL) (h2 : HalvesAt W c N SL) => sameArea_any b c N N bc cc SL SL W h1 h2 (by omega)
  rw [decide_eq_true (rfl : SL = SL)] at hsameA
  have HsameA := Lib.hid hsameA
  clear hsameA
  go_upto_region 10 with (first
    | (go_at_call 30; refine (Hsee.out _ oa oc HO4.out o1 o2).mono ?_; rintro e w5 ⟨v5, rfl, hx5, hO5⟩; obtain ⟨ra, rc, hv5, hrf, hB5, hR5⟩ := blockAt_of hO5; simp only [HN.out] at hv5 hB5 hR5; subst hv5; have hlt5 : 0 < N → ∀ x, ra = some x → x.block < w5.heap.size := (fun h0 x hx => by obtain ⟨g, cur, e, hb, _⟩ := hB5 h0; rw [hx] at e; cases e; exact heap_lt hb); obtain ⟨z5, _⟩ := (Ext.refl w5).box (hx5.heap Ha4.out); obtain ⟨y5, _⟩ := (Ext.refl w5).box (hx5.heap Hs4.out); have l50 := Nat.lt_of_lt_of_le hl0 hx5.size; have l51 := Nat.lt_of_lt_of_le hl1 hx5.size; have Hx5 := Lib.hid hx5; have HB5 := Lib.hid hB5; have HR5 := Lib.hid hR5; clear hx5 hB5 hR5 hO5 hW4 z4 y4)
    | (go_at_call 31; refine (Hrsee.out _ (Hx4.out.trans (Hx5.out.alloc _))).mono ?_; rintro e w6 ⟨qa, qc, rfl, q1, q2, hx6, hQ6, _⟩; have hx46 := (Hx5.out.alloc _).trans hx6; have hb9 := hx6.heap (heap_alloc_new w5 _); obtain ⟨z6, _⟩ := (Ext.refl w6).box (hx46.heap Hb7.out); have l63 := Nat.lt_of_lt_of_le hl3 hx46.size; have hB6 := HB5.out.ext (((Ext.refl _).alloc _).trans hx6); have hR6 := HR5.out.ext (((Ext.refl _).alloc _).trans hx6); have Hx46 := Lib.hid hx46; have HB6 := Lib.hid hB6; have HR6 := Lib.hid hR6; have HQ6 := Lib.hid hQ6; have Hb9 := Lib.hid hb9; clear hx46 hx6 hB6 hR6 hQ6 hb9 z5 y5 HB5 HR5)
    | (go_at_call 32; refine (Hcl.out _ oa oc _ _ (HO4.out.ext (Hx46.out.alloc _)) o1 o2 (HM4.out.ext (Hx46.out.alloc _))).mono ?_; rintro e w7 ⟨rfl, hx7⟩; have hx67 := ((Ext.refl w6).alloc _).trans hx7; have hb11 := hx7.heap (heap_alloc_new w6 _); have hx47 := Hx46.out.trans hx67; obtain ⟨z7, _⟩ := (Ext.refl w7).box (hx47.heap Ha4.out); have Hx67 := Lib.hid hx67; have Hb11 := Lib.hid hb11; have Hx47 := Lib.hid hx47; clear hx67 hb11 hx47 z6 hx7)
    | (go_at_call 33; refine (Hrcl.out _ (Hx4.out.trans Hx47.out)).mono ?_; rintro e w8 ⟨rfl, hx8⟩; have hx68 := Hx67.out.trans hx8; have hb98 := hx68.heap Hb9.out; have hb118 := hx8.heap Hb11.out; obtain ⟨z8, _⟩ := (Ext.refl w8).box hb98; obtain ⟨y8, _⟩ := (Ext.refl w8).box hb118; have Hx8 := Lib.hid hx8; have Hx68 := Lib.hid hx68; have Hb98 := Lib.hid hb98; clear hx8 hx68 hb98 hb118 z7)
    | (go_at_call 20; refine (HsameA.out _ _ _ _ _ (HR6.out.ext Hx68.out) (HQ6.out.ext Hx68.out)).mono ?_; rintro e w9 ⟨rfl, hx9⟩; obtain ⟨z10, _⟩ := (Ext.refl w9).box (hx9.heap Hb98.out); have Hx9 := Lib.hid hx9; clear hx9 z8 y8))
  clear z10
  have hx410 := Hx47.out.trans (Hx8.out.trans Hx9.out)
  have hb910 := Hx9.out.heap Hb98.out
  have hB10 := HB6.out.ext (Hx68.out.trans Hx9.out)
  have Hx410 := Lib.hid hx410
  have Hb910 := Lib.hid hb910
  have HB10 := Lib.hid hB10
  have Hlt5 := Lib.hid hlt5
  have Hrf := Lib.hid hrf
  clear hx410 hb910 hB10 hlt5 hrf
  clear Hx47 Hx8 Hx9 Hb98 HB6 Hx68 HR6 HQ6 Hx67 Hx46 Hx5 Hb9 Hb11 HsameA Hsee Hrsee Hcl Hrcl Htw
  generalize w5.heap.size = b9 at *
  go_loopw [98] (fun i wr => ∃ j : Nat, j ≤ N ∧ i = .int .i64 j ∧ Ext W4 wr ∧ wr.heap[b9]? = some (.cells #[.slice ra N rc] 24 (0, 0)) ∧ BlockAt wr ra N) (fun i _ => N - (intOf i).toNat)
  case atStart => exact ⟨0, Nat.zero_le _, rfl, Hx410.out, Hb910.out, HB10.out⟩
  case round =>
    obtain ⟨j, hj, rfl, hx, hb, hB⟩ := hrel
    obtain ⟨z9, _⟩ := (Ext.refl wr).box hb
    by_cases hlt : j < N
    · have hltB : decide ((j : Int) < (N : Int)) = true := by simp; omega
      obtain ⟨g, u, rfl, hgc, hgf, hgl⟩ := hB.get j hlt 2 (by omega)
      have hg1 := Hrf.out _ rfl
      have hg2 := Hlt5.out (by omega) _ rfl
      simp only at hg1 hg2
      have hxn := hx.setCell (p := ⟨g, j * 3 + 2, none⟩) hg1 (.int .i64 (-7))
      have hBn := hB.set ⟨g, j * 3 + 2, none⟩ rfl (.int .i64 (-7))
      have hbn : (wr.setCell ⟨g, j * 3 + 2, none⟩ (.int .i64 (-7))).heap[b9]? = some (.cells #[.slice (some ⟨g, 0, none⟩) N rc] 24 (0, 0)) := (Below.heap_setCell _ _ _ _ (by simp only; omega)).trans hb
      have Hxn := Lib.hid hxn
      have HBn := Lib.hid hBn
      have Hbn := Lib.hid hbn
      clear hxn hBn hbn
      clear hx hb hB
      go_wp2_with fail
      go_roundw
      case rel => exact ⟨j + 1, by omega, by go_num, Hxn.out, Hbn.out, HBn.out⟩
      case measure => simp [intOf]; omega
    · have hltB : decide ((j : Int) < (N : Int)) = false := by simp; omega
      obtain rfl : j = N := by omega
      have hxw := Hx4.out.trans hx
      have Hx := Lib.hid hx
      have Hxw := Lib.hid hxw
      clear hx hxw
      clear hb hB z9
      go_upto_region 15 with fail
      go_loopw [109] (fun i wq => ∃ k : Nat, k ≤ n ∧ i = .int .i64 k ∧ Ext wr wq) (fun i _ => n - (intOf i).toNat)
      case atStart => exact ⟨0, Nat.zero_le _, rfl, Ext.refl _⟩
      case round =>
        obtain ⟨k, hk, rfl, hq⟩ := hrel
        by_cases hlt : k < n
        · have hltB : decide ((k : Int) < (n : Int)) = true := by simp; omega
          obtain ⟨mb, mo, X, rfl, hXk, hmb, c0, c1, c2, c3, c4, c5⟩ := (HM4.out.ext (Hx.out.trans hq)).get k hlt
          obtain ⟨sb, so, Y, rfl, hYk, hsb, d0, d1, d2, d3, d4, d5⟩ := (Hs.out.ext (Hxw.out.trans hq)).get k hlt
          rw [hXk] at hYk
          cases hYk
          have Hq := Lib.hid hq
          clear hq
          clear hXk
          go_upto_region 17 with fail
          refine wp_region_ext (by kernel_rfl) (by kernel_rfl) (fun f hf hs => ?_)
          have f0 := fun q => (hf q).cell c0
          have f1 := fun q => (hf q).cell c1
          have f2 := fun q => (hf q).cell c2
          have f3 := fun q => (hf q).cell c3
          have f4 := fun q => (hf q).cell c4
          have f5 := fun q => (hf q).cell c5
          have g0 := fun q => (hf q).cell d0
          have g1 := fun q => (hf q).cell d1
          have g2 := fun q => (hf q).cell d2
          have g3 := fun q => (hf q).cell d3
          have g4 := fun q => (hf q).cell d4
          have g5 := fun q => (hf q).cell d5
          clear hf hs
          repeat (go_big_quiet_step (fail))
          refine wpQuiet_nil ?_
          intro W8 hW8
          clear f0 f1 f2 f3 f4 f5 g0 g1 g2 g3 g4 g5
          go_wp2_with fail
          go_roundw
          case rel => exact ⟨k + 1, by omega, by go_num, Hq.out.trans hW8⟩
          case measure => simp [intOf]; omega
        · have hltB : decide ((k : Int) < (n : Int)) = false := by simp; omega
          obtain rfl : k = n := by omega
          have hxq := Hx.out.trans hq
          obtain ⟨z7, _⟩ := (Ext.refl wr).box (hxq.heap Hb7.out)
          obtain ⟨y7, _⟩ := (Ext.refl wr).box (hxq.heap Ha4.out)
          have hwq := Hx4.out.trans hxq
          have hlast := HsaA.out wr oa oc hwq (HO4.out.ext hxq)
          simp only [decide_true] at hlast
          have Hlast := Lib.hid hlast
          have Hwq := Lib.hid hwq
          clear hlast hwq
          clear hq hxq
          go_wp2_with (go_at_call 20; refine Hlast.out.mono ?_; rintro e w12 ⟨rfl, hx12⟩)
          go_ret
          exact ⟨rfl, Hwq.out.trans hx12⟩
end Go.Proofs.Ytacdndehlkaaeaa
