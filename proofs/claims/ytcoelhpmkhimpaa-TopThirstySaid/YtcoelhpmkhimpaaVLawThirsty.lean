/- The law TopThirsty. -/
import Derived.Test.YtcoelhpmkhimpaaVThirstyT
namespace Go.Proofs.Ytcoelhpmkhimpaa
open Go.RowKit
set_option linter.unusedVariables false
set_option linter.unusedSimpArgs false
set_option maxRecDepth 100000 in
set_option maxHeartbeats 8000000 in
theorem thirsty1 (a : Option Addr) (len cap : Nat) (l : List Half) (ta : Option Addr) (n tc : Nat) (ts : List Trek) (x y far : Int) (s : Breed) (c : Camel) (m : March) (lv : Int) (w : World) (hl : HalvesAt w a len l) (hc : len ≤ cap) (hm : cap ≤ maxLen) (hs : TreksAt w ta n ts) (hn : n ≤ maxLen) (hv0 : 0 ≤ lv) (hv1 : lv ≤ 4294967295) (hqq : 60 < len) :
    Calls Try.prog 6 #[.agg #[.slice a len cap], .slice ta n tc, .int .i64 x, .int .i64 y, .int .i64 far, s.val, c.val, m.val, .int .u32 lv] w fun e w' => e = .returned (.bool true) ∧ Ext w w' := by
  have hgr := fun W => great04_any a len cap W hc hm
  have hck := fun W => rcheckCamel_any s c W
  have hmk := fun W => rmarch_any m W
  have hsl := hs.1
  have hfd := fun (W : World) (hW : Ext w W) (h : n ≤ 60) => finds_any a len cap l ta n tc ts x y far W (hl.ext hW) hc hm (hs.ext hW) (by omega)
  have hfi := finds_is l ts x y far
  unfold FindsPost at hfd
  unfold maxLen at hn
  obtain ⟨K, hK⟩ : ∃ K, camelErr s c = K := ⟨_, rfl⟩
  obtain ⟨D, hD⟩ : ∃ D, dayOk m = D := ⟨_, rfl⟩
  obtain ⟨G, hG⟩ : ∃ G, decide (60 < len) = G := ⟨_, rfl⟩
  obtain ⟨F, hF⟩ : ∃ F, findsOf l ts x y far = F := ⟨_, rfl⟩
  rw [hK] at hck
  rw [hD] at hmk
  rw [hG] at hgr
  rw [hF] at hfi
  simp only [hF] at hfd
  rw [hsl] at hfi
  obtain ⟨F0, F1, F2⟩ := F
  simp only at hfd hfi
  have hlm : ∀ m', Lighter m' m → camelErr s c = 0 → dayOk m = true → ∃ L0 L1 L2 L3 : Nat, lastsVal s c m = (⟨L0, L1⟩, 0) ∧ lastsVal s c m' = (⟨L2, L3⟩, 0) ∧ L0 ≤ L2 ∧ L1 ≤ L3 := fun m' h h0 h1 => by
    obtain ⟨hb, hcc⟩ := camelErr_zero h0
    have := lasts_mono (breedIs hb) h (dayIs h1).hours.1 60 c c (Better.refl c)
    exact ⟨_, _, _, _, lasts_val hb hcc h1, lasts_val hb hcc (dayOk_lighter h1 h), this.1, this.2⟩
  have hla := fun m' W => lasts_any s c m' W
  unfold LastsPost at hla
  have hmo := fun h : dayOk m = true => dayIs h
  have hK0 := hK
  have hD0 := hD
  clear hK hD
  rw [hK0, hD0] at hlm
  rw [hD0] at hmo
  obtain ⟨W0, hW0⟩ : ∃ W0, (((w.alloc (.cells #[.slice a len cap] 83)).alloc (.cells s.cells.toArray 25)).alloc (.cells c.cells.toArray 27)).alloc (.cells m.cells.toArray 29) = W0 := ⟨_, rfl⟩
  have hx0 : Ext w W0 := by rw [← hW0]; exact ((((Ext.refl w).alloc _).alloc _).alloc _).alloc _
  have ha0 : W0.heap[w.heap.size]? = some (.cells #[.slice a len cap] 83 (0, 0)) := by rw [← hW0]; exact alloc_heap (alloc_heap (alloc_heap (heap_alloc_new w _) _) _) _
  have hb0 : W0.heap[w.heap.size + 1]? = some (.cells s.cells.toArray 25 (0, 0)) := by rw [← hW0]; exact alloc_heap (alloc_heap (alloc_at _ _ _ (by simp)) _) _
  have hc0 : W0.heap[w.heap.size + 1 + 1]? = some (.cells c.cells.toArray 27 (0, 0)) := by rw [← hW0]; exact alloc_heap (alloc_at _ _ _ (by simp)) _
  have hm0 : W0.heap[w.heap.size + 1 + 1 + 1]? = some (.cells m.cells.toArray 29 (0, 0)) := by rw [← hW0]; exact alloc_at _ _ _ (by simp)
  obtain ⟨fu, fe, ⟨r0, r1⟩, ⟨h0, h1⟩, ⟨t0, t1⟩, ⟨b0, b1⟩, ⟨u0, u1⟩, ⟨m0, m1⟩, hz, ⟨s0, s1⟩⟩ := s
  obtain ⟨⟨w0, w1⟩, ⟨k0, k1⟩, ⟨o0, o1⟩, mk⟩ := c
  obtain ⟨hh, ld, ⟨e0, e1⟩, ⟨g0, g1⟩, ⟨d0, d1⟩⟩ := m
  unfold Breed.val Camel.val at hck hla ⊢
  unfold March.val at hmk hla ⊢
  unfold Breed.cells at hb0 hW0
  unfold Camel.cells at hc0 hW0
  unfold March.cells at hm0 hW0
  simp only at hck hmk hla hb0 hc0 hm0 hW0 ⊢
  have Hgr := Lib.hid hgr
  have Hck := Lib.hid hck
  have Hmk := Lib.hid hmk
  have Hfd := Lib.hid hfd
  have Hfi := Lib.hid hfi
  have Hlm := Lib.hid hlm
  have Hla := Lib.hid hla
  have Hmo := Lib.hid hmo
  have Hx0 := Lib.hid hx0
  have Ha0 := Lib.hid ha0
  have Hb0 := Lib.hid hb0
  have Hc0 := Lib.hid hc0
  have Hm0 := Lib.hid hm0
  have Hsl := Lib.hid hsl
  have HG := Lib.hid hG
  have HF := Lib.hid hF
  clear hgr hck hmk hfd hfi hlm hla hmo hx0 ha0 hb0 hc0 hm0 hsl hG hF
  clear hl hs
  obtain rfl : G = true := by rw [← HG.out]; exact decide_eq_true hqq
  go_enter Try.func6, Try.ntmps6
  go_wp2_with (first
  | (go_at_call 27; refine (alive04_any _).mono ?_; rintro e v1 ⟨rfl, hx1⟩; have ha1 := hx1.heap Ha0.out; have hb1 := hx1.heap Hb0.out; have hc1 := hx1.heap Hc0.out; have hm1 := hx1.heap Hm0.out; have hy1 := Hx0.out.trans hx1; have Ha1 := Lib.hid ha1; have Hb1 := Lib.hid hb1; have Hc1 := Lib.hid hc1; have Hm1 := Lib.hid hm1; have Hy1 := Lib.hid hy1; clear ha1 hb1 hc1 hm1 hy1)
  | (refine wpList_load_row rfl 83 (.tmp 9) rfl w.heap.size rfl 83 _ (0, 0) _ Ha1.out Try.underlying83 rfl (by kernel_rfl) ?_)
  | (go_at_call 28; refine (Hgr.out _).mono ?_; rintro e v2 ⟨rfl, hx2⟩; have ha2 := hx2.heap Ha1.out; have hb2 := hx2.heap Hb1.out; have hc2 := hx2.heap Hc1.out; have hm2 := hx2.heap Hm1.out; have hy2 := Hy1.out.trans hx2; obtain ⟨zb, _⟩ := (Ext.refl v2).box hb2; obtain ⟨zc, _⟩ := (Ext.refl v2).box hc2; have Ha2 := Lib.hid ha2; have Hb2 := Lib.hid hb2; have Hc2 := Lib.hid hc2; have Hm2 := Lib.hid hm2; have Hy2 := Lib.hid hy2; clear ha2 hb2 hc2 hm2 hy2)
  | (go_at_call 9; refine (Hck.out _).mono ?_; rintro e v3 ⟨rfl, hx3⟩; clear zb zc; have ha3 := hx3.heap Ha2.out; have hb3 := hx3.heap Hb2.out; have hc3 := hx3.heap Hc2.out; have hm3 := hx3.heap Hm2.out; have hy3 := Hy2.out.trans hx3; obtain ⟨zm, _⟩ := (Ext.refl v3).box hm3; have Ha3 := Lib.hid ha3; have Hb3 := Lib.hid hb3; have Hc3 := Lib.hid hc3; have Hm3 := Lib.hid hm3; have Hy3 := Lib.hid hy3; clear ha3 hb3 hc3 hm3 hy3)
  | (go_at_call 10; refine (Hmk.out _).mono ?_; rintro e v4 ⟨rfl, hx4⟩; clear zm; have ha4 := hx4.heap Ha3.out; have hb4 := hx4.heap Hb3.out; have hc4 := hx4.heap Hc3.out; have hm4 := hx4.heap Hm3.out; have hy4 := Hy3.out.trans hx4; have Ha4 := Lib.hid ha4; have Hb4 := Lib.hid hb4; have Hc4 := Lib.hid hc4; have Hm4 := Lib.hid hm4; have Hy4 := Lib.hid hy4; clear ha4 hb4 hc4 hm4 hy4))
  go_ret
  exact ⟨rfl, Hy2.out⟩
set_option maxRecDepth 100000 in
set_option maxHeartbeats 8000000 in
theorem thirsty2 (a : Option Addr) (len cap : Nat) (l : List Half) (ta : Option Addr) (n tc : Nat) (ts : List Trek) (x y far : Int) (s : Breed) (c : Camel) (m : March) (lv : Int) (w : World) (hl : HalvesAt w a len l) (hc : len ≤ cap) (hm : cap ≤ maxLen) (hs : TreksAt w ta n ts) (hn : n ≤ maxLen) (hv0 : 0 ≤ lv) (hv1 : lv ≤ 4294967295) (hqq : ¬60 < len) (hlen : 60 < n) :
    Calls Try.prog 6 #[.agg #[.slice a len cap], .slice ta n tc, .int .i64 x, .int .i64 y, .int .i64 far, s.val, c.val, m.val, .int .u32 lv] w fun e w' => e = .returned (.bool true) ∧ Ext w w' := by
  have hgr := fun W => great04_any a len cap W hc hm
  have hck := fun W => rcheckCamel_any s c W
  have hmk := fun W => rmarch_any m W
  have hsl := hs.1
  have hfd := fun (W : World) (hW : Ext w W) (h : n ≤ 60) => finds_any a len cap l ta n tc ts x y far W (hl.ext hW) hc hm (hs.ext hW) (by omega)
  have hfi := finds_is l ts x y far
  unfold FindsPost at hfd
  unfold maxLen at hn
  obtain ⟨K, hK⟩ : ∃ K, camelErr s c = K := ⟨_, rfl⟩
  obtain ⟨D, hD⟩ : ∃ D, dayOk m = D := ⟨_, rfl⟩
  obtain ⟨G, hG⟩ : ∃ G, decide (60 < len) = G := ⟨_, rfl⟩
  obtain ⟨F, hF⟩ : ∃ F, findsOf l ts x y far = F := ⟨_, rfl⟩
  rw [hK] at hck
  rw [hD] at hmk
  rw [hG] at hgr
  rw [hF] at hfi
  simp only [hF] at hfd
  rw [hsl] at hfi
  obtain ⟨F0, F1, F2⟩ := F
  simp only at hfd hfi
  have hlm : ∀ m', Lighter m' m → camelErr s c = 0 → dayOk m = true → ∃ L0 L1 L2 L3 : Nat, lastsVal s c m = (⟨L0, L1⟩, 0) ∧ lastsVal s c m' = (⟨L2, L3⟩, 0) ∧ L0 ≤ L2 ∧ L1 ≤ L3 := fun m' h h0 h1 => by
    obtain ⟨hb, hcc⟩ := camelErr_zero h0
    have := lasts_mono (breedIs hb) h (dayIs h1).hours.1 60 c c (Better.refl c)
    exact ⟨_, _, _, _, lasts_val hb hcc h1, lasts_val hb hcc (dayOk_lighter h1 h), this.1, this.2⟩
  have hla := fun m' W => lasts_any s c m' W
  unfold LastsPost at hla
  have hmo := fun h : dayOk m = true => dayIs h
  have hK0 := hK
  have hD0 := hD
  clear hK hD
  rw [hK0, hD0] at hlm
  rw [hD0] at hmo
  obtain ⟨W0, hW0⟩ : ∃ W0, (((w.alloc (.cells #[.slice a len cap] 83)).alloc (.cells s.cells.toArray 25)).alloc (.cells c.cells.toArray 27)).alloc (.cells m.cells.toArray 29) = W0 := ⟨_, rfl⟩
  have hx0 : Ext w W0 := by rw [← hW0]; exact ((((Ext.refl w).alloc _).alloc _).alloc _).alloc _
  have ha0 : W0.heap[w.heap.size]? = some (.cells #[.slice a len cap] 83 (0, 0)) := by rw [← hW0]; exact alloc_heap (alloc_heap (alloc_heap (heap_alloc_new w _) _) _) _
  have hb0 : W0.heap[w.heap.size + 1]? = some (.cells s.cells.toArray 25 (0, 0)) := by rw [← hW0]; exact alloc_heap (alloc_heap (alloc_at _ _ _ (by simp)) _) _
  have hc0 : W0.heap[w.heap.size + 1 + 1]? = some (.cells c.cells.toArray 27 (0, 0)) := by rw [← hW0]; exact alloc_heap (alloc_at _ _ _ (by simp)) _
  have hm0 : W0.heap[w.heap.size + 1 + 1 + 1]? = some (.cells m.cells.toArray 29 (0, 0)) := by rw [← hW0]; exact alloc_at _ _ _ (by simp)
  obtain ⟨fu, fe, ⟨r0, r1⟩, ⟨h0, h1⟩, ⟨t0, t1⟩, ⟨b0, b1⟩, ⟨u0, u1⟩, ⟨m0, m1⟩, hz, ⟨s0, s1⟩⟩ := s
  obtain ⟨⟨w0, w1⟩, ⟨k0, k1⟩, ⟨o0, o1⟩, mk⟩ := c
  obtain ⟨hh, ld, ⟨e0, e1⟩, ⟨g0, g1⟩, ⟨d0, d1⟩⟩ := m
  unfold Breed.val Camel.val at hck hla ⊢
  unfold March.val at hmk hla ⊢
  unfold Breed.cells at hb0 hW0
  unfold Camel.cells at hc0 hW0
  unfold March.cells at hm0 hW0
  simp only at hck hmk hla hb0 hc0 hm0 hW0 ⊢
  have Hgr := Lib.hid hgr
  have Hck := Lib.hid hck
  have Hmk := Lib.hid hmk
  have Hfd := Lib.hid hfd
  have Hfi := Lib.hid hfi
  have Hlm := Lib.hid hlm
  have Hla := Lib.hid hla
  have Hmo := Lib.hid hmo
  have Hx0 := Lib.hid hx0
  have Ha0 := Lib.hid ha0
  have Hb0 := Lib.hid hb0
  have Hc0 := Lib.hid hc0
  have Hm0 := Lib.hid hm0
  have Hsl := Lib.hid hsl
  have HG := Lib.hid hG
  have HF := Lib.hid hF
  clear hgr hck hmk hfd hfi hlm hla hmo hx0 ha0 hb0 hc0 hm0 hsl hG hF
  clear hl hs
  obtain rfl : G = false := by rw [← HG.out]; exact decide_eq_false hqq
  have hlB : decide (60 < (n : Int)) = true := by simp; omega
  go_enter Try.func6, Try.ntmps6
  go_wp2_with (first
  | (go_at_call 27; refine (alive04_any _).mono ?_; rintro e v1 ⟨rfl, hx1⟩; have ha1 := hx1.heap Ha0.out; have hb1 := hx1.heap Hb0.out; have hc1 := hx1.heap Hc0.out; have hm1 := hx1.heap Hm0.out; have hy1 := Hx0.out.trans hx1; have Ha1 := Lib.hid ha1; have Hb1 := Lib.hid hb1; have Hc1 := Lib.hid hc1; have Hm1 := Lib.hid hm1; have Hy1 := Lib.hid hy1; clear ha1 hb1 hc1 hm1 hy1)
  | (refine wpList_load_row rfl 83 (.tmp 9) rfl w.heap.size rfl 83 _ (0, 0) _ Ha1.out Try.underlying83 rfl (by kernel_rfl) ?_)
  | (go_at_call 28; refine (Hgr.out _).mono ?_; rintro e v2 ⟨rfl, hx2⟩; have ha2 := hx2.heap Ha1.out; have hb2 := hx2.heap Hb1.out; have hc2 := hx2.heap Hc1.out; have hm2 := hx2.heap Hm1.out; have hy2 := Hy1.out.trans hx2; obtain ⟨zb, _⟩ := (Ext.refl v2).box hb2; obtain ⟨zc, _⟩ := (Ext.refl v2).box hc2; have Ha2 := Lib.hid ha2; have Hb2 := Lib.hid hb2; have Hc2 := Lib.hid hc2; have Hm2 := Lib.hid hm2; have Hy2 := Lib.hid hy2; clear ha2 hb2 hc2 hm2 hy2)
  | (go_at_call 9; refine (Hck.out _).mono ?_; rintro e v3 ⟨rfl, hx3⟩; clear zb zc; have ha3 := hx3.heap Ha2.out; have hb3 := hx3.heap Hb2.out; have hc3 := hx3.heap Hc2.out; have hm3 := hx3.heap Hm2.out; have hy3 := Hy2.out.trans hx3; obtain ⟨zm, _⟩ := (Ext.refl v3).box hm3; have Ha3 := Lib.hid ha3; have Hb3 := Lib.hid hb3; have Hc3 := Lib.hid hc3; have Hm3 := Lib.hid hm3; have Hy3 := Lib.hid hy3; clear ha3 hb3 hc3 hm3 hy3)
  | (go_at_call 10; refine (Hmk.out _).mono ?_; rintro e v4 ⟨rfl, hx4⟩; clear zm; have ha4 := hx4.heap Ha3.out; have hb4 := hx4.heap Hb3.out; have hc4 := hx4.heap Hc3.out; have hm4 := hx4.heap Hm3.out; have hy4 := Hy3.out.trans hx4; have Ha4 := Lib.hid ha4; have Hb4 := Lib.hid hb4; have Hc4 := Lib.hid hc4; have Hm4 := Lib.hid hm4; have Hy4 := Lib.hid hy4; clear ha4 hb4 hc4 hm4 hy4))
  go_ret
  exact ⟨rfl, Hy2.out⟩
set_option maxRecDepth 100000 in
set_option maxHeartbeats 8000000 in
theorem thirsty3 (a : Option Addr) (len cap : Nat) (l : List Half) (ta : Option Addr) (n tc : Nat) (ts : List Trek) (x y far : Int) (s : Breed) (c : Camel) (m : March) (lv : Int) (w : World) (hl : HalvesAt w a len l) (hc : len ≤ cap) (hm : cap ≤ maxLen) (hs : TreksAt w ta n ts) (hn : n ≤ maxLen) (hv0 : 0 ≤ lv) (hv1 : lv ≤ 4294967295) (hqq : ¬60 < len) (hlen : ¬60 < n) (hk : camelErr s c ≠ 0) :
    Calls Try.prog 6 #[.agg #[.slice a len cap], .slice ta n tc, .int .i64 x, .int .i64 y, .int .i64 far, s.val, c.val, m.val, .int .u32 lv] w fun e w' => e = .returned (.bool true) ∧ Ext w w' := by
  have hk0 := Lib.hid hk
  clear hk
  have hgr := fun W => great04_any a len cap W hc hm
  have hck := fun W => rcheckCamel_any s c W
  have hmk := fun W => rmarch_any m W
  have hsl := hs.1
  have hfd := fun (W : World) (hW : Ext w W) (h : n ≤ 60) => finds_any a len cap l ta n tc ts x y far W (hl.ext hW) hc hm (hs.ext hW) (by omega)
  have hfi := finds_is l ts x y far
  unfold FindsPost at hfd
  unfold maxLen at hn
  obtain ⟨K, hK⟩ : ∃ K, camelErr s c = K := ⟨_, rfl⟩
  obtain ⟨D, hD⟩ : ∃ D, dayOk m = D := ⟨_, rfl⟩
  obtain ⟨G, hG⟩ : ∃ G, decide (60 < len) = G := ⟨_, rfl⟩
  obtain ⟨F, hF⟩ : ∃ F, findsOf l ts x y far = F := ⟨_, rfl⟩
  rw [hK] at hck
  rw [hD] at hmk
  rw [hG] at hgr
  rw [hF] at hfi
  simp only [hF] at hfd
  rw [hsl] at hfi
  obtain ⟨F0, F1, F2⟩ := F
  simp only at hfd hfi
  have hlm : ∀ m', Lighter m' m → camelErr s c = 0 → dayOk m = true → ∃ L0 L1 L2 L3 : Nat, lastsVal s c m = (⟨L0, L1⟩, 0) ∧ lastsVal s c m' = (⟨L2, L3⟩, 0) ∧ L0 ≤ L2 ∧ L1 ≤ L3 := fun m' h h0 h1 => by
    obtain ⟨hb, hcc⟩ := camelErr_zero h0
    have := lasts_mono (breedIs hb) h (dayIs h1).hours.1 60 c c (Better.refl c)
    exact ⟨_, _, _, _, lasts_val hb hcc h1, lasts_val hb hcc (dayOk_lighter h1 h), this.1, this.2⟩
  have hla := fun m' W => lasts_any s c m' W
  unfold LastsPost at hla
  have hmo := fun h : dayOk m = true => dayIs h
  have hK0 := hK
  have hD0 := hD
  clear hK hD
  rw [hK0, hD0] at hlm
  rw [hD0] at hmo
  obtain ⟨W0, hW0⟩ : ∃ W0, (((w.alloc (.cells #[.slice a len cap] 83)).alloc (.cells s.cells.toArray 25)).alloc (.cells c.cells.toArray 27)).alloc (.cells m.cells.toArray 29) = W0 := ⟨_, rfl⟩
  have hx0 : Ext w W0 := by rw [← hW0]; exact ((((Ext.refl w).alloc _).alloc _).alloc _).alloc _
  have ha0 : W0.heap[w.heap.size]? = some (.cells #[.slice a len cap] 83 (0, 0)) := by rw [← hW0]; exact alloc_heap (alloc_heap (alloc_heap (heap_alloc_new w _) _) _) _
  have hb0 : W0.heap[w.heap.size + 1]? = some (.cells s.cells.toArray 25 (0, 0)) := by rw [← hW0]; exact alloc_heap (alloc_heap (alloc_at _ _ _ (by simp)) _) _
  have hc0 : W0.heap[w.heap.size + 1 + 1]? = some (.cells c.cells.toArray 27 (0, 0)) := by rw [← hW0]; exact alloc_heap (alloc_at _ _ _ (by simp)) _
  have hm0 : W0.heap[w.heap.size + 1 + 1 + 1]? = some (.cells m.cells.toArray 29 (0, 0)) := by rw [← hW0]; exact alloc_at _ _ _ (by simp)
  obtain ⟨fu, fe, ⟨r0, r1⟩, ⟨h0, h1⟩, ⟨t0, t1⟩, ⟨b0, b1⟩, ⟨u0, u1⟩, ⟨m0, m1⟩, hz, ⟨s0, s1⟩⟩ := s
  obtain ⟨⟨w0, w1⟩, ⟨k0, k1⟩, ⟨o0, o1⟩, mk⟩ := c
  obtain ⟨hh, ld, ⟨e0, e1⟩, ⟨g0, g1⟩, ⟨d0, d1⟩⟩ := m
  unfold Breed.val Camel.val at hck hla ⊢
  unfold March.val at hmk hla ⊢
  unfold Breed.cells at hb0 hW0
  unfold Camel.cells at hc0 hW0
  unfold March.cells at hm0 hW0
  simp only at hck hmk hla hb0 hc0 hm0 hW0 ⊢
  have Hgr := Lib.hid hgr
  have Hck := Lib.hid hck
  have Hmk := Lib.hid hmk
  have Hfd := Lib.hid hfd
  have Hfi := Lib.hid hfi
  have Hlm := Lib.hid hlm
  have Hla := Lib.hid hla
  have Hmo := Lib.hid hmo
  have Hx0 := Lib.hid hx0
  have Ha0 := Lib.hid ha0
  have Hb0 := Lib.hid hb0
  have Hc0 := Lib.hid hc0
  have Hm0 := Lib.hid hm0
  have Hsl := Lib.hid hsl
  have HG := Lib.hid hG
  have HF := Lib.hid hF
  clear hgr hck hmk hfd hfi hlm hla hmo hx0 ha0 hb0 hc0 hm0 hsl hG hF
  clear hl hs
  obtain rfl : G = false := by rw [← HG.out]; exact decide_eq_false hqq
  have hlB : decide (60 < (n : Int)) = false := by simp; omega
  have hkB : (K != 0) = true := by have := hk0.out; rw [hK0] at this; simpa using this
  clear hk0 hK0
  go_enter Try.func6, Try.ntmps6
  go_wp2_with (first
  | (go_at_call 27; refine (alive04_any _).mono ?_; rintro e v1 ⟨rfl, hx1⟩; have ha1 := hx1.heap Ha0.out; have hb1 := hx1.heap Hb0.out; have hc1 := hx1.heap Hc0.out; have hm1 := hx1.heap Hm0.out; have hy1 := Hx0.out.trans hx1; have Ha1 := Lib.hid ha1; have Hb1 := Lib.hid hb1; have Hc1 := Lib.hid hc1; have Hm1 := Lib.hid hm1; have Hy1 := Lib.hid hy1; clear ha1 hb1 hc1 hm1 hy1)
  | (refine wpList_load_row rfl 83 (.tmp 9) rfl w.heap.size rfl 83 _ (0, 0) _ Ha1.out Try.underlying83 rfl (by kernel_rfl) ?_)
  | (go_at_call 28; refine (Hgr.out _).mono ?_; rintro e v2 ⟨rfl, hx2⟩; have ha2 := hx2.heap Ha1.out; have hb2 := hx2.heap Hb1.out; have hc2 := hx2.heap Hc1.out; have hm2 := hx2.heap Hm1.out; have hy2 := Hy1.out.trans hx2; obtain ⟨zb, _⟩ := (Ext.refl v2).box hb2; obtain ⟨zc, _⟩ := (Ext.refl v2).box hc2; have Ha2 := Lib.hid ha2; have Hb2 := Lib.hid hb2; have Hc2 := Lib.hid hc2; have Hm2 := Lib.hid hm2; have Hy2 := Lib.hid hy2; clear ha2 hb2 hc2 hm2 hy2)
  | (go_at_call 9; refine (Hck.out _).mono ?_; rintro e v3 ⟨rfl, hx3⟩; clear zb zc; have ha3 := hx3.heap Ha2.out; have hb3 := hx3.heap Hb2.out; have hc3 := hx3.heap Hc2.out; have hm3 := hx3.heap Hm2.out; have hy3 := Hy2.out.trans hx3; obtain ⟨zm, _⟩ := (Ext.refl v3).box hm3; have Ha3 := Lib.hid ha3; have Hb3 := Lib.hid hb3; have Hc3 := Lib.hid hc3; have Hm3 := Lib.hid hm3; have Hy3 := Lib.hid hy3; clear ha3 hb3 hc3 hm3 hy3)
  | (go_at_call 10; refine (Hmk.out _).mono ?_; rintro e v4 ⟨rfl, hx4⟩; clear zm; have ha4 := hx4.heap Ha3.out; have hb4 := hx4.heap Hb3.out; have hc4 := hx4.heap Hc3.out; have hm4 := hx4.heap Hm3.out; have hy4 := Hy3.out.trans hx4; have Ha4 := Lib.hid ha4; have Hb4 := Lib.hid hb4; have Hc4 := Lib.hid hc4; have Hm4 := Lib.hid hm4; have Hy4 := Lib.hid hy4; clear ha4 hb4 hc4 hm4 hy4))
  go_ret
  exact ⟨rfl, Hy3.out⟩
set_option maxRecDepth 100000 in
set_option maxHeartbeats 8000000 in
theorem thirsty4 (a : Option Addr) (len cap : Nat) (l : List Half) (ta : Option Addr) (n tc : Nat) (ts : List Trek) (x y far : Int) (s : Breed) (c : Camel) (m : March) (lv : Int) (w : World) (hl : HalvesAt w a len l) (hc : len ≤ cap) (hm : cap ≤ maxLen) (hs : TreksAt w ta n ts) (hn : n ≤ maxLen) (hv0 : 0 ≤ lv) (hv1 : lv ≤ 4294967295) (hqq : ¬60 < len) (hlen : ¬60 < n) (hk : camelErr s c = 0) (hd : dayOk m = false) :
    Calls Try.prog 6 #[.agg #[.slice a len cap], .slice ta n tc, .int .i64 x, .int .i64 y, .int .i64 far, s.val, c.val, m.val, .int .u32 lv] w fun e w' => e = .returned (.bool true) ∧ Ext w w' := by
  have hk0 := Lib.hid hk
  have hd0 := Lib.hid hd
  clear hk hd
  have hgr := fun W => great04_any a len cap W hc hm
  have hck := fun W => rcheckCamel_any s c W
  have hmk := fun W => rmarch_any m W
  have hsl := hs.1
  have hfd := fun (W : World) (hW : Ext w W) (h : n ≤ 60) => finds_any a len cap l ta n tc ts x y far W (hl.ext hW) hc hm (hs.ext hW) (by omega)
  have hfi := finds_is l ts x y far
  unfold FindsPost at hfd
  unfold maxLen at hn
  obtain ⟨K, hK⟩ : ∃ K, camelErr s c = K := ⟨_, rfl⟩
  obtain ⟨D, hD⟩ : ∃ D, dayOk m = D := ⟨_, rfl⟩
  obtain ⟨G, hG⟩ : ∃ G, decide (60 < len) = G := ⟨_, rfl⟩
  obtain ⟨F, hF⟩ : ∃ F, findsOf l ts x y far = F := ⟨_, rfl⟩
  rw [hK] at hck
  rw [hD] at hmk
  rw [hG] at hgr
  rw [hF] at hfi
  simp only [hF] at hfd
  rw [hsl] at hfi
  obtain ⟨F0, F1, F2⟩ := F
  simp only at hfd hfi
  have hlm : ∀ m', Lighter m' m → camelErr s c = 0 → dayOk m = true → ∃ L0 L1 L2 L3 : Nat, lastsVal s c m = (⟨L0, L1⟩, 0) ∧ lastsVal s c m' = (⟨L2, L3⟩, 0) ∧ L0 ≤ L2 ∧ L1 ≤ L3 := fun m' h h0 h1 => by
    obtain ⟨hb, hcc⟩ := camelErr_zero h0
    have := lasts_mono (breedIs hb) h (dayIs h1).hours.1 60 c c (Better.refl c)
    exact ⟨_, _, _, _, lasts_val hb hcc h1, lasts_val hb hcc (dayOk_lighter h1 h), this.1, this.2⟩
  have hla := fun m' W => lasts_any s c m' W
  unfold LastsPost at hla
  have hmo := fun h : dayOk m = true => dayIs h
  have hK0 := hK
  have hD0 := hD
  clear hK hD
  rw [hK0, hD0] at hlm
  rw [hD0] at hmo
  obtain ⟨W0, hW0⟩ : ∃ W0, (((w.alloc (.cells #[.slice a len cap] 83)).alloc (.cells s.cells.toArray 25)).alloc (.cells c.cells.toArray 27)).alloc (.cells m.cells.toArray 29) = W0 := ⟨_, rfl⟩
  have hx0 : Ext w W0 := by rw [← hW0]; exact ((((Ext.refl w).alloc _).alloc _).alloc _).alloc _
  have ha0 : W0.heap[w.heap.size]? = some (.cells #[.slice a len cap] 83 (0, 0)) := by rw [← hW0]; exact alloc_heap (alloc_heap (alloc_heap (heap_alloc_new w _) _) _) _
  have hb0 : W0.heap[w.heap.size + 1]? = some (.cells s.cells.toArray 25 (0, 0)) := by rw [← hW0]; exact alloc_heap (alloc_heap (alloc_at _ _ _ (by simp)) _) _
  have hc0 : W0.heap[w.heap.size + 1 + 1]? = some (.cells c.cells.toArray 27 (0, 0)) := by rw [← hW0]; exact alloc_heap (alloc_at _ _ _ (by simp)) _
  have hm0 : W0.heap[w.heap.size + 1 + 1 + 1]? = some (.cells m.cells.toArray 29 (0, 0)) := by rw [← hW0]; exact alloc_at _ _ _ (by simp)
  obtain ⟨fu, fe, ⟨r0, r1⟩, ⟨h0, h1⟩, ⟨t0, t1⟩, ⟨b0, b1⟩, ⟨u0, u1⟩, ⟨m0, m1⟩, hz, ⟨s0, s1⟩⟩ := s
  obtain ⟨⟨w0, w1⟩, ⟨k0, k1⟩, ⟨o0, o1⟩, mk⟩ := c
  obtain ⟨hh, ld, ⟨e0, e1⟩, ⟨g0, g1⟩, ⟨d0, d1⟩⟩ := m
  unfold Breed.val Camel.val at hck hla ⊢
  unfold March.val at hmk hla ⊢
  unfold Breed.cells at hb0 hW0
  unfold Camel.cells at hc0 hW0
  unfold March.cells at hm0 hW0
  simp only at hck hmk hla hb0 hc0 hm0 hW0 ⊢
  have Hgr := Lib.hid hgr
  have Hck := Lib.hid hck
  have Hmk := Lib.hid hmk
  have Hfd := Lib.hid hfd
  have Hfi := Lib.hid hfi
  have Hlm := Lib.hid hlm
  have Hla := Lib.hid hla
  have Hmo := Lib.hid hmo
  have Hx0 := Lib.hid hx0
  have Ha0 := Lib.hid ha0
  have Hb0 := Lib.hid hb0
  have Hc0 := Lib.hid hc0
  have Hm0 := Lib.hid hm0
  have Hsl := Lib.hid hsl
  have HG := Lib.hid hG
  have HF := Lib.hid hF
  clear hgr hck hmk hfd hfi hlm hla hmo hx0 ha0 hb0 hc0 hm0 hsl hG hF
  clear hl hs
  obtain rfl : G = false := by rw [← HG.out]; exact decide_eq_false hqq
  have hlB : decide (60 < (n : Int)) = false := by simp; omega
  obtain rfl : K = 0 := by have := hk0.out; rw [hK0] at this; exact this
  obtain rfl : D = false := by have := hd0.out; rw [hD0] at this; exact this
  have hkB : ((0 : Int) != 0) = false := by decide
  clear hk0 hK0 hd0 hD0
  go_enter Try.func6, Try.ntmps6
  go_wp2_with (first
  | (go_at_call 27; refine (alive04_any _).mono ?_; rintro e v1 ⟨rfl, hx1⟩; have ha1 := hx1.heap Ha0.out; have hb1 := hx1.heap Hb0.out; have hc1 := hx1.heap Hc0.out; have hm1 := hx1.heap Hm0.out; have hy1 := Hx0.out.trans hx1; have Ha1 := Lib.hid ha1; have Hb1 := Lib.hid hb1; have Hc1 := Lib.hid hc1; have Hm1 := Lib.hid hm1; have Hy1 := Lib.hid hy1; clear ha1 hb1 hc1 hm1 hy1)
  | (refine wpList_load_row rfl 83 (.tmp 9) rfl w.heap.size rfl 83 _ (0, 0) _ Ha1.out Try.underlying83 rfl (by kernel_rfl) ?_)
  | (go_at_call 28; refine (Hgr.out _).mono ?_; rintro e v2 ⟨rfl, hx2⟩; have ha2 := hx2.heap Ha1.out; have hb2 := hx2.heap Hb1.out; have hc2 := hx2.heap Hc1.out; have hm2 := hx2.heap Hm1.out; have hy2 := Hy1.out.trans hx2; obtain ⟨zb, _⟩ := (Ext.refl v2).box hb2; obtain ⟨zc, _⟩ := (Ext.refl v2).box hc2; have Ha2 := Lib.hid ha2; have Hb2 := Lib.hid hb2; have Hc2 := Lib.hid hc2; have Hm2 := Lib.hid hm2; have Hy2 := Lib.hid hy2; clear ha2 hb2 hc2 hm2 hy2)
  | (go_at_call 9; refine (Hck.out _).mono ?_; rintro e v3 ⟨rfl, hx3⟩; clear zb zc; have ha3 := hx3.heap Ha2.out; have hb3 := hx3.heap Hb2.out; have hc3 := hx3.heap Hc2.out; have hm3 := hx3.heap Hm2.out; have hy3 := Hy2.out.trans hx3; obtain ⟨zm, _⟩ := (Ext.refl v3).box hm3; have Ha3 := Lib.hid ha3; have Hb3 := Lib.hid hb3; have Hc3 := Lib.hid hc3; have Hm3 := Lib.hid hm3; have Hy3 := Lib.hid hy3; clear ha3 hb3 hc3 hm3 hy3)
  | (go_at_call 10; refine (Hmk.out _).mono ?_; rintro e v4 ⟨rfl, hx4⟩; clear zm; have ha4 := hx4.heap Ha3.out; have hb4 := hx4.heap Hb3.out; have hc4 := hx4.heap Hc3.out; have hm4 := hx4.heap Hm3.out; have hy4 := Hy3.out.trans hx4; have Ha4 := Lib.hid ha4; have Hb4 := Lib.hid hb4; have Hc4 := Lib.hid hc4; have Hm4 := Lib.hid hm4; have Hy4 := Lib.hid hy4; clear ha4 hb4 hc4 hm4 hy4))
  go_ret
  exact ⟨rfl, Hy4.out⟩
set_option maxRecDepth 100000 in
set_option maxHeartbeats 8000000 in
theorem thirsty5 (a : Option Addr) (len cap : Nat) (l : List Half) (ta : Option Addr) (n tc : Nat) (ts : List Trek) (x y far : Int) (s : Breed) (c : Camel) (m : March) (lv : Int) (w : World) (hl : HalvesAt w a len l) (hc : len ≤ cap) (hm : cap ≤ maxLen) (hs : TreksAt w ta n ts) (hn : n ≤ maxLen) (hv0 : 0 ≤ lv) (hv1 : lv ≤ 4294967295) (hqq : ¬60 < len) (hlen : ¬60 < n) (hk : camelErr s c = 0) (hd : dayOk m = true) :
    Calls Try.prog 6 #[.agg #[.slice a len cap], .slice ta n tc, .int .i64 x, .int .i64 y, .int .i64 far, s.val, c.val, m.val, .int .u32 lv] w fun e w' => e = .returned (.bool true) ∧ Ext w w' := by
  have hk0 := Lib.hid hk
  have hd0 := Lib.hid hd
  clear hk hd
  have hgr := fun W => great04_any a len cap W hc hm
  have hck := fun W => rcheckCamel_any s c W
  have hmk := fun W => rmarch_any m W
  have hsl := hs.1
  have hfd := fun (W : World) (hW : Ext w W) (h : n ≤ 60) => finds_any a len cap l ta n tc ts x y far W (hl.ext hW) hc hm (hs.ext hW) (by omega)
  have hfi := finds_is l ts x y far
  unfold FindsPost at hfd
  unfold maxLen at hn
  obtain ⟨K, hK⟩ : ∃ K, camelErr s c = K := ⟨_, rfl⟩
  obtain ⟨D, hD⟩ : ∃ D, dayOk m = D := ⟨_, rfl⟩
  obtain ⟨G, hG⟩ : ∃ G, decide (60 < len) = G := ⟨_, rfl⟩
  obtain ⟨F, hF⟩ : ∃ F, findsOf l ts x y far = F := ⟨_, rfl⟩
  rw [hK] at hck
  rw [hD] at hmk
  rw [hG] at hgr
  rw [hF] at hfi
  simp only [hF] at hfd
  rw [hsl] at hfi
  obtain ⟨F0, F1, F2⟩ := F
  simp only at hfd hfi
  have hlm : ∀ m', Lighter m' m → camelErr s c = 0 → dayOk m = true → ∃ L0 L1 L2 L3 : Nat, lastsVal s c m = (⟨L0, L1⟩, 0) ∧ lastsVal s c m' = (⟨L2, L3⟩, 0) ∧ L0 ≤ L2 ∧ L1 ≤ L3 := fun m' h h0 h1 => by
    obtain ⟨hb, hcc⟩ := camelErr_zero h0
    have := lasts_mono (breedIs hb) h (dayIs h1).hours.1 60 c c (Better.refl c)
    exact ⟨_, _, _, _, lasts_val hb hcc h1, lasts_val hb hcc (dayOk_lighter h1 h), this.1, this.2⟩
  have hla := fun m' W => lasts_any s c m' W
  unfold LastsPost at hla
  have hmo := fun h : dayOk m = true => dayIs h
  have hK0 := hK
  have hD0 := hD
  clear hK hD
  rw [hK0, hD0] at hlm
  rw [hD0] at hmo
  obtain ⟨W0, hW0⟩ : ∃ W0, (((w.alloc (.cells #[.slice a len cap] 83)).alloc (.cells s.cells.toArray 25)).alloc (.cells c.cells.toArray 27)).alloc (.cells m.cells.toArray 29) = W0 := ⟨_, rfl⟩
  have hx0 : Ext w W0 := by rw [← hW0]; exact ((((Ext.refl w).alloc _).alloc _).alloc _).alloc _
  have ha0 : W0.heap[w.heap.size]? = some (.cells #[.slice a len cap] 83 (0, 0)) := by rw [← hW0]; exact alloc_heap (alloc_heap (alloc_heap (heap_alloc_new w _) _) _) _
  have hb0 : W0.heap[w.heap.size + 1]? = some (.cells s.cells.toArray 25 (0, 0)) := by rw [← hW0]; exact alloc_heap (alloc_heap (alloc_at _ _ _ (by simp)) _) _
  have hc0 : W0.heap[w.heap.size + 1 + 1]? = some (.cells c.cells.toArray 27 (0, 0)) := by rw [← hW0]; exact alloc_heap (alloc_at _ _ _ (by simp)) _
  have hm0 : W0.heap[w.heap.size + 1 + 1 + 1]? = some (.cells m.cells.toArray 29 (0, 0)) := by rw [← hW0]; exact alloc_at _ _ _ (by simp)
  obtain ⟨fu, fe, ⟨r0, r1⟩, ⟨h0, h1⟩, ⟨t0, t1⟩, ⟨b0, b1⟩, ⟨u0, u1⟩, ⟨m0, m1⟩, hz, ⟨s0, s1⟩⟩ := s
  obtain ⟨⟨w0, w1⟩, ⟨k0, k1⟩, ⟨o0, o1⟩, mk⟩ := c
  obtain ⟨hh, ld, ⟨e0, e1⟩, ⟨g0, g1⟩, ⟨d0, d1⟩⟩ := m
  unfold Breed.val Camel.val at hck hla ⊢
  unfold March.val at hmk hla ⊢
  unfold Breed.cells at hb0 hW0
  unfold Camel.cells at hc0 hW0
  unfold March.cells at hm0 hW0
  simp only at hck hmk hla hb0 hc0 hm0 hW0 ⊢
  have Hgr := Lib.hid hgr
  have Hck := Lib.hid hck
  have Hmk := Lib.hid hmk
  have Hfd := Lib.hid hfd
  have Hfi := Lib.hid hfi
  have Hlm := Lib.hid hlm
  have Hla := Lib.hid hla
  have Hmo := Lib.hid hmo
  have Hx0 := Lib.hid hx0
  have Ha0 := Lib.hid ha0
  have Hb0 := Lib.hid hb0
  have Hc0 := Lib.hid hc0
  have Hm0 := Lib.hid hm0
  have Hsl := Lib.hid hsl
  have HG := Lib.hid hG
  have HF := Lib.hid hF
  clear hgr hck hmk hfd hfi hlm hla hmo hx0 ha0 hb0 hc0 hm0 hsl hG hF
  clear hl hs
  obtain rfl : G = false := by rw [← HG.out]; exact decide_eq_false hqq
  have hlB : decide (60 < (n : Int)) = false := by simp; omega
  have hn60 : n ≤ 60 := by omega
  obtain rfl : K = 0 := by have := hk0.out; rw [hK0] at this; exact this
  obtain rfl : D = true := by have := hd0.out; rw [hD0] at this; exact this
  have hkB : ((0 : Int) != 0) = false := by decide
  clear hk0 hK0 hd0 hD0
  have hday := Hmo.out rfl
  have hd1 := hday.load
  simp only at hd1
  obtain ⟨R, hR⟩ : ∃ R, lv.tmod (ld + 1) = R := ⟨_, rfl⟩
  have hR0 : 0 ≤ R := by rw [← hR]; exact Int.tmod_nonneg _ hv0
  have hR1 : R ≤ ld := by have := Int.tmod_lt_of_pos lv (show 0 < ld + 1 by omega); omega
  obtain ⟨L0, L1, L2, L3, q1, q2, q3, q4⟩ := Hlm.out ⟨hh, ld - R, ⟨e0, e1⟩, ⟨g0, g1⟩, ⟨d0, d1⟩⟩ ⟨rfl, by simp only; omega, by simp only; omega, rfl, rfl, rfl⟩ rfl rfl
  have hl1 := fun W => Hla.out ⟨hh, ld, ⟨e0, e1⟩, ⟨g0, g1⟩, ⟨d0, d1⟩⟩ W
  have hl2 := fun W => Hla.out ⟨hh, ld - R, ⟨e0, e1⟩, ⟨g0, g1⟩, ⟨d0, d1⟩⟩ W
  simp only [q1] at hl1
  simp only [q2] at hl2
  unfold Span.val at hl1 hl2
  simp only at hl1 hl2
  have Hl1 := Lib.hid hl1
  have Hl2 := Lib.hid hl2
  have Hday := Lib.hid hday
  clear hl1 hl2 hday
  clear q1 q2 Hla Hlm Hmo
  go_enter Try.func6, Try.ntmps6
  go_upto_region 6 with (first
    | (go_at_call 27; refine (alive04_any _).mono ?_; rintro e v1 ⟨rfl, hx1⟩; have ha1 := hx1.heap Ha0.out; have hb1 := hx1.heap Hb0.out; have hc1 := hx1.heap Hc0.out; have hm1 := hx1.heap Hm0.out; have hy1 := Hx0.out.trans hx1; have Ha1 := Lib.hid ha1; have Hb1 := Lib.hid hb1; have Hc1 := Lib.hid hc1; have Hm1 := Lib.hid hm1; have Hy1 := Lib.hid hy1; clear ha1 hb1 hc1 hm1 hy1)
    | (refine wpList_load_row rfl 83 (.tmp 9) rfl w.heap.size rfl 83 _ (0, 0) _ Ha1.out Try.underlying83 rfl (by kernel_rfl) ?_)
    | (go_at_call 28; refine (Hgr.out _).mono ?_; rintro e v2 ⟨rfl, hx2⟩; have ha2 := hx2.heap Ha1.out; have hb2 := hx2.heap Hb1.out; have hc2 := hx2.heap Hc1.out; have hm2 := hx2.heap Hm1.out; have hy2 := Hy1.out.trans hx2; obtain ⟨zb, _⟩ := (Ext.refl v2).box hb2; obtain ⟨zc, _⟩ := (Ext.refl v2).box hc2; have Ha2 := Lib.hid ha2; have Hb2 := Lib.hid hb2; have Hc2 := Lib.hid hc2; have Hm2 := Lib.hid hm2; have Hy2 := Lib.hid hy2; clear ha2 hb2 hc2 hm2 hy2)
    | (go_at_call 9; refine (Hck.out _).mono ?_; rintro e v3 ⟨rfl, hx3⟩; clear zb zc; have ha3 := hx3.heap Ha2.out; have hb3 := hx3.heap Hb2.out; have hc3 := hx3.heap Hc2.out; have hm3 := hx3.heap Hm2.out; have hy3 := Hy2.out.trans hx3; obtain ⟨zm, _⟩ := (Ext.refl v3).box hm3; have Ha3 := Lib.hid ha3; have Hb3 := Lib.hid hb3; have Hc3 := Lib.hid hc3; have Hm3 := Lib.hid hm3; have Hy3 := Lib.hid hy3; clear ha3 hb3 hc3 hm3 hy3)
    | (go_at_call 10; refine (Hmk.out _).mono ?_; rintro e v4 ⟨rfl, hx4⟩; clear zm; have ha4 := hx4.heap Ha3.out; have hb4 := hx4.heap Hb3.out; have hc4 := hx4.heap Hc3.out; have hm4 := hx4.heap Hm3.out; have hy4 := Hy3.out.trans hx4; have Ha4 := Lib.hid ha4; have Hb4 := Lib.hid hb4; have Hc4 := Lib.hid hc4; have Hm4 := Lib.hid hm4; have Hy4 := Lib.hid hy4; clear ha4 hb4 hc4 hm4 hy4))
  have hx24 := (hx2.trans hx3).trans hx4
  have hb4 := hx24.heap Hb1.out
  have hc4 := hx24.heap Hc1.out
  clear Ha1 Hb1 Hc1 Hm1 Hy1 Ha2 Hb2 Hc2 Hm2 Hy2 Ha3 Hb3 Hc3 Hm3 Hy3 hx1 hx2 hx3 hx4 hx24 Hx0 Ha0 Hb0 Hc0 Hm0 hW0
  have Hb4 := Lib.hid hb4
  have Hc4 := Lib.hid hc4
  clear hb4 hc4
  go_upto_region 7 with (refine wpList_load_row rfl 29 (.tmp 16) rfl (w.heap.size + 1 + 1 + 1) rfl 29 _ (0, 0) _ Hm4.out Try.underlying29 rfl (by kernel_rfl) ?_)
  have hv5 := (Ext.refl v4).alloc (.cells #[.int .i64 hh, .int .i64 ld, .int .i64 e0, .int .i64 e1, .int .i64 g0, .int .i64 g1, .int .i64 d0, .int .i64 d1] 29)
  have hp5 := heap_alloc_new v4 (.cells #[.int .i64 hh, .int .i64 ld, .int .i64 e0, .int .i64 e1, .int .i64 g0, .int .i64 g1, .int .i64 d0, .int .i64 d1] 29)
  have hq5 := Hy4.out.size
  generalize v4.alloc (.cells #[.int .i64 hh, .int .i64 ld, .int .i64 e0, .int .i64 e1, .int .i64 g0, .int .i64 g1, .int .i64 d0, .int .i64 d1] 29) = V5 at *
  have ha5 := hv5.heap Ha4.out
  have hb5 := hv5.heap Hb4.out
  have hc5 := hv5.heap Hc4.out
  have hm5 := hv5.heap Hm4.out
  have hy5 := Hy4.out.trans hv5
  have hne : w.heap.size ≠ v4.heap.size ∧ w.heap.size + 1 ≠ v4.heap.size ∧ w.heap.size + 1 + 1 ≠ v4.heap.size ∧ w.heap.size + 1 + 1 + 1 ≠ v4.heap.size := by have := heap_lt Hm4.out; omega
  generalize v4.heap.size = p5 at *
  have Hp5 := Lib.hid hp5
  have Hq5 := Lib.hid hq5
  have Ha5 := Lib.hid ha5
  have Hb5 := Lib.hid hb5
  have Hc5 := Lib.hid hc5
  have Hm5 := Lib.hid hm5
  have Hy5 := Lib.hid hy5
  have Hne := Lib.hid hne
  clear hp5 hq5 ha5 hb5 hc5 hm5 hy5 hne
  clear hv5 Ha4 Hb4 Hc4 Hm4 Hy4
  have hnz : (ld + 1 == 0) = false := by simp; omega
  have hnz' : ld + 1 ≠ 0 := by omega
  refine wp_region_plan (.take [0, 1, 2, 3, 4, 5, 6, 7, 8, 9] (.fin (.one 10 .done))) [10] (Ext V5) _ (by kernel_rfl) (by kernel_rfl) rfl (EC.ext V5) ((Ext.refl _).drew) ?_
  simp only [planOf, treeOf, oneOp, twoOp, opsOf, consOp, callOC, oneOC, twoOC, List.getElem?_toArray, List.getElem?_cons_succ, List.getElem?_cons_zero]
  intro ι _ f hf
  have q0 := fun q => ((hf q).box Hp5.out).1
  have q1 := fun q => ((hf q).box Hm5.out).1
  clear hf
  repeat (go_big_quiet_step (fail))
  refine wpQuiet_nil ?_
  clear q0 q1
  intro W6 hW6
  refine wpOT_one ?_
  have hp6 := hW6.heap Hp5.out
  have ha6 := hW6.heap Ha5.out
  have hb6 := hW6.heap Hb5.out
  have hc6 := hW6.heap Hc5.out
  have hm6 := hW6.heap Hm5.out
  have hy6 := Hy5.out.trans hW6
  have hle := heap_lt hp6
  obtain ⟨y0, y1⟩ := (Ext.refl W6).box hp6
  have Hp6 := Lib.hid hp6
  have Ha6 := Lib.hid ha6
  have Hb6 := Lib.hid hb6
  have Hc6 := Lib.hid hc6
  have Hm6 := Lib.hid hm6
  have Hy6 := Lib.hid hy6
  clear hp6 ha6 hb6 hc6 hm6 hy6
  clear Hp5 Ha5 Hb5 Hc5 Hm5 Hy5 hW6
  go_wp2_with fail
  refine wpOT_done ?_
  clear y0 y1
  have hx7 := Hy6.out.setCell (p := ⟨p5, 1, none⟩) Hq5.out (.int .i64 (ld - R))
  have hp7 : (W6.setCell ⟨p5, 1, none⟩ (.int .i64 (ld - R))).heap[p5]? = some (.cells #[.int .i64 hh, .int .i64 (ld - R), .int .i64 e0, .int .i64 e1, .int .i64 g0, .int .i64 g1, .int .i64 d0, .int .i64 d1] 29 (0, 0)) := by rw [heap_setCell_box, Hp6.out]; rfl
  have ha7 := (Below.heap_setCell W6 ⟨p5, 1, none⟩ (.int .i64 (ld - R)) _ Hne.out.1).trans Ha6.out
  have hb7 := (Below.heap_setCell W6 ⟨p5, 1, none⟩ (.int .i64 (ld - R)) _ Hne.out.2.1).trans Hb6.out
  have hc7 := (Below.heap_setCell W6 ⟨p5, 1, none⟩ (.int .i64 (ld - R)) _ Hne.out.2.2.1).trans Hc6.out
  have hm7 := (Below.heap_setCell W6 ⟨p5, 1, none⟩ (.int .i64 (ld - R)) _ Hne.out.2.2.2).trans Hm6.out
  generalize (W6.setCell ⟨p5, 1, none⟩ (.int .i64 (ld - R))) = W7 at *
  have Hx7 := Lib.hid hx7
  have Hp7 := Lib.hid hp7
  have Ha7 := Lib.hid ha7
  have Hb7 := Lib.hid hb7
  have Hc7 := Lib.hid hc7
  have Hm7 := Lib.hid hm7
  clear hx7 hp7 ha7 hb7 hc7 hm7
  iterate 2 go_step
  exact thirstyTail ⟨fu, fe, ⟨r0, r1⟩, ⟨h0, h1⟩, ⟨t0, t1⟩, ⟨b0, b1⟩, ⟨u0, u1⟩, ⟨m0, m1⟩, hz, ⟨s0, s1⟩⟩ ⟨⟨w0, w1⟩, ⟨k0, k1⟩, ⟨o0, o1⟩, mk⟩ ⟨hh, ld, ⟨e0, e1⟩, ⟨g0, g1⟩, ⟨d0, d1⟩⟩ ⟨hh, ld - R, ⟨e0, e1⟩, ⟨g0, g1⟩, ⟨d0, d1⟩⟩ Hx7.out Ha7.out Hb7.out Hc7.out Hm7.out Hp7.out Hl1.out Hl2.out (by omega) (by omega) hn60 (fun W hW => Hfd.out W hW hn60) Hfi.out
theorem lawThirsty_any (a : Option Addr) (len cap : Nat) (l : List Half) (ta : Option Addr) (n tc : Nat) (ts : List Trek) (x y far : Int) (s : Breed) (c : Camel) (m : March) (lv : Int) (w : World) (hl : HalvesAt w a len l) (hc : len ≤ cap) (hm : cap ≤ maxLen) (hs : TreksAt w ta n ts) (hn : n ≤ maxLen) (hv0 : 0 ≤ lv) (hv1 : lv ≤ 4294967295) :
    Calls Try.prog 6 #[.agg #[.slice a len cap], .slice ta n tc, .int .i64 x, .int .i64 y, .int .i64 far, s.val, c.val, m.val, .int .u32 lv] w fun e w' => e = .returned (.bool true) ∧ Ext w w' := by
  by_cases h1 : 60 < len
  · exact thirsty1 a len cap l ta n tc ts x y far s c m lv w hl hc hm hs hn hv0 hv1 h1
  by_cases h2 : 60 < n
  · exact thirsty2 a len cap l ta n tc ts x y far s c m lv w hl hc hm hs hn hv0 hv1 h1 h2
  by_cases h3 : camelErr s c ≠ 0
  · exact thirsty3 a len cap l ta n tc ts x y far s c m lv w hl hc hm hs hn hv0 hv1 h1 h2 h3
  cases h4 : dayOk m with
  | false => exact thirsty4 a len cap l ta n tc ts x y far s c m lv w hl hc hm hs hn hv0 hv1 h1 h2 (Classical.not_not.1 h3) h4
  | true => exact thirsty5 a len cap l ta n tc ts x y far s c m lv w hl hc hm hs hn hv0 hv1 h1 h2 (Classical.not_not.1 h3) h4
end Go.Proofs.Ytcoelhpmkhimpaa
