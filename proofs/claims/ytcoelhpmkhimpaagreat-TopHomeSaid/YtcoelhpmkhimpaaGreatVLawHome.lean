/- The law TopHome. -/
import Derived.Test.YtcoelhpmkhimpaaGreatVHomeE
namespace Go.Proofs.YtcoelhpmkhimpaaGreat
open Go.RowKit
set_option linter.unusedVariables false
set_option linter.unusedSimpArgs false
set_option maxRecDepth 100000 in
set_option maxHeartbeats 16000000 in
theorem home8a (a : Option Addr) (len cap : Nat) (l : List Half) (x y : Int) (ta : Option Addr) (n tc : Nat) (ts : List Trek) (wx wy far : Int) (s : Breed) (c : Camel) (m : March) (ba : Option Addr) (bn bc : Nat) (bl : List Int) (w : World) (hl : HalvesAt w a len l) (hc : len ≤ cap) (hm : cap ≤ maxLen) (hs : TreksAt w ta n ts) (hn : n ≤ maxLen) (hby : IntsAt .u32 w ba bn bl) (hbm : bn ≤ maxLen) (hbr : ∀ z ∈ bl, 0 ≤ z ∧ z ≤ 4294967295) (hqq : ¬60 < len) (hlen : ¬60 < n) (hfar : -20000000 ≤ x ∧ x ≤ 20000000 ∧ -20000000 ≤ y ∧ y ≤ 20000000) (ha : areaOk l = true) (ht : staysB l x y = true) (hk : camelErr s c = 0) (hd : dayOk m = true) (hyx : y < x) :
    Calls Tryz.prog 3 #[.agg #[.slice a len cap], .int .i64 x, .int .i64 y, .slice ta n tc, .int .i64 wx, .int .i64 wy, .int .i64 far, s.val, c.val, m.val, .slice ba bn bc] w fun e w' => e = .returned (.bool true) ∧ Ext w w' := by
  have har := Lib.hid ha
  clear ha
  have hT0 := Lib.hid ht
  clear ht
  have hk0 := Lib.hid hk
  clear hk
  have hd0 := Lib.hid hd
  clear hd
  have hgr := fun W => great04_any a len cap W hc hm
  have hch := fun W (hW : Ext w W) => rcheckAny_any a len cap l W (hl.ext hW)
  have hck := fun W => rcheckCamel_any s c W
  have hmk := fun W => rmarch_any m W
  have hst := fun W (hW : Ext w W) (ho : areaOk l = true) hx hy => stays_any a len cap l x y W (hl.ext hW) hc hm (fun h hh => by have := (areaOk_iff.1 ho).each h hh; omega) hx hy
  have hsl := hs.1
  have hLA := fun W (hW : Ext w W) => hl.ext hW
  have hTA := fun W (hW : Ext w W) => hs.ext hW
  have hBA := fun W (hW : Ext w W) => hby.ext hW
  have hn' := hn
  unfold maxLen at hn
  obtain ⟨K, hK⟩ : ∃ K, camelErr s c = K := ⟨_, rfl⟩
  obtain ⟨D, hD⟩ : ∃ D, dayOk m = D := ⟨_, rfl⟩
  obtain ⟨G, hG⟩ : ∃ G, decide (60 < len) = G := ⟨_, rfl⟩
  obtain ⟨C, hC⟩ : ∃ C, checkOf l = C := ⟨_, rfl⟩
  rw [hK] at hck
  rw [hD] at hmk
  rw [hG] at hgr
  simp only [hC] at hch
  obtain ⟨W0, hW0⟩ : ∃ W0, (((w.alloc (.cells #[.slice a len cap] 24)).alloc (.cells s.cells.toArray 29)).alloc (.cells c.cells.toArray 31)).alloc (.cells m.cells.toArray 33) = W0 := ⟨_, rfl⟩
  have hx0 : Ext w W0 := by rw [← hW0]; exact ((((Ext.refl w).alloc _).alloc _).alloc _).alloc _
  have ha0 : W0.heap[w.heap.size]? = some (.cells #[.slice a len cap] 24 (0, 0)) := by rw [← hW0]; exact alloc_heap (alloc_heap (alloc_heap (heap_alloc_new w _) _) _) _
  have hb0 : W0.heap[w.heap.size + 1]? = some (.cells s.cells.toArray 29 (0, 0)) := by rw [← hW0]; exact alloc_heap (alloc_heap (alloc_at _ _ _ (by simp)) _) _
  have hc0 : W0.heap[w.heap.size + 1 + 1]? = some (.cells c.cells.toArray 31 (0, 0)) := by rw [← hW0]; exact alloc_heap (alloc_at _ _ _ (by simp)) _
  have hm0 : W0.heap[w.heap.size + 1 + 1 + 1]? = some (.cells m.cells.toArray 33 (0, 0)) := by rw [← hW0]; exact alloc_at _ _ _ (by simp)
  obtain ⟨s', hs'⟩ : ∃ s' : Breed, s' = s := ⟨_, rfl⟩
  obtain ⟨c', hc'⟩ : ∃ c' : Camel, c' = c := ⟨_, rfl⟩
  obtain ⟨m', hm'⟩ : ∃ m' : March, m' = m := ⟨_, rfl⟩
  obtain ⟨fu, fe, ⟨r0, r1⟩, ⟨h0, h1⟩, ⟨t0, t1⟩, ⟨b0, b1⟩, ⟨u0, u1⟩, ⟨m0, m1⟩, hz, ⟨s0, s1⟩⟩ := s
  obtain ⟨⟨w0, w1⟩, ⟨k0, k1⟩, ⟨o0, o1⟩, mk⟩ := c
  obtain ⟨hh, ld, ⟨e0, e1⟩, ⟨g0, g1⟩, ⟨d0, d1⟩⟩ := m
  unfold Breed.val Camel.val at hck ⊢
  unfold March.val at hmk ⊢
  unfold Breed.cells at hb0 hW0
  unfold Camel.cells at hc0 hW0
  unfold March.cells at hm0 hW0
  simp only at hck hmk hb0 hc0 hm0 hW0 ⊢
  have Hgr := Lib.hid hgr
  have Hch := Lib.hid hch
  have Hck := Lib.hid hck
  have Hmk := Lib.hid hmk
  have Hst := Lib.hid hst
  have Hx0 := Lib.hid hx0
  have Ha0 := Lib.hid ha0
  have Hb0 := Lib.hid hb0
  have Hc0 := Lib.hid hc0
  have Hm0 := Lib.hid hm0
  have Hsl := Lib.hid hsl
  have HG := Lib.hid hG
  have HC := Lib.hid hC
  have HK := Lib.hid hK
  have HD := Lib.hid hD
  have Hs' := Lib.hid hs'
  have Hc' := Lib.hid hc'
  have Hm' := Lib.hid hm'
  have HLA := Lib.hid hLA
  have HTA := Lib.hid hTA
  have HBA := Lib.hid hBA
  have Hbr := Lib.hid hbr
  clear hgr hch hck hmk hst hx0 ha0 hb0 hc0 hm0 hsl hG hC hK hD hs' hc' hm' hLA hTA hBA hbr
  clear hl hs hby
  obtain rfl : G = false := by rw [← HG.out]; exact decide_eq_false hqq
  have hlB : decide (60 < (n : Int)) = false := by simp; omega
  have hn60 : n ≤ 60 := by omega
  obtain rfl : C = 0 := by rw [← HC.out]; unfold checkOf; rw [har.out]; rfl
  have hCB : ((0 : Int) != 0) = false := by decide
  have hst' := fun W hW => Hst.out W hW har.out ⟨hfar.1, hfar.2.1⟩ ⟨hfar.2.2.1, hfar.2.2.2⟩
  rw [hT0.out] at hst'
  have Hst' := Lib.hid hst'
  clear hst'
  have hxx : -20000000 ≤ x ∧ x ≤ 20000000 := ⟨hfar.1, hfar.2.1⟩
  have hyy : -20000000 ≤ y ∧ y ≤ 20000000 := ⟨hfar.2.2.1, hfar.2.2.2⟩
  have hmx := fun W => run_max4 x (-x) y (-y) W
  have hMB : decide (20000000 < max x (max (-x) (max y (-y)))) = false := decide_eq_false (by omega)
  have hm1 : decide (y < -20000000) = false := decide_eq_false (by omega)
  have hm2 : decide (x < -20000000) = false := decide_eq_false (by omega)
  obtain ⟨hxa, hxb, hya, hyb⟩ := hfar
  obtain rfl : K = 0 := by have h1 := HK.out; have h2 := hk0.out; rw [h1] at h2; exact h2
  obtain rfl : D = true := by have h1 := HD.out; have h2 := hd0.out; rw [h1] at h2; exact h2
  go_enter Tryz.func3, Tryz.ntmps3
  go_upto_if 85 with (first
    | (go_at_call 5; refine (alive04_any _).mono ?_; rintro e v1 ⟨rfl, hx1⟩; have ha1 := hx1.heap Ha0.out; have hb1 := hx1.heap Hb0.out; have hc1 := hx1.heap Hc0.out; have hm1 := hx1.heap Hm0.out; have hy1 := Hx0.out.trans hx1; have Ha1 := Lib.hid ha1; have Hb1 := Lib.hid hb1; have Hc1 := Lib.hid hc1; have Hm1 := Lib.hid hm1; have Hy1 := Lib.hid hy1; clear ha1 hb1 hc1 hm1 hy1)
    | (refine wpList_load_row rfl 24 (.tmp 11) rfl w.heap.size rfl 24 _ (0, 0) _ Ha1.out Tryz.underlying24 rfl (by kernel_rfl) ?_)
    | (go_at_call 6; refine (Hgr.out _).mono ?_; rintro e v2 ⟨rfl, hx2⟩; have ha2 := hx2.heap Ha1.out; have hb2 := hx2.heap Hb1.out; have hc2 := hx2.heap Hc1.out; have hm2 := hx2.heap Hm1.out; have hy2 := Hy1.out.trans hx2; obtain ⟨za, _⟩ := (Ext.refl v2).box ha2; have Ha2 := Lib.hid ha2; have Hb2 := Lib.hid hb2; have Hc2 := Lib.hid hc2; have Hm2 := Lib.hid hm2; have Hy2 := Lib.hid hy2; clear ha2 hb2 hc2 hm2 hy2)
    | (go_at_call 7; refine (Hch.out _ Hy2.out).mono ?_; rintro e v3 ⟨rfl, hx3⟩; clear za; have ha3 := hx3.heap Ha2.out; have hb3 := hx3.heap Hb2.out; have hc3 := hx3.heap Hc2.out; have hm3 := hx3.heap Hm2.out; have hy3 := Hy2.out.trans hx3; obtain ⟨zd, _⟩ := (Ext.refl v3).box ha3; have Ha3 := Lib.hid ha3; have Hb3 := Lib.hid hb3; have Hc3 := Lib.hid hc3; have Hm3 := Lib.hid hm3; have Hy3 := Lib.hid hy3; clear ha3 hb3 hc3 hm3 hy3)
    | (go_at_call 8; refine (Hst'.out _ Hy3.out).mono ?_; rintro e v4 ⟨rfl, hx4⟩; clear zd; have ha4 := hx4.heap Ha3.out; have hb4 := hx4.heap Hb3.out; have hc4 := hx4.heap Hc3.out; have hm4 := hx4.heap Hm3.out; have hy4 := Hy3.out.trans hx4; obtain ⟨zb, _⟩ := (Ext.refl v4).box hb4; obtain ⟨zc, _⟩ := (Ext.refl v4).box hc4; have Ha4 := Lib.hid ha4; have Hb4 := Lib.hid hb4; have Hc4 := Lib.hid hc4; have Hm4 := Lib.hid hm4; have Hy4 := Lib.hid hy4; clear ha4 hb4 hc4 hm4 hy4)
    | (go_at_call 9; refine (Hck.out _).mono ?_; rintro e v5 ⟨rfl, hx5⟩; clear zb zc; have ha5 := hx5.heap Ha4.out; have hb5 := hx5.heap Hb4.out; have hc5 := hx5.heap Hc4.out; have hm5 := hx5.heap Hm4.out; have hy5 := Hy4.out.trans hx5; obtain ⟨zm, _⟩ := (Ext.refl v5).box hm5; have Ha5 := Lib.hid ha5; have Hb5 := Lib.hid hb5; have Hc5 := Lib.hid hc5; have Hm5 := Lib.hid hm5; have Hy5 := Lib.hid hy5; clear ha5 hb5 hc5 hm5 hy5)
    | (go_at_call 10; refine (Hmk.out _).mono ?_; rintro e v6 ⟨rfl, hx6⟩; clear zm; have ha6 := hx6.heap Ha5.out; have hb6 := hx6.heap Hb5.out; have hc6 := hx6.heap Hc5.out; have hm6 := hx6.heap Hm5.out; have hy6 := Hy5.out.trans hx6; have Ha6 := Lib.hid ha6; have Hb6 := Lib.hid hb6; have Hc6 := Lib.hid hc6; have Hm6 := Lib.hid hm6; have Hy6 := Lib.hid hy6; clear ha6 hb6 hc6 hm6 hy6))
  iterate 4 go_step
  exact homeMid ⟨fu, fe, ⟨r0, r1⟩, ⟨h0, h1⟩, ⟨t0, t1⟩, ⟨b0, b1⟩, ⟨u0, u1⟩, ⟨m0, m1⟩, hz, ⟨s0, s1⟩⟩ ⟨⟨w0, w1⟩, ⟨k0, k1⟩, ⟨o0, o1⟩, mk⟩ ⟨hh, ld, ⟨e0, e1⟩, ⟨g0, g1⟩, ⟨d0, d1⟩⟩ Hy6.out Ha6.out Hb6.out Hc6.out Hm6.out HLA.out hc hm (HTA.out _ Hy6.out) hn60 (camelErr_zero hk0.out).1 (camelErr_zero hk0.out).2 hd0.out (areaOk_iff.1 har.out) (stays_in.1 hT0.out) hxx hyy HBA.out hbm Hbr.out
set_option maxRecDepth 100000 in
set_option maxHeartbeats 16000000 in
theorem home8b (a : Option Addr) (len cap : Nat) (l : List Half) (x y : Int) (ta : Option Addr) (n tc : Nat) (ts : List Trek) (wx wy far : Int) (s : Breed) (c : Camel) (m : March) (ba : Option Addr) (bn bc : Nat) (bl : List Int) (w : World) (hl : HalvesAt w a len l) (hc : len ≤ cap) (hm : cap ≤ maxLen) (hs : TreksAt w ta n ts) (hn : n ≤ maxLen) (hby : IntsAt .u32 w ba bn bl) (hbm : bn ≤ maxLen) (hbr : ∀ z ∈ bl, 0 ≤ z ∧ z ≤ 4294967295) (hqq : ¬60 < len) (hlen : ¬60 < n) (hfar : -20000000 ≤ x ∧ x ≤ 20000000 ∧ -20000000 ≤ y ∧ y ≤ 20000000) (ha : areaOk l = true) (ht : staysB l x y = true) (hk : camelErr s c = 0) (hd : dayOk m = true) (hyx : x ≤ y) :
    Calls Tryz.prog 3 #[.agg #[.slice a len cap], .int .i64 x, .int .i64 y, .slice ta n tc, .int .i64 wx, .int .i64 wy, .int .i64 far, s.val, c.val, m.val, .slice ba bn bc] w fun e w' => e = .returned (.bool true) ∧ Ext w w' := by
  have har := Lib.hid ha
  clear ha
  have hT0 := Lib.hid ht
  clear ht
  have hk0 := Lib.hid hk
  clear hk
  have hd0 := Lib.hid hd
  clear hd
  have hgr := fun W => great04_any a len cap W hc hm
  have hch := fun W (hW : Ext w W) => rcheckAny_any a len cap l W (hl.ext hW)
  have hck := fun W => rcheckCamel_any s c W
  have hmk := fun W => rmarch_any m W
  have hst := fun W (hW : Ext w W) (ho : areaOk l = true) hx hy => stays_any a len cap l x y W (hl.ext hW) hc hm (fun h hh => by have := (areaOk_iff.1 ho).each h hh; omega) hx hy
  have hsl := hs.1
  have hLA := fun W (hW : Ext w W) => hl.ext hW
  have hTA := fun W (hW : Ext w W) => hs.ext hW
  have hBA := fun W (hW : Ext w W) => hby.ext hW
  have hn' := hn
  unfold maxLen at hn
  obtain ⟨K, hK⟩ : ∃ K, camelErr s c = K := ⟨_, rfl⟩
  obtain ⟨D, hD⟩ : ∃ D, dayOk m = D := ⟨_, rfl⟩
  obtain ⟨G, hG⟩ : ∃ G, decide (60 < len) = G := ⟨_, rfl⟩
  obtain ⟨C, hC⟩ : ∃ C, checkOf l = C := ⟨_, rfl⟩
  rw [hK] at hck
  rw [hD] at hmk
  rw [hG] at hgr
  simp only [hC] at hch
  obtain ⟨W0, hW0⟩ : ∃ W0, (((w.alloc (.cells #[.slice a len cap] 24)).alloc (.cells s.cells.toArray 29)).alloc (.cells c.cells.toArray 31)).alloc (.cells m.cells.toArray 33) = W0 := ⟨_, rfl⟩
  have hx0 : Ext w W0 := by rw [← hW0]; exact ((((Ext.refl w).alloc _).alloc _).alloc _).alloc _
  have ha0 : W0.heap[w.heap.size]? = some (.cells #[.slice a len cap] 24 (0, 0)) := by rw [← hW0]; exact alloc_heap (alloc_heap (alloc_heap (heap_alloc_new w _) _) _) _
  have hb0 : W0.heap[w.heap.size + 1]? = some (.cells s.cells.toArray 29 (0, 0)) := by rw [← hW0]; exact alloc_heap (alloc_heap (alloc_at _ _ _ (by simp)) _) _
  have hc0 : W0.heap[w.heap.size + 1 + 1]? = some (.cells c.cells.toArray 31 (0, 0)) := by rw [← hW0]; exact alloc_heap (alloc_at _ _ _ (by simp)) _
  have hm0 : W0.heap[w.heap.size + 1 + 1 + 1]? = some (.cells m.cells.toArray 33 (0, 0)) := by rw [← hW0]; exact alloc_at _ _ _ (by simp)
  obtain ⟨s', hs'⟩ : ∃ s' : Breed, s' = s := ⟨_, rfl⟩
  obtain ⟨c', hc'⟩ : ∃ c' : Camel, c' = c := ⟨_, rfl⟩
  obtain ⟨m', hm'⟩ : ∃ m' : March, m' = m := ⟨_, rfl⟩
  obtain ⟨fu, fe, ⟨r0, r1⟩, ⟨h0, h1⟩, ⟨t0, t1⟩, ⟨b0, b1⟩, ⟨u0, u1⟩, ⟨m0, m1⟩, hz, ⟨s0, s1⟩⟩ := s
  obtain ⟨⟨w0, w1⟩, ⟨k0, k1⟩, ⟨o0, o1⟩, mk⟩ := c
  obtain ⟨hh, ld, ⟨e0, e1⟩, ⟨g0, g1⟩, ⟨d0, d1⟩⟩ := m
  unfold Breed.val Camel.val at hck ⊢
  unfold March.val at hmk ⊢
  unfold Breed.cells at hb0 hW0
  unfold Camel.cells at hc0 hW0
  unfold March.cells at hm0 hW0
  simp only at hck hmk hb0 hc0 hm0 hW0 ⊢
  have Hgr := Lib.hid hgr
  have Hch := Lib.hid hch
  have Hck := Lib.hid hck
  have Hmk := Lib.hid hmk
  have Hst := Lib.hid hst
  have Hx0 := Lib.hid hx0
  have Ha0 := Lib.hid ha0
  have Hb0 := Lib.hid hb0
  have Hc0 := Lib.hid hc0
  have Hm0 := Lib.hid hm0
  have Hsl := Lib.hid hsl
  have HG := Lib.hid hG
  have HC := Lib.hid hC
  have HK := Lib.hid hK
  have HD := Lib.hid hD
  have Hs' := Lib.hid hs'
  have Hc' := Lib.hid hc'
  have Hm' := Lib.hid hm'
  have HLA := Lib.hid hLA
  have HTA := Lib.hid hTA
  have HBA := Lib.hid hBA
  have Hbr := Lib.hid hbr
  clear hgr hch hck hmk hst hx0 ha0 hb0 hc0 hm0 hsl hG hC hK hD hs' hc' hm' hLA hTA hBA hbr
  clear hl hs hby
  obtain rfl : G = false := by rw [← HG.out]; exact decide_eq_false hqq
  have hlB : decide (60 < (n : Int)) = false := by simp; omega
  have hn60 : n ≤ 60 := by omega
  obtain rfl : C = 0 := by rw [← HC.out]; unfold checkOf; rw [har.out]; rfl
  have hCB : ((0 : Int) != 0) = false := by decide
  have hst' := fun W hW => Hst.out W hW har.out ⟨hfar.1, hfar.2.1⟩ ⟨hfar.2.2.1, hfar.2.2.2⟩
  rw [hT0.out] at hst'
  have Hst' := Lib.hid hst'
  clear hst'
  have hxx : -20000000 ≤ x ∧ x ≤ 20000000 := ⟨hfar.1, hfar.2.1⟩
  have hyy : -20000000 ≤ y ∧ y ≤ 20000000 := ⟨hfar.2.2.1, hfar.2.2.2⟩
  have hmx := fun W => run_max4 x (-x) y (-y) W
  have hMB : decide (20000000 < max x (max (-x) (max y (-y)))) = false := decide_eq_false (by omega)
  have hm1 : decide (y < -20000000) = false := decide_eq_false (by omega)
  have hm2 : decide (x < -20000000) = false := decide_eq_false (by omega)
  obtain ⟨hxa, hxb, hya, hyb⟩ := hfar
  obtain rfl : K = 0 := by have h1 := HK.out; have h2 := hk0.out; rw [h1] at h2; exact h2
  obtain rfl : D = true := by have h1 := HD.out; have h2 := hd0.out; rw [h1] at h2; exact h2
  go_enter Tryz.func3, Tryz.ntmps3
  go_upto_if 85 with (first
    | (go_at_call 5; refine (alive04_any _).mono ?_; rintro e v1 ⟨rfl, hx1⟩; have ha1 := hx1.heap Ha0.out; have hb1 := hx1.heap Hb0.out; have hc1 := hx1.heap Hc0.out; have hm1 := hx1.heap Hm0.out; have hy1 := Hx0.out.trans hx1; have Ha1 := Lib.hid ha1; have Hb1 := Lib.hid hb1; have Hc1 := Lib.hid hc1; have Hm1 := Lib.hid hm1; have Hy1 := Lib.hid hy1; clear ha1 hb1 hc1 hm1 hy1)
    | (refine wpList_load_row rfl 24 (.tmp 11) rfl w.heap.size rfl 24 _ (0, 0) _ Ha1.out Tryz.underlying24 rfl (by kernel_rfl) ?_)
    | (go_at_call 6; refine (Hgr.out _).mono ?_; rintro e v2 ⟨rfl, hx2⟩; have ha2 := hx2.heap Ha1.out; have hb2 := hx2.heap Hb1.out; have hc2 := hx2.heap Hc1.out; have hm2 := hx2.heap Hm1.out; have hy2 := Hy1.out.trans hx2; obtain ⟨za, _⟩ := (Ext.refl v2).box ha2; have Ha2 := Lib.hid ha2; have Hb2 := Lib.hid hb2; have Hc2 := Lib.hid hc2; have Hm2 := Lib.hid hm2; have Hy2 := Lib.hid hy2; clear ha2 hb2 hc2 hm2 hy2)
    | (go_at_call 7; refine (Hch.out _ Hy2.out).mono ?_; rintro e v3 ⟨rfl, hx3⟩; clear za; have ha3 := hx3.heap Ha2.out; have hb3 := hx3.heap Hb2.out; have hc3 := hx3.heap Hc2.out; have hm3 := hx3.heap Hm2.out; have hy3 := Hy2.out.trans hx3; obtain ⟨zd, _⟩ := (Ext.refl v3).box ha3; have Ha3 := Lib.hid ha3; have Hb3 := Lib.hid hb3; have Hc3 := Lib.hid hc3; have Hm3 := Lib.hid hm3; have Hy3 := Lib.hid hy3; clear ha3 hb3 hc3 hm3 hy3)
    | (go_at_call 8; refine (Hst'.out _ Hy3.out).mono ?_; rintro e v4 ⟨rfl, hx4⟩; clear zd; have ha4 := hx4.heap Ha3.out; have hb4 := hx4.heap Hb3.out; have hc4 := hx4.heap Hc3.out; have hm4 := hx4.heap Hm3.out; have hy4 := Hy3.out.trans hx4; obtain ⟨zb, _⟩ := (Ext.refl v4).box hb4; obtain ⟨zc, _⟩ := (Ext.refl v4).box hc4; have Ha4 := Lib.hid ha4; have Hb4 := Lib.hid hb4; have Hc4 := Lib.hid hc4; have Hm4 := Lib.hid hm4; have Hy4 := Lib.hid hy4; clear ha4 hb4 hc4 hm4 hy4)
    | (go_at_call 9; refine (Hck.out _).mono ?_; rintro e v5 ⟨rfl, hx5⟩; clear zb zc; have ha5 := hx5.heap Ha4.out; have hb5 := hx5.heap Hb4.out; have hc5 := hx5.heap Hc4.out; have hm5 := hx5.heap Hm4.out; have hy5 := Hy4.out.trans hx5; obtain ⟨zm, _⟩ := (Ext.refl v5).box hm5; have Ha5 := Lib.hid ha5; have Hb5 := Lib.hid hb5; have Hc5 := Lib.hid hc5; have Hm5 := Lib.hid hm5; have Hy5 := Lib.hid hy5; clear ha5 hb5 hc5 hm5 hy5)
    | (go_at_call 10; refine (Hmk.out _).mono ?_; rintro e v6 ⟨rfl, hx6⟩; clear zm; have ha6 := hx6.heap Ha5.out; have hb6 := hx6.heap Hb5.out; have hc6 := hx6.heap Hc5.out; have hm6 := hx6.heap Hm5.out; have hy6 := Hy5.out.trans hx6; have Ha6 := Lib.hid ha6; have Hb6 := Lib.hid hb6; have Hc6 := Lib.hid hc6; have Hm6 := Lib.hid hm6; have Hy6 := Lib.hid hy6; clear ha6 hb6 hc6 hm6 hy6))
  iterate 4 go_step
  exact homeMid ⟨fu, fe, ⟨r0, r1⟩, ⟨h0, h1⟩, ⟨t0, t1⟩, ⟨b0, b1⟩, ⟨u0, u1⟩, ⟨m0, m1⟩, hz, ⟨s0, s1⟩⟩ ⟨⟨w0, w1⟩, ⟨k0, k1⟩, ⟨o0, o1⟩, mk⟩ ⟨hh, ld, ⟨e0, e1⟩, ⟨g0, g1⟩, ⟨d0, d1⟩⟩ Hy6.out Ha6.out Hb6.out Hc6.out Hm6.out HLA.out hc hm (HTA.out _ Hy6.out) hn60 (camelErr_zero hk0.out).1 (camelErr_zero hk0.out).2 hd0.out (areaOk_iff.1 har.out) (stays_in.1 hT0.out) hxx hyy HBA.out hbm Hbr.out
theorem lawHome_any (a : Option Addr) (len cap : Nat) (l : List Half) (x y : Int) (ta : Option Addr) (n tc : Nat) (ts : List Trek) (wx wy far : Int) (s : Breed) (c : Camel) (m : March) (ba : Option Addr) (bn bc : Nat) (bl : List Int) (w : World) (hl : HalvesAt w a len l) (hc : len ≤ cap) (hm : cap ≤ maxLen) (hs : TreksAt w ta n ts) (hn : n ≤ maxLen) (hby : IntsAt .u32 w ba bn bl) (hbm : bn ≤ maxLen) (hbr : ∀ z ∈ bl, 0 ≤ z ∧ z ≤ 4294967295) :
    Calls Tryz.prog 3 #[.agg #[.slice a len cap], .int .i64 x, .int .i64 y, .slice ta n tc, .int .i64 wx, .int .i64 wy, .int .i64 far, s.val, c.val, m.val, .slice ba bn bc] w fun e w' => e = .returned (.bool true) ∧ Ext w w' := by
  by_cases h1 : 60 < len
  · exact home1 a len cap l x y ta n tc ts wx wy far s c m ba bn bc bl w hl hc hm hs hn hby hbm hbr h1
  by_cases h2 : 60 < n
  · exact home2 a len cap l x y ta n tc ts wx wy far s c m ba bn bc bl w hl hc hm hs hn hby hbm hbr h1 h2
  by_cases h3 : -20000000 ≤ x ∧ x ≤ 20000000 ∧ -20000000 ≤ y ∧ y ≤ 20000000
  · cases h4 : areaOk l with
    | false => exact home4 a len cap l x y ta n tc ts wx wy far s c m ba bn bc bl w hl hc hm hs hn hby hbm hbr h1 h2 h3 h4
    | true =>
      cases h5 : staysB l x y with
      | false => exact home5 a len cap l x y ta n tc ts wx wy far s c m ba bn bc bl w hl hc hm hs hn hby hbm hbr h1 h2 h3 h4 h5
      | true =>
        by_cases h6 : camelErr s c = 0
        · cases h7 : dayOk m with
          | false => exact home7 a len cap l x y ta n tc ts wx wy far s c m ba bn bc bl w hl hc hm hs hn hby hbm hbr h1 h2 h3 h4 h5 h6 h7
          | true =>
            rcases Int.lt_or_le y x with h8 | h8
            · exact home8a a len cap l x y ta n tc ts wx wy far s c m ba bn bc bl w hl hc hm hs hn hby hbm hbr h1 h2 h3 h4 h5 h6 h7 h8
            · exact home8b a len cap l x y ta n tc ts wx wy far s c m ba bn bc bl w hl hc hm hs hn hby hbm hbr h1 h2 h3 h4 h5 h6 h7 h8
        · exact home6 a len cap l x y ta n tc ts wx wy far s c m ba bn bc bl w hl hc hm hs hn hby hbm hbr h1 h2 h3 h4 h5 h6
  · exact home3 a len cap l x y ta n tc ts wx wy far s c m ba bn bc bl w hl hc hm hs hn hby hbm hbr h1 h2 h3
end Go.Proofs.YtcoelhpmkhimpaaGreat
