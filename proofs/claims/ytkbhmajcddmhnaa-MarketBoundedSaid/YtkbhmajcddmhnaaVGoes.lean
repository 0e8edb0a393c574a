/- goes: its contract. -/
import Derived.Test.YtkbhmajcddmhnaaVGoesQ
namespace Go.Proofs.Ytkbhmajcddmhnaa
open Go.RowKit
set_option linter.unusedVariables false
set_option linter.unusedSimpArgs false

theorem info3s : (Try.prog.info? 3).map (·.size) = some 1 := by kernel_rfl
theorem iv_one (l : List Int) : ∀ v ∈ iv l, v.oneCell' = true := by
  intro v hv
  obtain ⟨x, _, rfl⟩ := List.mem_map.1 hv
  rfl
theorem goes_none {l : List Offer} {fs : List Fair} {xs : List Int} {bs : List Barter} {by_ : List Int} {k : Nat} {t : TS} {b : Barter} (h : goTo l fs xs bs by_ k = some t) (hb : bs[k]? = some b) (hs : goStep l fs by_ k b t = none) : goesOf l fs xs bs by_ = none := by
  have hk := (List.getElem?_eq_some_iff.1 hb).1
  have : goTo l fs xs bs by_ (k + 1) = none := by
    simp only [goTo, h, Option.bind_some, List.getD, hb, Option.getD_some, hs]
  unfold goesOf
  rw [goTo_none this _ (by omega)]
  rfl
set_option maxRecDepth 100000 in
set_option maxHeartbeats 8000000 in
theorem goes_any (a : Option Addr) (n cap : Nat) (l : List Offer) (fa : Option Addr) (fn fc : Nat) (fs : List Fair) (sa : Option Addr) (sc : Nat) (xs : List Int) (ba : Option Addr) (bn bc : Nat) (bs : List Barter) (ca : Option Addr) (cn cc : Nat) (by_ : List Int) (w : World)
    (hl : OffersAt w a n l) (hf : FairsAt w fa fn fs) (hs : IntsAt .i64 w sa 5 xs) (hp : BartersAt w ba bn bs) (hby : IntsAt .u32 w ca cn by_) (hu : u32s by_) (ho : offersOk l = true) (ht : tripOk fs = true) (hxo : stocksOk xs = true) (hbn : bn ≤ 60) (hcn : cn ≤ 9223372036854775807) :
    Calls Try.prog 35 #[.slice a n cap, .slice fa fn fc, .slice sa 5 sc, .slice ba bn bc, .slice ca cn cc] w (GoesPost (goesOf l fs xs bs by_) w) := by
  have hnl := hl.1
  have hfl := hf.1
  have hbl := hp.1
  have hol := offers_len ho
  have htl := trip_len ht
  have hn10 : n ≤ 10 := by omega
  have hfn5 : fn ≤ 5 := by omega
  have hfn1 : 1 ≤ fn := by omega
  obtain ⟨sb, so, _, rfl, _, hsb, _⟩ := hs.get 0 (by omega)
  have hz : TrAt (w.alloc (.cells (truCells zTru (.slice none 0 0)).toArray 66)) w.heap.size zTru (.slice none 0 0) := heap_alloc_new w _
  have hz2 : TrAt ((w.alloc (.cells (truCells zTru (.slice none 0 0)).toArray 66)).alloc (.cells (truCells zTru (.slice none 0 0)).toArray 66)) (w.heap.size + 1) zTru (.slice none 0 0) := by
    have := heap_alloc_new (w.alloc (.cells (truCells zTru (.slice none 0 0)).toArray 66)) (.cells (truCells zTru (.slice none 0 0)).toArray 66)
    rw [show (w.alloc (.cells (truCells zTru (.slice none 0 0)).toArray 66)).heap.size = w.heap.size + 1 by simp] at this
    exact this
  have hx1 : Ext w ((w.alloc (.cells (truCells zTru (.slice none 0 0)).toArray 66)).alloc (.cells (truCells zTru (.slice none 0 0)).toArray 66)) := ((Ext.refl _).alloc _).alloc _
  have hz1 := hz.ext ((Ext.refl _).alloc (.cells (truCells zTru (.slice none 0 0)).toArray 66))
  have hsz1 : ((w.alloc (.cells (truCells zTru (.slice none 0 0)).toArray 66)).alloc (.cells (truCells zTru (.slice none 0 0)).toArray 66)).heap.size = w.heap.size + 2 := by simp
  have hzq : (truCells zTru (.slice none 0 0)).toArray = #[.int .i64 0, .int .i64 0, .int .i64 0, .int .i64 0, .int .i64 0, .int .i64 0, .int .i64 0, .int .i64 0, .int .i64 0, .int .i64 0, .int .i64 0, .int .i64 0, .int .i64 0, .int .i64 0, .int .i64 0, .int .i64 0, .int .i64 0, .int .i64 0, .int .i64 0, .int .i64 0, .slice none 0 0] := rfl
  rw [hzq] at hz1 hz2 hx1 hsz1
  have hrd := fun (m k : Nat) (rv : Value) (T : TS) wr (hm : m < fs.length) (hst : GSt w w.heap.size (w.heap.size + 1) (w.heap.size + 2) T rv wr) (hT : T.Ok k m) (f : Fair) (hfk : fs[m]? = some f) (ka : Option Addr) (kc : Nat) (hsp : SpansAt w ka 5 f.keeps) =>
    truRoad_any (w.heap.size + 1) (w.heap.size + 2) k m T rv f.place f.day ka kc f.keeps ca cn cc by_ wr hst.tru hT (by omega) (by have := keeps_ok ht hm; simp only [keepsOf, List.getD, hfk, Option.getD_some] at this; exact this) (hsp.ext hst.ext) (fun x hx => by have := hsp.block (by omega) hx; have := hst.ord; omega) (hby.ext hst.ext) hu hcn (fun h x hx => by have := hby.block h hx; have := hst.ord; omega) hst.own hst.ord.2.2.1 hst.ord.2.2.2
  have Hrd := Lib.hid hrd
  have Hl := Lib.hid hl
  have Hf := Lib.hid hf
  have Hs := Lib.hid hs
  have Hp := Lib.hid hp
  have Hby := Lib.hid hby
  have Hu := Lib.hid hu
  have Ho := Lib.hid ho
  have Ht := Lib.hid ht
  have Hxo := Lib.hid hxo
  have Hz1 := Lib.hid hz1
  have Hz2 := Lib.hid hz2
  have Hx1 := Lib.hid hx1
  have Hsz1 := Lib.hid hsz1
  have Hnl := Lib.hid hnl
  have Hfl := Lib.hid hfl
  have Hbl := Lib.hid hbl
  clear hrd hl hf hs hp hby hu ho ht hxo hz1 hz2 hx1 hsz1 hnl hfl hbl
  clear hz hzq
  go_enter Try.func35, Try.ntmps35
  go_upto_region 2 with fail
  generalize (w.alloc (.cells #[.int .i64 0, .int .i64 0, .int .i64 0, .int .i64 0, .int .i64 0, .int .i64 0, .int .i64 0, .int .i64 0, .int .i64 0, .int .i64 0, .int .i64 0, .int .i64 0, .int .i64 0, .int .i64 0, .int .i64 0, .int .i64 0, .int .i64 0, .int .i64 0, .int .i64 0, .int .i64 0, .slice none 0 0] 66)).alloc (.cells #[.int .i64 0, .int .i64 0, .int .i64 0, .int .i64 0, .int .i64 0, .int .i64 0, .int .i64 0, .int .i64 0, .int .i64 0, .int .i64 0, .int .i64 0, .int .i64 0, .int .i64 0, .int .i64 0, .int .i64 0, .int .i64 0, .int .i64 0, .int .i64 0, .int .i64 0, .int .i64 0, .slice none 0 0] 66) = w1 at *
  have hs1 := Hs.out.ext Hx1.out
  have hcopy : ∀ j v, (iv xs)[j]? = some v → w1.cell? ((⟨sb, so, none⟩ : Addr).add j) = some v := fun j v hv => by
    rw [addr_add']
    have hj : j < 5 := by have := (List.getElem?_eq_some_iff.1 hv).1; rw [iv_len, hs1.1] at this; exact this
    rw [iv_get (by rw [hs1.1]; exact hj)] at hv
    cases hv
    obtain ⟨_, _, x, e, hx, _, c⟩ := hs1.get j hj
    cases e
    rw [c]
    simp [List.getD, hx]
  have hcl : (iv xs).length = 5 := by rw [iv_len]; exact hs1.1
  have hxl : xs.length = 5 := hs1.1
  obtain ⟨w2, hrun, hstart, hoth, hx12⟩ : ∃ w2, (Builtin.copy_ #[24, 24] 3 #[.slice (some ⟨w.heap.size + 1, 0, none⟩) 5 5, .slice (some ⟨sb, so, none⟩) 5 sc]).run Try.prog w1 = .ok (.int .i64 5) w2 ∧ TrAt w2 (w.heap.size + 1) (goStart xs) (.slice none 0 0) ∧ (∀ k, k ≠ w.heap.size + 1 → w2.heap[k]? = w1.heap[k]?) ∧ Ext w w2 := by
    have h := run_copy_row (P := Try.prog) w1 24 24 3 3 (w.heap.size + 1) 0 5 5 ⟨sb, so, none⟩ 5 sc _ 66 (iv xs) Try.underlying24 info3s Hz2.out (by rw [hcl]; rfl) hcopy (by rw [hcl, tru_size zTru5]; omega) (iv_one xs)
    rw [hcl] at h
    refine ⟨_, h, ?_, fun k hk => setRow_other _ _ _ _ hk, below_setRow Hx1.out (by omega) _⟩
    exact setRow_heap w1 (w.heap.size + 1) _ _ 66 (0, 0) Hz2.out
  have hst : GSt w w.heap.size (w.heap.size + 1) (w.heap.size + 2) (goStart xs) (.slice none 0 0) w2 :=
    ⟨hstart, Owns.nil _ _ _ _, (hoth _ (by omega)).trans Hz1.out, hx12, by omega, by omega, by omega, by
      have h2 : w.heap.size + 1 < w2.heap.size := heap_lt hstart
      omega⟩
  have Hst := Lib.hid hst
  clear hst
  clear hstart hs1 Hz1 Hx1 hcopy hcl hoth hx12 Hz2 Hsz1
  go_wp2_with fail
  clear hrun
  go_loopw [23] (fun i wr => ∃ (k r : Nat) (t : TS) (rv : Value), k ≤ bn ∧ i = .int .i64 k ∧ goTo l fs xs bs by_ k = some t ∧ GSt w w.heap.size (w.heap.size + 1) (w.heap.size + 2) t rv wr ∧ t.Ok k r ∧ r < fs.length) (fun i _ => bn - (intOf i).toNat)
  case atStart => exact ⟨0, 0, _, _, Nat.zero_le _, rfl, rfl, Hst.out, goStart_ok Hxo.out, by omega⟩
  case round =>
    clear Hst
    obtain ⟨k, r, t, rv, hk, rfl, hgo, hst, hok, hr⟩ := hrel
    by_cases hlt : k < bn
    case neg =>
      have hlt' : decide ((k : Int) < (bn : Int)) = false := by simp; omega
      obtain rfl : k = bn := by omega
      have hgoes : goesOf l fs xs bs by_ = some (t.to by_ fs (fs.length - 1)) := by
        unfold goesOf
        rw [Hbl.out, hgo]
        rfl
      have Hst := Lib.hid hst
      have Hok := Lib.hid hok
      have Hgoes := Lib.hid hgoes
      clear hst hok hgoes
      clear hgo
      go_upto_if 24 with fail
      iterate 6 go_step
      exact goesTail Hst.out Hok.out hr Hf.out Ht.out Hby.out Hu.out hcn Hgoes.out
    case pos =>
    have hlt' : decide ((k : Int) < (bn : Int)) = true := by simp; omega
    obtain ⟨ra, rc, hrv⟩ := hst.rv
    rw [hok.roads.1] at hrv
    subst hrv
    obtain ⟨bb, bo, b, rfl, hbk, hbb, p0, p1, p2⟩ := (Hp.out.ext hst.ext).get k hlt
    have hnone := fun hs => goes_none hgo hbk hs
    have hnext : goTo l fs xs bs by_ (k + 1) = goStep l fs by_ k b t := by
      simp only [goTo, hgo, Option.bind_some, List.getD, hbk, Option.getD_some]
    obtain ⟨F, O, T⟩ := b
    simp only at p0 p1 p2
    obtain ⟨G, hG⟩ : ∃ G, goBad l fs t.roads.length ⟨F, O, T⟩ = G := ⟨_, rfl⟩
    rw [hok.roads.1] at hG
    have hx1 : Ext wr (wr.alloc (.cells #[.int .i64 F, .int .i64 O, .int .i64 T] 46)) := (Ext.refl _).alloc _
    have hb1 := heap_alloc_new wr (.cells #[.int .i64 F, .int .i64 O, .int .i64 T] 46)
    have hst1 := hst.later hx1
    have cR := hst1.tru.cR hok.l5
    have hown := hst.own.lt
    have hxbw := hst.ord
    have Hst1 := Lib.hid hst1
    have Hok := Lib.hid hok
    have Hnone := Lib.hid hnone
    have Hnext := Lib.hid hnext
    have Hb1 := Lib.hid hb1
    have Hown := Lib.hid hown
    clear hst1 hok hnone hnext hb1 hown
    clear hgo hbk hst hx1
    go_upto_region 6 with fail
    generalize wr.alloc (.cells #[.int .i64 F, .int .i64 O, .int .i64 T] 46) = w2 at *
    generalize wr.heap.size = xb at *
    obtain ⟨f0, _⟩ := (Ext.refl w2).box Hb1.out
    go_cut [62] from 24 to 189 (fun s62 wx => s62 = .bool G ∧ wx = w2)
    case first =>
      by_cases q1 : F < (r : Int)
      · have q1B : decide (F < (r : Int)) = true := decide_eq_true q1
        obtain rfl : G = true := by rw [← hG]; simp [goBad, q1]
        have HG := Lib.hid hG
        clear hG
        go_wp2_with fail
        go_meet
        case rel => exact ⟨rfl, rfl⟩
      have q1B : decide (F < (r : Int)) = false := decide_eq_false q1
      by_cases q2 : (fn : Int) ≤ F
      · have q2B : decide ((fn : Int) ≤ F) = true := decide_eq_true q2
        have q2C : decide ((fs.length : Int) ≤ F) = true := by rw [Hfl.out]; exact q2B
        obtain rfl : G = true := by rw [← hG]; simp [goBad, q2C]
        have HG := Lib.hid hG
        clear hG
        go_wp2_with fail
        go_meet
        case rel => exact ⟨rfl, rfl⟩
      have q2B : decide ((fn : Int) ≤ F) = false := decide_eq_false q2
      by_cases q3 : O < 0
      · have q3B : decide (O < 0) = true := decide_eq_true q3
        obtain rfl : G = true := by rw [← hG]; simp [goBad, q3]
        have HG := Lib.hid hG
        clear hG
        go_wp2_with fail
        go_meet
        case rel => exact ⟨rfl, rfl⟩
      have q3B : decide (O < 0) = false := decide_eq_false q3
      by_cases q4 : (n : Int) ≤ O
      · have q4B : decide ((n : Int) ≤ O) = true := decide_eq_true q4
        have q4C : decide ((l.length : Int) ≤ O) = true := by rw [Hnl.out]; exact q4B
        obtain rfl : G = true := by rw [← hG]; simp [goBad, q4C]
        have HG := Lib.hid hG
        clear hG
        go_wp2_with fail
        go_meet
        case rel => exact ⟨rfl, rfl⟩
      have q4B : decide ((n : Int) ≤ O) = false := decide_eq_false q4
      by_cases q5 : T < 1
      · have q5B : decide (T < 1) = true := decide_eq_true q5
        obtain rfl : G = true := by rw [← hG]; simp [goBad, q5]
        have HG := Lib.hid hG
        clear hG
        go_wp2_with fail
        go_meet
        case rel => exact ⟨rfl, rfl⟩
      have q5B : decide (T < 1) = false := decide_eq_false q5
      by_cases q6 : 1000000000000000 < T
      · have q6B : decide (1000000000000000 < T) = true := decide_eq_true q6
        obtain rfl : G = true := by rw [← hG]; simp [goBad, q6]
        have HG := Lib.hid hG
        clear hG
        go_wp2_with fail
        go_meet
        case rel => exact ⟨rfl, rfl⟩
      have q6B : decide (1000000000000000 < T) = false := decide_eq_false q6
      obtain rfl : G = false := by rw [← hG]; simp only [goBad, Hfl.out, Hnl.out, q1B, q2B, q3B, q4B, q5B, q6B]; rfl
      have HG := Lib.hid hG
      clear hG
      go_wp2_with fail
      go_meet
      case rel => exact ⟨rfl, rfl⟩
    case rest =>
      obtain ⟨rfl, rfl⟩ := hcut
      cases G with
      | true =>
        have hn := Hnone.out (by unfold goStep; rw [Hok.out.roads.1, hG]; rfl)
        have Hn := Lib.hid hn
        clear hn
        clear hG Hnone Hnext f0 cR
        obtain ⟨cp1, cp2, cp3, cp4, cp5⟩ := Hst1.out.copied Hok.out.l5
        have Cp1 := Lib.hid cp1
        have Cp2 := Lib.hid cp2
        have Cp3 := Lib.hid cp3
        have Cp4 := Lib.hid cp4
        have Cp5 := Lib.hid cp5
        clear cp1 cp2 cp3 cp4 cp5
        go_wp2_with (first | (refine wpList_load_row rfl 66 (.tmp 12) rfl (w.heap.size + 1) rfl 66 _ (0, 0) _ Hst1.out.tru Try.underlying66 rfl Cp1.out ?_) | (refine wpList_store_row rfl 66 (.tmp 10) (.tmp 63) rfl w.heap.size _ rfl rfl 66 _ Hst1.out.ret Cp1.out Cp2.out Cp3.out ?_))
        refine bodyPost_ret (results35 _ _ w.heap.size false rfl rfl Cp4.out Hok.out.l5) rfl ?_
        rw [Hn.out]
        exact ⟨_, rfl, tru_size Hok.out.l5 _, Cp3.out, Cp5.out⟩
      | false =>
        simp only [goBad, Bool.or_eq_false_iff, decide_eq_false_iff_not, Hfl.out, Hnl.out] at hG
        obtain ⟨⟨⟨⟨⟨g1, g2⟩, g3⟩, g4⟩, g5⟩, g6⟩ := hG
        obtain ⟨f, rfl⟩ : ∃ f : Nat, F = f := ⟨F.toNat, by omega⟩
        obtain ⟨j, rfl⟩ : ∃ j : Nat, O = j := ⟨O.toNat, by omega⟩
        have hffs : f < fs.length := by have := Hfl.out; omega
        have hstep : goStep l fs by_ k ⟨(f : Int), (j : Int), T⟩ t = if openB (offerAt l (j : Int)) (fs.getD f ⟨0, 0, []⟩) = false ∨ (t.to by_ fs f).held.getD (offerAt l (j : Int)).give.toNat 0 < T * (offerAt l (j : Int)).units then none else
            if 1000000000000000 < ((((t.to by_ fs f).pay (offerAt l (j : Int)) (T * (offerAt l (j : Int)).units)).take (offerAt l (j : Int)) (got (offerAt l (j : Int)) T (pick by_ k))).held.getD (offerAt l (j : Int)).get.toNat 0) then none else
            some ((((t.to by_ fs f).pay (offerAt l (j : Int)) (T * (offerAt l (j : Int)).units)).take (offerAt l (j : Int)) (got (offerAt l (j : Int)) T (pick by_ k))).note (offerAt l (j : Int)) (got (offerAt l (j : Int)) T (pick by_ k))) := by
          unfold goStep
          rw [if_neg (by
            simp only [goBad, Bool.or_eq_true, decide_eq_true_eq, not_or]
            rw [Hok.out.roads.1, Hfl.out, Hnl.out]
            exact ⟨⟨⟨⟨⟨g1, g2⟩, g3⟩, g4⟩, g5⟩, g6⟩)]
          simp only [Int.toNat_natCast]
        rw [hstep] at Hnext
        have hxt : ∀ q, (Value.slice ra r rc).ownBlock = some q → q ≠ xb := fun q e => by have := Hown.out q e; omega
        have Hstep := Lib.hid hstep
        have Hxt := Lib.hid hxt
        clear hstep hxt
        clear cR
        go_step
        go_wp2_with fail
        go_loopw [64] (fun v wr => ∃ (k2 : Nat) (rv2 : Value), r + k2 ≤ f ∧ GSt w w.heap.size (w.heap.size + 1) (w.heap.size + 2) (t.go by_ fs k2) rv2 wr ∧ (t.go by_ fs k2).Ok k (r + k2) ∧ wr.heap[xb]? = some (.cells #[.int .i64 f, .int .i64 j, .int .i64 T] 46 (0, 0)) ∧ (∀ q, rv2.ownBlock = some q → q ≠ xb) ∧ xb < wr.heap.size) (fun v wr => fs.length - roadsLen (w.heap.size + 1) wr)
        case atStart => exact ⟨0, _, by omega, Hst1.out, Hok.out, Hb1.out, Hxt.out, heap_lt Hb1.out⟩
        case round =>
          obtain ⟨k2, rv2, hk2, hst, hT, hb2, hxt2, hxb2⟩ := hrel
          obtain ⟨ra2, rc2, hrv2⟩ := hst.rv
          have hlen := hst.len hT.l5
          rw [hT.roads.1] at hrv2 hlen
          subst hrv2
          have cR := hst.tru.cR hT.l5
          obtain ⟨m, hm⟩ : ∃ m, r + k2 = m := ⟨_, rfl⟩
          rw [hm] at hst hT hlen cR hxt2
          obtain ⟨f0, _⟩ := (Ext.refl wr).box hb2
          have hxbo := hst.ord
          by_cases hlt2 : m < f
          · have hlt2B : decide ((m : Int) < (f : Int)) = true := by simp; omega
            obtain ⟨fb, fo, y, ka, kn, kc, rfl, hfk, hfb, d0, d1, d2, _, _, d3⟩ := Hf.out.get m (by have := Hfl.out; omega)
            obtain rfl : kn = 5 := by rw [← d3.1]; exact (fair_bounds Ht.out hfk).1
            have d0 := hst.ext.cell d0
            have d1 := hst.ext.cell d1
            have d2 := hst.ext.cell d2
            have hcall := Hrd.out m k _ _ wr (by omega) hst hT y hfk ka kc d3
            have hks : keepsOf fs m = y.keeps := by simp [keepsOf, List.getD, hfk]
            have hgo : t.go by_ fs (k2 + 1) = (t.go by_ fs k2).road by_ y.keeps := by
              simp only [TS.go]
              rw [Hok.out.roads.1, hm, hks]
            have hT1 := hT.road (by_ := by_) (ks := y.keeps) (by have := keeps_ok Ht.out (show m < fs.length by omega); rw [hks] at this; exact this)
            have hmn : (m : Int) < fn := by have := Hfl.out; omega
            have hxbn : w.heap.size + 1 ≠ xb := by have := Hst1.out.ord; omega
            have Hst := Lib.hid hst
            have Hcall := Lib.hid hcall
            have Hgo := Lib.hid hgo
            have HT1 := Lib.hid hT1
            have Hlen := Lib.hid hlen
            have Hm := Lib.hid hm
            have Hb2 := Lib.hid hb2
            have Hxt2 := Lib.hid hxt2
            clear hst hcall hgo hT1 hlen hm hb2 hxt2
            clear hfk d3 hks hT
            go_wp2_with (go_at_call 66; refine Hcall.out.mono ?_; rintro e w8 hp; obtain ⟨u, rv', rfl, hst8, ho8, hob8⟩ := Hst.out.road hp; have hb8 := (ho8.block xb hxb2 (fun e => hxbn e.symm) (fun e => Hxt2.out xb e rfl)).trans Hb2.out; have hxt8 : ∀ q, rv'.ownBlock = some q → q ≠ xb := (fun q e => by rcases hob8 q e with h | h; exact Hxt2.out q h; omega); clear hp ho8 hob8 f0; have HX8 := Lib.hid hxt8; clear hxt8; have HB8 := Lib.hid hb8; clear hb8)
            go_roundw
            case rel => exact ⟨k2 + 1, rv', by have := Hm.out; omega, by rw [Hgo.out]; exact hst8, by rw [Hgo.out, show r + (k2 + 1) = m + 1 by have := Hm.out; omega]; exact HT1.out, HB8.out, HX8.out, heap_lt HB8.out⟩
            case measure =>
              rw [hst8.len HT1.out.l5, Hlen.out, HT1.out.roads.1]
              omega
          · have hlt2B : decide ((m : Int) < (f : Int)) = false := by simp; omega
            obtain rfl : m = f := by omega
            have hto : t.to by_ fs m = t.go by_ fs k2 := by
              unfold TS.to
              rw [Hok.out.roads.1]
              congr 1
              omega
            rw [← hto] at hst hT
            obtain ⟨w3, rfl⟩ : ∃ w3 : World, w3 = wr := ⟨_, rfl⟩
            have Hst := Lib.hid hst
            have HT := Lib.hid hT
            have Hb2 := Lib.hid hb2
            clear hst hT hb2
            clear hto
            obtain ⟨ob, oo, o, rfl, hoj, hob, q0, q1, q2, q3, q4, q5, q6, q7⟩ := (Hl.out.ext Hst.out.ext).get j (by omega)
            obtain ⟨gi, ge, hgi, hge, hgi5, hge5, hgne, hu1, hu2, hlo1, hlo2, hhi, _⟩ := offer_bounds Ho.out hoj
            have hoat : offerAt l (j : Int) = o := by simp [offerAt, List.getD, hoj]
            obtain ⟨fb, fo, y, ka, kn, kc, rfl, hfk, hfb, d0, d1, _, _, _, _⟩ := (Hf.out.ext Hst.out.ext).get m (by omega)
            have hfe : fs.getD m ⟨0, 0, []⟩ = y := by simp [List.getD, hfk]
            have hopn := fun W => open_any o y.place y.day W
            obtain ⟨opn, hopq⟩ : ∃ q, openB o y = q := ⟨_, rfl⟩
            have hopq' : (o.place == y.place && inB y.day o.from_ o.to) = opn := hopq
            rw [hopq'] at hopn
            have hnx := Hnext.out
            have hsp := Hstep.out
            rw [hoat, hfe, hopq] at hnx hsp
            obtain ⟨T1, hT1⟩ : ∃ T1, t.to by_ fs m = T1 := ⟨_, rfl⟩
            rw [hT1] at hnx hsp Hst HT
            obtain ⟨pl, og, oe, un, lo, hi, fr, tu⟩ := o
            simp only at hgi hge q0 q1 q2 q3 q4 q5 q6 q7 hu1 hu2 hlo1 hlo2 hhi hnx hsp
            subst hgi hge
            simp only [Int.toNat_natCast] at hnx hsp
            unfold Offer.val at hopn
            have hx34 : Ext w3 (w3.alloc (.cells #[.int .i64 pl, .int .i64 gi, .int .i64 ge, .int .i64 un, .int .i64 lo, .int .i64 hi, .int .i64 fr, .int .i64 tu] 81)) := (Ext.refl _).alloc _
            have hy4 := heap_alloc_new w3 (.cells #[.int .i64 pl, .int .i64 gi, .int .i64 ge, .int .i64 un, .int .i64 lo, .int .i64 hi, .int .i64 fr, .int .i64 tu] 81)
            have hst4 := Hst.out.later hx34
            have hb4 := hx34.heap Hb2.out
            have d0 := hx34.cell d0
            have d1 := hx34.cell d1
            have hxo3 := Hst.out.ord
            have hxo1 := Hst1.out.ord
            have Hopn := Lib.hid hopn
            have Hnx := Lib.hid hnx
            have Hsp := Lib.hid hsp
            have Hst4 := Lib.hid hst4
            have Hb4 := Lib.hid hb4
            have Hy4 := Lib.hid hy4
            have HT1 := Lib.hid hT1
            have D0 := Lib.hid d0
            have D1 := Lib.hid d1
            clear hopn hnx hsp hst4 hb4 hy4 hT1 d0 d1
            clear hoj hoat hfk hfe hopq hopq' Hnext Hstep hx34 Hst Hb2
            go_upto_region 10 with fail
            obtain ⟨W4, hW4⟩ : ∃ W4, w3.alloc (.cells #[.int .i64 pl, .int .i64 gi, .int .i64 ge, .int .i64 un, .int .i64 lo, .int .i64 hi, .int .i64 fr, .int .i64 tu] 81) = W4 := ⟨_, rfl⟩
            go_cut [15] from 24 to 189 (fun s15 wx => s15 = .pointer (some ⟨w3.heap.size, 0, none⟩) ∧ W4 = wx)
            case first =>
              have HW4 := Lib.hid hW4
              clear hW4
              go_wp2_with fail
              go_meet
              case rel => exact ⟨rfl, HW4.out.symm⟩
            case rest =>
              obtain ⟨rfl, rfl⟩ := hcut
              have hst4 := Hst4.out
              have hb4 := Hb4.out
              have hy4 := Hy4.out
              have d0 := D0.out
              have d1 := D1.out
              rw [hW4] at hst4 hb4 hy4 d0 d1
              clear Hst4 Hb4 Hy4 D0 D1 f0 cR q0 q1 q2 q3 q4 q5 q6 q7
              go_step
              refine goesRound (r := r) HT.out (by omega) hffs Hfl.out hfn5 Hby.out Hu.out hcn hst4 hb4 hy4 (by omega) (by omega) d0 d1 Hopn.out (by omega) (by omega) hgi5 hge5 hgne hu1 hu2 hlo1 hlo2 hhi Hsp.out ?_ ?_
              · intro t' w' hs hst'
                intros
                obtain ⟨r', hr1, hr2, hok'⟩ := goStep_ok Ho.out Ht.out Hok.out hs
                have hgo' := Hnx.out.trans (Hsp.out.symm.trans hs)
                have Hst' := Lib.hid hst'
                have Hok' := Lib.hid hok'
                have Hgo' := Lib.hid hgo'
                clear hst' hok' hgo'
                clear hs hst4 hb4 hy4 d0 d1
                dsimp only
                go_wp2_with fail
                go_roundw
                case rel => exact ⟨k + 1, r', t', _, by omega, by go_num, Hgo'.out, Hst'.out, Hok'.out, hr2⟩
                case measure => simp [intOf]; omega
              · intro hs a' w' h1 h2 h3 t' rv' hl' ht' hx' ho'
                have hn := Hnone.out hs
                refine (bodyPost_ret (results35 _ _ w.heap.size false h2 h3 ht' hl') h1 ?_ : bodyPost Try.prog Try.f35 (GoesPost (goesOf l fs xs bs by_) w) .ret a' w')
                rw [hn]
                exact ⟨_, rfl, tru_size hl' _, ho', hx'⟩
end Go.Proofs.Ytkbhmajcddmhnaa
