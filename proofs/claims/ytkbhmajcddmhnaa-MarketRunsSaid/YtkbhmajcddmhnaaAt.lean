/- Contracts: market.at, trip.here. -/
import Derived.Test.YtkbhmajcddmhnaaOpen
namespace Go.Proofs.Ytkbhmajcddmhnaa
open Go.RowKit
set_option linter.unusedVariables false

theorem in_ext (n lo hi : Int) (w : World) :
    Calls Try.prog 51 #[.int .i64 n, .int .i64 lo, .int .i64 hi] w fun e w' => e = .returned (.bool (inB n lo hi)) ∧ Ext w w' :=
  (in_any n lo hi w).mono fun e w' ⟨he, hw⟩ => ⟨he, hw ▸ Ext.refl _⟩
theorem within_ext (n lo hi : Int) (w : World) :
    Calls Try.prog 50 #[.int .i64 n, .int .i64 lo, .int .i64 hi] w fun e w' => e = .returned (.bool (inB n lo hi)) ∧ Ext w w' :=
  (within_any n lo hi w).mono fun e w' ⟨he, hw⟩ => ⟨he, hw ▸ Ext.refl _⟩

theorem mem_idxsTo {l : List Offer} {p : Int} {k : Nat} {i : Int} (h : i ∈ idxsTo l p k) : ∃ j : Nat, i = (j : Int) ∧ j < k ∧ ∃ o, l[j]? = some o ∧ o.place = p := by
  induction k with
  | zero => simp [idxsTo] at h
  | succ k ih =>
    simp only [idxsTo, List.mem_append] at h
    rcases h with h | h
    · obtain ⟨j, e, hj, ho⟩ := ih h
      exact ⟨j, e, by omega, ho⟩
    · split at h
      · rename_i o ho
        split at h
        · simp at h
          exact ⟨k, h, by omega, o, ho, by assumption⟩
        · simp at h
      · simp at h

/-- is the offer with this index open on a day? -/
def openAt (l : List Offer) (d : Int) (i : Int) : Bool := match l[i.toNat]? with | some o => inB d o.from_ o.to | none => false
/-- the indices of the offers that are open at a place on a day, in ascending order -/
def hereOf (l : List Offer) (p d : Int) : List Int := (idxsTo l p l.length).filter (openAt l d)

theorem elem24 : Elem Try.prog 24 3 1 := by
  obtain ⟨i, h1, h2, h3, h4⟩ := info_parts Try.info3
  exact ⟨Try.underlying24, ⟨i, _, _, h1, h2, h3, h4, rfl, by decide⟩, by decide⟩

/-- a slice of numbers in new memory -/
def IntsPost (l : List Int) (w : World) (e : Ending) (w' : World) : Prop :=
  ∃ a n c, e = .returned (.slice a n c) ∧ Ext w w' ∧ From w.heap.size a ∧ n ≤ c ∧ c ≤ maxLen ∧ IntsAt .i64 w' a n l

set_option maxRecDepth 100000 in
set_option maxHeartbeats 1000000 in
theorem at_any (mp : Nat) (a : Option Addr) (n cap : Nat) (l : List Offer) (p d : Int) (w : World) (hl : OffersAt w a n l) (hn : n ≤ 10) (B : Nat) (hm : MarketAt B w mp a n cap l) :
    Calls Try.prog 62 #[.pointer (some ⟨mp, 0, none⟩), .int .i64 p, .int .i64 d] w (IntsPost (hereOf l p d) w) := by
  obtain ⟨_, m0, mb, F, _, m1, hF, hall⟩ := hm
  obtain ⟨a', c', hFp, _, hi⟩ := hall p
  have hlk : (Instr.lookup 130 (.map (some mb)) (.int .i64 p) false).run Try.prog w = .ok (F p) w := run_lookup_int hF Try.underlying130 Try.underlying3 (by kernel_rfl) p
  rw [hFp] at hlk
  have hlen := idxsTo_len l p l.length
  have hln := hl.1
  have hmp : mp < w.heap.size := block_lt_of_cell m0
  have Hl := Lib.hid hl
  have Hi := Lib.hid hi
  have Hln := Lib.hid hln
  clear hl hi hFp hall hF hln
  have hlen2 : (idxsTo l p l.length).length ≤ 10 := by have := Hln.out; omega
  generalize hL : idxsTo l p l.length = L at *
  have HL := Lib.hid hL
  clear hL hlen
  go_enter Try.func62, Try.ntmps62
  go_wp2_with fail
  clear hlk
  go_loopw [7, 17] (fun v i wr => ∃ k : Nat, k ≤ L.length ∧ i = .int .i64 k ∧ Ext w wr ∧ Owns wr w.heap.size 3 1 v (intRows .i64 ((L.take k).filter (openAt l d)))) (fun _ i _ => L.length - (intOf i).toNat)
  case atStart => exact ⟨0, Nat.zero_le _, rfl, Ext.refl _, Owns.nil _ _ _ _⟩
  case round =>
    obtain ⟨k, hk, rfl, hx, hown⟩ := hrel
    have Hown := Lib.hid hown
    clear hown
    by_cases hlt : k < L.length
    · obtain ⟨b2, off2, x, rfl, hxk, hb2, e0⟩ := (Hi.out.ext hx).get k hlt
      obtain ⟨j, rfl, hj, o, hjo, hpl⟩ := mem_idxsTo (l := l) (p := p) (k := l.length) (i := x) (by rw [HL.out]; exact List.mem_of_getElem? hxk)
      have hjn : j < n := by have := Hln.out; omega
      obtain ⟨b, off, y, rfl, hyk, hb, c0, c1, c2, c3, c4, c5, c6, c7⟩ := (Hl.out.ext hx).get j hjn
      have k0 := hx.cell m0
      have hmr : mp < wr.heap.size := block_lt_of_cell k0
      have hop : openAt l d (j : Int) = inB d y.from_ y.to := by simp [openAt, hyk]
      have htk : (L.take (k + 1)).filter (openAt l d) = (L.take k).filter (openAt l d) ++ if inB d y.from_ y.to then [(j : Int)] else [] := by
        rw [List.take_add_one, hxk, List.filter_append]
        simp only [Option.toList, List.filter_cons, List.filter_nil, hop]
      have hlenf : ((L.take k).filter (openAt l d)).length ≤ 10 := by
        have h1 := List.length_filter_le (openAt l d) (L.take k)
        have h2 : (L.take k).length ≤ k := List.length_take_le _ _
        omega
      have hc := fun W => in_ext d y.from_ y.to W
      have Hx := Lib.hid hx
      have Hjk := Lib.hid (And.intro hxk (And.intro hjo (And.intro hyk hpl)))
      clear hxk hjo hyk hpl hop hx hj m0 m1
      have hj0 : (0 : Int) ≤ (j : Int) := by omega
      have hj1 : (j : Int) < (n : Int) := by omega
      cases hin : inB d y.from_ y.to
      all_goals
        rw [hin] at htk
        have Htk := Lib.hid htk
        rw [hin] at hc
        have Hc := Lib.hid hc
        clear htk hc hin
        go_wp2_with fail
        refine wp_region_ext (by kernel_rfl) (by kernel_rfl) (fun f hf hs => ?_)
        have g0 := fun q => (hf q).cell k0
        have g5 := fun q => (hf q).cell c6
        have g6 := fun q => (hf q).cell c7
        have Hf := Lib.hid hf
        have Hs := Lib.hid hs
        clear hf hs
        repeat (go_big_quiet_step ((go_at_call 51; exact Calls.ext_of (Hf.out _) Hs.out (Hc.out _))))
        refine wpQuiet_nil ?_
        intro W1 hW1
        clear g0 g5 g6
        obtain ⟨hc1, hf1, hz1⟩ := hW1.facts
        have HW1 := Lib.hid hW1
        clear hW1
      · go_wp2_with fail
        go_roundw
        case rel => exact ⟨k + 1, by omega, by go_num, Hx.out.trans HW1.out, by rw [Htk.out]; simpa using Hown.out.ext HW1.out⟩
        case measure => simp [intOf]; omega
      · have hown1 := (Hown.out.ext HW1.out).alloc (Obj.cells #[Value.int IntKind.i64 ↑j] 3)
        have Ho := Lib.hid hown1
        clear hown1
        go_wp2_with (at_builtin; refine wpList_app elem24 _ rfl (.tmp 39) (.tmp 41) rfl w.heap.size _ _ rfl Ho.out (some ⟨W1.heap.size, 0, none⟩) 1 1 (intRows .i64 [(j : Int)]) rfl rfl (slAt_one (cells_one (by simp [go_sem]))) (intRows_row _ _) ?_ ?_ ?_)
        · simp only [intRows, List.length_map]; omega
        · have := Hx.out.size; have := HW1.out.size; simp; omega
        · intro v' w2 ho2 hg2 _
          have hx2 : Ext w w2 := ((Hx.out.trans HW1.out).alloc _).app Ho.out hg2
          clear hc1 hf1 hz1 k0 c0 c1 c2 c3 c4 c5 c6 c7 e0
          go_wp2_with fail
          go_roundw
          case rel => exact ⟨k + 1, by omega, by go_num, hx2, by rw [Htk.out, if_pos trivial, intRows_append]; exact ho2⟩
          case measure => simp [intOf]; omega
    · go_wp2_with fail
      go_ret
      have e : k = L.length := by omega
      subst e
      have ho := Hown.out
      rw [List.take_length] at ho
      obtain ⟨a2, c2, rfl, hfr, hlc, hcm, hi2⟩ := ints_of_owns ho
      have e2 : hereOf l p d = L.filter (openAt l d) := by unfold hereOf; rw [HL.out]
      refine ⟨a2, _, c2, rfl, hx, hfr, hlc, hcm, ?_⟩
      rw [e2]
      exact hi2
end Go.Proofs.Ytkbhmajcddmhnaa
