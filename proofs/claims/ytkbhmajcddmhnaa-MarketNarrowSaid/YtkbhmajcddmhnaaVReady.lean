/- Contract: ready. -/
import Derived.Test.YtkbhmajcddmhnaaVAlive
namespace Go.Proofs.Ytkbhmajcddmhnaa
open Go.RowKit
set_option linter.unusedVariables false
set_option linter.unusedSimpArgs false

def readyB (l : List Offer) (fs : List Fair) : Bool := !greatB l fs && decide (checkOf l fs = 0)
theorem ready_any (a : Option Addr) (n cap : Nat) (l : List Offer) (fa : Option Addr) (fn fc : Nat) (fs : List Fair) (w : World) (hl : OffersAt w a n l) (hf : FairsAt w fa fn fs) (hn : n ≤ maxLen) (hfn : fn ≤ maxLen) :
    Calls Try.prog 33 #[.slice a n cap, .slice fa fn fc] w fun e w' => e = .returned (.bool (readyB l fs)) ∧ Ext w w' := by
  have hgr := great_any a n cap l fa fn fc fs w hl.1 hf hn hfn
  unfold maxLen at hn hfn
  cases hg : greatB l fs with
  | true =>
    rw [hg] at hgr
    rw [show readyB l fs = false by simp [readyB, hg]]
    have Hgr := Lib.hid hgr
    clear hgr hl hf hg
    go_enter Try.func33, Try.ntmps33
    go_wp2_with (go_at_call 15; refine Hgr.out.mono ?_; rintro e w1 ⟨rfl, hx1⟩)
    go_ret
    exact ⟨rfl, hx1⟩
  | false =>
    obtain ⟨g1, g2⟩ := great_lens hg
    rw [hl.1] at g1
    rw [hf.1] at g2
    rw [hg] at hgr
    have hck := fun W (hW : Ext w W) => refCheck_any a n cap l fa fn fc fs W (fun W' hW' => refOffers_any a n cap l W' (hl.ext (hW.trans hW')) (by omega)) (hf.ext hW) (by omega)
    have hr : readyB l fs = decide (checkOf l fs = 0) := by simp [readyB, hg]
    rw [hr]
    obtain ⟨r1, r2⟩ := checkOf_range l fs
    by_cases hc : checkOf l fs = 0
    · rw [hc] at hck
      rw [decide_eq_true hc]
      have Hgr := Lib.hid hgr
      have Hck := Lib.hid hck
      clear hgr hck
      clear hl hf hg hr hc
      go_enter Try.func33, Try.ntmps33
      go_wp2_with (first | (go_at_call 15; refine Hgr.out.mono ?_; rintro e w1 ⟨rfl, hx1⟩) | (go_at_call 24; refine (Hck.out _ hx1).mono ?_; rintro e w2 ⟨rfl, hx2⟩))
      go_ret
      exact ⟨rfl, hx1.trans hx2⟩
    · have hcB : (checkOf l fs == 0) = false := by rw [beq_eq_false_iff_ne]; exact hc
      rw [decide_eq_false hc]
      generalize checkOf l fs = C at *
      have Hgr := Lib.hid hgr
      have Hck := Lib.hid hck
      clear hgr hck
      clear hl hf hg hr hc
      go_enter Try.func33, Try.ntmps33
      go_wp2_with (first | (go_at_call 15; refine Hgr.out.mono ?_; rintro e w1 ⟨rfl, hx1⟩) | (go_at_call 24; refine (Hck.out _ hx1).mono ?_; rintro e w2 ⟨rfl, hx2⟩))
      go_ret
      exact ⟨rfl, hx1.trans hx2⟩
theorem wf_u8 {l : List Int} (h : ∀ x ∈ l, (Lit.int .u8 x).wf = true) : ∀ x ∈ l, 0 ≤ x ∧ x ≤ 255 := fun x hx => by
  have := h x hx
  simp [Lit.wf, IntKind.min, IntKind.max, IntKind.signed, IntKind.bits] at this
  omega
theorem wf_u16 {l : List Int} (h : ∀ x ∈ l, (Lit.int .u16 x).wf = true) : ∀ x ∈ l, 0 ≤ x ∧ x ≤ 65535 := fun x hx => by
  have := h x hx
  simp [Lit.wf, IntKind.min, IntKind.max, IntKind.signed, IntKind.bits] at this
  omega
theorem wf_u32 {l : List Int} (h : ∀ x ∈ l, (Lit.int .u32 x).wf = true) : ∀ x ∈ l, 0 ≤ x ∧ x ≤ 4294967295 := fun x hx => by
  have := h x hx
  simp [Lit.wf, IntKind.min, IntKind.max, IntKind.signed, IntKind.bits] at this
  omega
end Go.Proofs.Ytkbhmajcddmhnaa
