/- Contract: product. -/
import Derived.Test.YtkbhmajcddmhnaaVGr5
import Derived.Test.YtkbhmajcddmhnaaVRefRoad
namespace Go.Proofs.Ytkbhmajcddmhnaa
open Go.RowKit
set_option linter.unusedVariables false
set_option linter.unusedSimpArgs false
set_option maxHeartbeats 1000000 in
theorem product_any (a : Option Addr) (n cap : Nat) (l : List Int) (w : World) (hl : IntsAt .i64 w a n l) (hn : n ≤ 5) (hb : ∀ x ∈ l, 1 ≤ x ∧ x ≤ 50) :
    Calls Try.prog 64 #[.slice a n cap] w fun e w' => e = .returned (.int .i64 (listProd l)) ∧ Ext w w' := by
  have hln := hl.1
  have hall : l.take n = l := List.take_of_length_le (by omega)
  have hpb := fun k => listProd_bd (l := l.take k) (fun x hx => hb x (List.mem_of_mem_take hx))
  have Hl := Lib.hid hl
  have Hb := Lib.hid hb
  have Hln := Lib.hid hln
  have Hpb := Lib.hid hpb
  have Hall := Lib.hid hall
  clear hl hb hln hpb hall
  go_enter Try.func64, Try.ntmps64
  go_wp2_with fail
  go_loopw [3, 8] (fun v i wr => ∃ k : Nat, k ≤ n ∧ i = .int .i64 k ∧ v = .int .i64 (listProd (l.take k)) ∧ Ext w wr) (fun _ i _ => n - (intOf i).toNat)
  case atStart => exact ⟨0, Nat.zero_le _, rfl, rfl, Ext.refl _⟩
  case round =>
    obtain ⟨k, hk, rfl, rfl, hx⟩ := hrel
    by_cases hlt : k < n
    · obtain ⟨b, off, x, rfl, hxk, hbl, e0⟩ := (Hl.out.ext hx).get k hlt
      have hlt' : decide ((k : Int) < (n : Int)) = true := by simp; omega
      obtain ⟨p1, p2⟩ := Hpb.out k
      have hlk : (l.take k).length ≤ 4 := by simp; omega
      have hp4 := pow50' hlk
      obtain ⟨x1, x2⟩ := Hb.out x (List.mem_of_getElem? hxk)
      have hsn : listProd (l.take (k + 1)) = listProd (l.take k) * x := by
        rw [List.take_add_one, hxk, listProd_append]; simp [listProd]
      obtain ⟨P, hP⟩ : ∃ P, listProd (l.take k) = P := ⟨_, rfl⟩
      rw [hP] at p1 p2 hsn
      rw [hP]
      obtain ⟨m1, m2⟩ := mul_bd (show 0 ≤ P by omega) (show P ≤ 6250000 by omega) (show 0 ≤ x by omega) x2
      simp only [Int.reduceMul] at m2
      obtain ⟨Q, hQ⟩ : ∃ Q, P * x = Q := ⟨_, rfl⟩
      rw [hQ] at hsn m1 m2
      have Hx := Lib.hid hx
      have Hsn := Lib.hid hsn
      have Hxk := Lib.hid hxk
      have HP := Lib.hid hP
      clear hsn hxk hP
      clear hx p2 hlk hp4
      go_wp2_with fail
      go_roundw
      case rel => exact ⟨k + 1, by omega, by go_num, by rw [Hsn.out], Hx.out⟩
      case measure => simp [intOf]; omega
    · obtain rfl : k = n := by omega
      have hlt' : decide ((k : Int) < (k : Int)) = false := by simp
      rw [Hall.out]
      go_wp2_with fail
      go_ret
      exact ⟨rfl, hx⟩
end Go.Proofs.Ytkbhmajcddmhnaa
