import Derived.Test.YtnonjgopdopnfaaB
import Derived.RangeFuncNested
import Derived.RangeFuncBound
import Derived.RangeFuncCalls
import Derived.RangeFuncLeaves
import Derived.RangeFuncBox
import Derived.Shelf.Abstract
import Derived.Shelf.RegionOpen
import Derived.OwnWalkIn
import Derived.TacticsInMore
import Derived.LoopNIn
import Derived.LoopIn
set_option linter.unusedVariables false
set_option linter.unusedSimpArgs false
namespace Go.Proofs.Ytnonjgopdopnfaa
open Go.RowKit Go.Shelf

theorem xor_u64 (a b : Nat) (ha : a < 18446744073709551616) (hb : b < 18446744073709551616) : bits .xor .u64 (a : Int) (b : Int) = ((a ^^^ b : Nat) : Int) := bits_xor_u64_nat a b ha hb

set_option maxRecDepth 100000 in
set_option maxHeartbeats 400000 in
theorem rprint_some (w : World) (b o cap n : Nat) (xs : List UInt8) (hn : n ≤ 20000) (hnn : Hid (n = xs.length)) (hc : Hid (∀ j (h : j < xs.length), w.cell? ⟨b, o + j, none⟩ = some (bv xs[j]))) :
    Calls Try.prog 8 #[.slice (some ⟨b, o, none⟩) n cap] w fun e w' => e = .returned (.int .u64 (prn E0 xs : Nat)) ∧ w' = w := by
  go_enter Try.func8, Try.ntmps8
  go_wp2_with fail
  go_loop [3, 4, 5, 6] (fun v i _ _ => ∃ k x : Nat, k ≤ n ∧ i = .int .i64 k ∧ v = .int .u64 x ∧ Hid (x = prn E0 (xs.take k))) (fun _ i _ _ => n - (intOf i).toNat)
  case atStart => exact ⟨0, E0, by omega, rfl, rfl, Lib.hid rfl⟩
  case round =>
    obtain ⟨k, x, hk, rfl, rfl, hx⟩ := hrel
    by_cases hlt : k < n
    · have hl : k < xs.length := by have := hnn.out; omega
      have hck := hc.out k hl
      unfold bv at hck
      have hxl : x < 18446744073709551616 := by rw [hx.out]; exact prn_lt _ _ E0_lt
      have hcl : xs[k].toNat < 256 := xs[k].toNat_lt
      have hcv := Lib.hid (show bits .xor .u64 (x : Int) (xs[k].toNat : Int) = ((x ^^^ xs[k].toNat : Nat) : Int) from xor_u64 _ _ hxl (by omega))
      obtain ⟨y, hy⟩ : ∃ y : Nat, y = x ^^^ xs[k].toNat := ⟨_, rfl⟩
      have hyl : y < 18446744073709551616 := by rw [hy]; exact xor_lt hxl (by omega)
      rw [← hy] at hcv
      have Hy := Lib.hid hy
      have Hyl := Lib.hid hyl
      clear hxl hy hyl
      go_wp2
      go_loop [3, 5, 6] (fun v i _ => ∃ j z : Nat, j ≤ 8 ∧ i = .int .i64 j ∧ v = .int .u64 z ∧ Hid (z = stp j y)) (fun _ i _ => 8 - (intOf i).toNat)
      case atStart => exact ⟨0, y, by omega, rfl, by rw [hcv.out], Lib.hid rfl⟩
      case round =>
        obtain ⟨j, z, hj, rfl, rfl, hz⟩ := hrel
        have hzl : z < 18446744073709551616 := by rw [hz.out]; exact stp_lt j Hyl.out
        by_cases hj8 : j < 8
        · have ha := and_one z hzl
          by_cases hodd : z % 2 = 1
          · have ht : (bits .and .u64 (z : Int) 1 == 1) = true := by rw [ha, hodd]; rfl
            have HX := Lib.hid (show bits .xor .u64 ((z : Int) / 2) 13933329357911598997 = ((stp (j + 1) y : Nat) : Int) by
              rw [stp, ← hz.out, stepB, if_pos hodd]; exact bits_xor_u64_nat (z / 2) E0 (by omega) E0_lt)
            clear ha hodd
            have Hzl := Lib.hid hzl
            clear hzl
            go_wp2
            go_round
            case rel => exact ⟨j + 1, stp (j + 1) y, by omega, by go_num, by rw [HX.out], Lib.hid rfl⟩
            case measure => simp [intOf]; omega
          · have ht : (bits .and .u64 (z : Int) 1 == 1) = false := by rw [ha, show z % 2 = 0 by omega]; rfl
            have HX := Lib.hid (show (z : Int) / 2 = ((stp (j + 1) y : Nat) : Int) by
              rw [stp, ← hz.out, stepB, if_neg hodd]; omega)
            clear ha hodd
            have Hzl := Lib.hid hzl
            clear hzl
            go_wp2
            go_round
            case rel => exact ⟨j + 1, stp (j + 1) y, by omega, by go_num, by rw [HX.out], Lib.hid rfl⟩
            case measure => simp [intOf]; omega
        · obtain rfl : j = 8 := by omega
          have Hzl := Lib.hid hzl
          clear hzl
          go_wp2
          go_round
          case rel => exact ⟨k + 1, z, by omega, by go_num, rfl, Lib.hid (by rw [hz.out, Hy.out, List.take_succ_eq_append_getElem hl, prn_snoc, ← hx.out])⟩
          case measure => simp [intOf]; omega
    · obtain rfl : k = n := by omega
      go_wp2
      go_ret
      exact ⟨ret_int (by rw [hx.out, List.take_of_length_le (by have := hnn.out; omega)]), rfl⟩

set_option maxHeartbeats 400000 in
theorem rprint_none (w : World) (A : Option Addr) (cap : Nat) :
    Calls Try.prog 8 #[.slice A 0 cap] w fun e w' => e = .returned (.int .u64 (E0 : Nat)) ∧ w' = w := by
  have H0 : Hid ((E0 : Nat) = (13933329357911598997 : Int)) := by rfl
  go_enter Try.func8, Try.ntmps8
  go_wp2_with fail
  go_loop [3, 4, 5, 6] (fun v i _ _ => i = .int .i64 0 ∧ v = .int .u64 13933329357911598997) (fun _ i _ _ => 0)
  case atStart => exact ⟨rfl, rfl⟩
  case round =>
    obtain ⟨rfl, rfl⟩ := hrel
    go_wp2
    go_ret
    exact ⟨ret_int H0.out.symm, rfl⟩

theorem rprint_any (w : World) (A : Option Addr) (cap : Nat) (xs : List UInt8) (hn : xs.length ≤ 20000) (hb : Bs w A xs) :
    Calls Try.prog 8 #[.slice A xs.length cap] w fun e w' => e = .returned (.int .u64 (prn E0 xs : Nat)) ∧ w' = w := by
  rcases hb with rfl | ⟨b, o, rfl, hc⟩
  · exact rprint_none w A cap
  · exact rprint_some w b o cap xs.length xs hn (Lib.hid rfl) (Lib.hid hc)
end Go.Proofs.Ytnonjgopdopnfaa
