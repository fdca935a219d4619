import Derived.Test.YtnonjgopdopnfaaE
import Derived.Deep.QuietTactic
import Derived.BigQuiet
set_option linter.unusedVariables false
set_option linter.unusedSimpArgs false
namespace Go.Proofs.Ytnonjgopdopnfaa
open Go.RowKit Go.Shelf

set_option maxHeartbeats 400000 in
theorem eqb_any (w : World) (x y : UInt8) : Calls Try.prog 17 #[bv x, bv y] w fun e w' => e = .returned (.bool (x == y)) ∧ w' = w := by
  have h : (((x.toNat : Nat) : Int) == ((y.toNat : Nat) : Int)) = (x == y) := by
    rw [Bool.eq_iff_iff, beq_iff_eq, beq_iff_eq]
    exact ⟨fun h => UInt8.toNat_inj.1 (by omega), fun h => by rw [h]⟩
  have H := Lib.hid h
  clear h
  unfold bv
  go_enter Try.func17, Try.ntmps17
  go_wp2
  go_ret
  exact ⟨ret_bool H.out, rfl⟩

set_option maxHeartbeats 400000 in
theorem eqb_true (z : Int) (w : World) : Calls Try.prog 17 #[.int .u8 z, .int .u8 z] w fun e w' => e = .returned (.bool true) ∧ w' = w := by
  go_enter Try.func17, Try.ntmps17
  go_wp2
  go_ret
  exact ⟨ret_bool (by simp), rfl⟩

set_option maxHeartbeats 400000 in
theorem same_some (w : World) (b o c b' o' c' n : Nat) (xs : List UInt8) (hn : n ≤ 20000) (hnn : Hid (n = xs.length)) (hc : Hid (∀ j (h : j < xs.length), w.cell? ⟨b, o + j, none⟩ = some (bv xs[j]))) (hc' : Hid (∀ j (h : j < xs.length), w.cell? ⟨b', o' + j, none⟩ = some (bv xs[j]))) :
    Calls Try.prog 16 #[.slice (some ⟨b, o, none⟩) n c, .slice (some ⟨b', o', none⟩) n c', .func (.func 17) #[] #[]] w fun e w' => e = .returned (.bool true) ∧ ∃ m, w' = w.drewN m := by
  go_enter Try.func16, Try.ntmps16
  go_wp2_with fail
  go_loopw [7] (fun i wr => ∃ k : Nat, k ≤ n ∧ i = .int .i64 k ∧ Hid (∃ m, wr = w.drewN m)) (fun i _ => n - (intOf i).toNat)
  case atStart => exact ⟨0, by omega, rfl, Lib.hid ⟨0, rfl⟩⟩
  case round =>
    obtain ⟨k, hk, rfl, hw⟩ := hrel
    obtain ⟨m, rfl⟩ := hw.out
    clear hw
    by_cases hlt : k < n
    · have hl : k < xs.length := by have := hnn.out; omega
      have h1 : (w.drewN m).cell? ⟨b, o + k, none⟩ = _ := (hc.out k hl)
      have h2 : (w.drewN m).cell? ⟨b', o' + k, none⟩ = _ := (hc'.out k hl)
      have hz := eqb_any (w.drewN m) xs[k] xs[k]
      rw [show (xs[k] == xs[k]) = true from by simp] at hz
      have hk9 : (k : Int) < (n : Int) := by omega
      generalize hxv : bv xs[k] = xv at *
      have h1c : ∃ z : Int, xv = .int .u8 z := ⟨_, hxv.symm⟩
      clear hxv
      obtain ⟨z, rfl⟩ := h1c
      have Hz := Lib.hid hz
      clear hz
      generalize hW : w.drewN m = W at *
      have HW := Lib.hid hW
      clear hW
      go_wp2_with fail
      go_quiet ((exact Calls.quiet_of_same (eqb_true _ _)))
      go_wp2
      go_roundw
      case rel => exact ⟨k + 1, by omega, by go_num, Lib.hid ⟨m + nq, by rw [← HW.out, World.drewN_drewN]⟩⟩
      case measure => simp [intOf]; omega
    · obtain rfl : k = n := by omega
      go_wp2
      go_ret
      exact ⟨rfl, m, rfl⟩

set_option maxHeartbeats 400000 in
theorem same_none (w : World) (A A' : Option Addr) (c c' : Nat) :
    Calls Try.prog 16 #[.slice A 0 c, .slice A' 0 c', .func (.func 17) #[] #[]] w fun e w' => e = .returned (.bool true) ∧ ∃ m, w' = w.drewN m := by
  go_enter Try.func16, Try.ntmps16
  go_wp2_with fail
  go_loop [7] (fun i => i = .int .i64 0) (fun _ => 0)
  case atStart => rfl
  case round =>
    obtain rfl := hrel
    go_wp2
    go_ret
    exact ⟨rfl, 0, rfl⟩

theorem same_any (w : World) (A A' : Option Addr) (c c' : Nat) (xs : List UInt8) (hn : xs.length ≤ 20000) (h : Bs w A xs) (h' : Bs w A' xs) :
    Calls Try.prog 16 #[.slice A xs.length c, .slice A' xs.length c', .func (.func 17) #[] #[]] w fun e w' => e = .returned (.bool true) ∧ ∃ m, w' = w.drewN m := by
  rcases h with rfl | ⟨b, o, rfl, hc⟩
  · exact same_none w A A' c c'
  · rcases h' with rfl | ⟨b', o', rfl, hc'⟩
    · exact same_none w _ A' c c'
    · exact same_some w b o c b' o' c' xs.length xs hn (Lib.hid rfl) (Lib.hid hc) (Lib.hid hc')

set_option maxHeartbeats 400000 in
theorem plain_any (w : World) (A A' : Option Addr) (c c' : Nat) (xs : List UInt8) (hn : xs.length ≤ 20000) (h : Bs w A xs) (h' : Bs w A' xs) :
    Calls Try.prog 14 #[.slice A xs.length c, .slice A' xs.length c'] w fun e w' => e = .returned (.bool true) ∧ ∃ m, w' = w.drewN m := by
  have H := Lib.hid h
  have H' := Lib.hid h'
  clear h h'
  go_enter Try.func14, Try.ntmps14
  go_wp2_with (go_at_call 16; refine (same_any w A A' c c' xs hn H.out H'.out).mono ?_; rintro e w' ⟨rfl, m, rfl⟩)
  go_ret
  exact ⟨rfl, m, rfl⟩

set_option maxHeartbeats 400000 in
theorem kept_any (w : World) (B : Nat) (A : Option Addr) (c n : Nat) (xs : List UInt8) (fill : UInt8) (hn : n ≤ 20000) (hnn : n = xs.length) (hR : Row w B (n + 3) (xs.map bv ++ List.replicate 3 (bv fill))) (h : Bs w A xs) :
    Calls Try.prog 11 #[.slice (some ⟨B, 0, none⟩) n (n + 3), .slice A n c, bv fill] w fun e w' => e = .returned (.bool true) ∧ ∃ m, w' = w.drewN m := by
  have HR := Lib.hid hR
  have HN := Lib.hid hnn
  have hRB : Bs w (some ⟨B, 0, none⟩) xs := .inr ⟨B, 0, rfl, fun j hj => by
    have := hR.at j (bv xs[j]) (by rw [List.getElem?_append_left (by simpa using hj)]; simp [hj])
    simpa using this⟩
  have HP := Lib.hid (plain_any w (some ⟨B, 0, none⟩) A (n + 3) c xs (by omega) hRB h)
  rw [← hnn] at HP
  obtain ⟨fv, hfv⟩ : ∃ fv : Int, bv fill = .int .u8 fv := ⟨_, rfl⟩
  rw [hfv] at HR ⊢
  clear hfv hRB h hR hnn
  go_enter Try.func11, Try.ntmps11
  go_wp2_with (go_at_call 14; refine HP.out.mono ?_; rintro e w' ⟨rfl, m, rfl⟩)
  go_loop [8] (fun i => ∃ k : Nat, k ≤ 3 ∧ i = .int .i64 (n + k)) (fun i => n + 3 - (intOf i).toNat)
  case atStart => exact ⟨0, by omega, by simp⟩
  case round =>
    obtain ⟨k, hk, rfl⟩ := hrel
    by_cases hlt : k < 3
    · have hc := HR.out.at (n + k) (.int .u8 fv) (by rw [List.getElem?_append_right (by simp [HN.out]), List.getElem?_replicate, if_pos (by simp [HN.out]; omega)])
      go_wp2
      go_round
      case rel => exact ⟨k + 1, by omega, by go_num⟩
      case measure => simp [intOf]; omega
    · obtain rfl : k = 3 := by omega
      go_wp2
      go_ret
      exact ⟨rfl, m, rfl⟩

set_option maxHeartbeats 400000 in
theorem awake_any (w : World) : Calls Try.prog 5 #[] w fun e w' => e = .returned (.bool true) ∧ Below w.heap.size w w' := by
  have HP := Lib.hid (print_any w none 0 [] (by simp) (.inl rfl))
  have HE : Hid ((((prn E0 [] : Nat) : Int)) = 13933329357911598997) := by rfl
  rw [show ((prn E0 [] : Nat) : Int) = 13933329357911598997 from rfl] at HP
  go_enter Try.func5, Try.ntmps5
  go_wp2_with (go_at_call 7; refine HP.out.mono ?_; rintro e w' ⟨rfl, hB⟩)
  go_ret
  exact ⟨rfl, hB⟩
end Go.Proofs.Ytnonjgopdopnfaa
