/-
  Package files: Start.
-/
import Derived.Test.YthkncfdgfbnchaaGreatDoorK
set_option linter.unusedVariables false
set_option linter.unusedSimpArgs false
namespace Go.Proofs.YthkncfdgfbnchaaGreatDoor
open Go.RowKit

set_option maxHeartbeats 1000000 in
theorem start_down (w : World) (F M : Nat) (ps : List PF) (clock : Nat) (lim arm : Int) (h : FilesAt w F M ps clock lim arm true) (hn : ps.length ≤ 1000000) (hm : ∀ p ∈ ps, p.name.size ≤ 1000000) :
    Calls Tryz.prog 13 #[.pointer (some ⟨F, 0, none⟩)] w fun e w' => e = .returned (.tuple #[]) ∧ ∃ qs, Went w F M ps qs clock lim 0 false w' ∧ All2 Fell ps qs := by
  have HC := Lib.hid (crash_any w F M ps clock lim arm true none 0 0 h hn hm (Lib.hid fun j hj => absurd hj (Nat.not_lt_zero _)))
  have h3 := FB.c3 h.fb
  clear h hn hm
  go_enter Tryz.func13, Tryz.ntmps13
  go_wp2_with (first | (go_at_call 12; refine HC.out.mono ?_; rintro e w1 ⟨rfl, qs, hw, ha⟩; have HW := Lib.hid hw; have HA := Lib.hid ha; have f2 := FB.fz hw.at_.fb 2; have f3 := FB.fz hw.at_.fb 3; have c2 := FB.c2 hw.at_.fb; have c3 := FB.c3 hw.at_.fb; clear hw ha))
  go_end0
  refine ⟨rfl, qs, HW.out.trans ⟨HW.out.at_.own (lim' := lim) (arm' := 0) (dn' := false) ((kF w1 F 3 _).trans' (kF _ F 2 _)) (FB.s2 (FB.s3 (show FB w1 F M lim arm true from HW.out.at_.fb) false) 0) HW.out.at_.lim0 (by omega), ((kF w1 F 3 _).trans' (kF _ F 2 _)).ofF, fun k hk => .inl hk⟩, HA.out⟩
end Go.Proofs.YthkncfdgfbnchaaGreatDoor
