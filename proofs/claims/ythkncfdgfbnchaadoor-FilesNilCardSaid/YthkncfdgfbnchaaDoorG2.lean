/-
  courantlaw16.FilesNil, walked.
-/
import Derived.Test.YthkncfdgfbnchaaDoorE1
import Derived.Test.YthkncfdgfbnchaaDoorG1
import Derived.ProofKit
import Derived.Below
set_option linter.unusedVariables false
set_option linter.unusedSimpArgs false
namespace Go.Proofs.YthkncfdgfbnchaaDoor
open Go.RowKit

set_option maxRecDepth 100000 in
set_option maxHeartbeats 4000000 in
theorem filesNil_any (s : ByteArray) (n : Int) (ab : Option Addr) (lb cb : Nat) (ak : Option Addr) (lk ck : Nat) (w : World) :
    Calls Tryd.prog 7 #[.string s, .int .i64 n, .slice ab lb cb, .slice ak lk ck] w fun e w' => e = .returned (.bool true) ∧ Kept (fun _ => False) w w' := by
  have H0 : Hid (∀ W, No (.pointer none) s 2 W) := Lib.hid fun W => there_nil s W
  have H1 : Hid (∀ W, NoR (.pointer none) 2 W) := Lib.hid fun W => ready_nil W
  go_enter Tryd.func7, Tryd.ntmps7
  go_wp2_with (first
    | (go_at_call 32; refine (limit_nil _ _).mono ?_; rintro e w' ⟨rfl, rfl⟩)
    | (go_at_call 16; refine (arm_nil _ _).mono ?_; rintro e w' ⟨rfl, rfl⟩)
    | (go_at_call 17; refine (crash_nil _ _ _ _).mono ?_; rintro e w1 ⟨rfl, hk⟩; have HK1 := Lib.hid hk; clear hk)
    | (go_at_call 18; refine (start_nil _).mono ?_; rintro e w' ⟨rfl, rfl⟩)
    | (go_at_call 19; refine (read_nil _ _).mono ?_; rintro e w2 ⟨v, rfl, hv, hk⟩; obtain ⟨A2, c2, rfl, _⟩ := Bs.of_own hv; have HK2 := Lib.hid (HK1.out.trans' hk); clear hk hv)
    | (go_at_call 28; refine (list_nil _).mono ?_; rintro e w3 ⟨rfl, rfl⟩; have HB3 := Lib.hid (Boxed.new w2 53 (.slice none 0 0)); have HK3 := Lib.hid (HK2.out.alloc (.cells #[.slice none 0 0] 53)))
    | (go_at_call 27; refine (seq_none _ _ HB3.out _).mono ?_; rintro e w4 ⟨rfl, hk⟩; have HK4 := Lib.hid (HK3.out.trans' hk); clear hk)
    | (go_at_call 11; refine (awake_any _).mono ?_; rintro e w5 ⟨rfl, hk⟩; have HK5 := Lib.hid (HK4.out.trans' hk); clear hk)
    | (go_at_call 12; refine (append_no _ _ _ 2 (by decide) _ (Lib.hid (H1.out _))).mono ?_; rintro e w' ⟨rfl, rfl⟩)
    | (go_at_call 15; refine (sync_no _ _ 2 (by decide) _ (Lib.hid (H0.out _))).mono ?_; rintro e w' ⟨rfl, rfl⟩)
    | (go_at_call 13; refine (trunc_no _ _ _ 2 (by decide) _ (Lib.hid (H0.out _))).mono ?_; rintro e w' ⟨rfl, rfl⟩)
    | (go_at_call 22; refine (rename_no _ _ _ 2 (by decide) _ (Lib.hid (H0.out _))).mono ?_; rintro e w' ⟨rfl, rfl⟩)
    | (go_at_call 33; refine (remove_no _ _ 2 (by decide) _ (Lib.hid (H0.out _))).mono ?_; rintro e w' ⟨rfl, rfl⟩)
    | (go_at_call 14; refine (used_nil _).mono ?_; rintro e w' ⟨rfl, rfl⟩)
    | (go_at_call 25; refine (down_nil _).mono ?_; rintro e w' ⟨rfl, rfl⟩)
    | (go_at_call 34; refine (fork_nil _).mono ?_; rintro e w' ⟨rfl, rfl⟩))
  go_show
  go_ret
  exact ⟨rfl, HK5.out⟩
end Go.Proofs.YthkncfdgfbnchaaDoor
