/-
  courantlaw16.FilesRoom: no lengths; every input.
-/
import Derived.Test.YthkncfdgfbnchaaDoorF1
set_option linter.unusedVariables false
set_option linter.unusedSimpArgs false
namespace Go.Proofs.YthkncfdgfbnchaaDoor
open Go.RowKit
set_option maxRecDepth 100000 in
set_option maxHeartbeats 2000000 in
theorem room_none (lim : Int) (w : World) :
    Calls Tryd.prog 3 #[.int .i64 lim, .slice none 0 0] w fun e w' => e = .returned (.bool true) ∧ Kept (fun _ => False) w w' := by
  go_enter Tryd.func3, Tryd.ntmps3
  go_upto_region 2 with fail
  have HL := Lib.hid (modN_r 5000 lim (by decide) (by decide))
  obtain ⟨L, hL⟩ : ∃ L, L = wrap64 ((IntKind.u64.wrap lim).tmod 5000) := ⟨_, rfl⟩
  rw [← hL] at HL ⊢
  have HN := Lib.hid (new_room w L)
  clear hL
  go_wp2_with (first
    | (go_at_call 10; refine HN.out.mono ?_; rintro e w1 ⟨F, M, rfl, hr⟩; have HR := Lib.hid hr; clear hr)
    | (go_at_call 11; refine (awake_any _).mono ?_; rintro e w2 ⟨rfl, hk⟩; have HR2 := Lib.hid (HR.out.stay hk); clear hk))
  go_loopw [6, 7, 8, 9] (fun _ i _ _ wr => i = .int .i64 0 ∧ Hid (Kept (fun _ => False) w wr)) (fun _ i _ _ _ => 40 - iN i)
  case atStart => exact ⟨rfl, Lib.hid HR2.out.kept⟩
  case round =>
    obtain ⟨rfl, hk⟩ := hrel
    go_wp2
    go_ret
    exact ⟨rfl, hk.out⟩
theorem room_any (lim : Int) (a : Option Addr) (len cap : Nat) (zs : List Int) (w : World) (h : IsRow .i64 w a len cap zs) :
    Calls Tryd.prog 3 #[.int .i64 lim, .slice a len cap] w fun e w' => e = .returned (.bool true) ∧ Below w.heap.size w w' := by
  rcases h with ⟨rfl, rfl, rfl, rfl⟩ | ⟨x, rfl, hl, hm, hz, hc, _⟩
  · exact (room_none lim w).mono fun e w' ⟨he, hk⟩ => ⟨he, hk.below (Nat.le_refl _) fun _ h => h.elim⟩
  · exact (room_some lim x len cap zs w hl hm hz (Lib.hid hc)).mono fun e w' ⟨he, hk⟩ => ⟨he, hk.below (Nat.le_refl _) fun _ h => h.elim⟩
end Go.Proofs.YthkncfdgfbnchaaDoor
