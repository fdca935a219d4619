/-
  Package files: Append, where it refuses.
-/
import Derived.Test.YthkncfdgfbnchaaGreatDoorD3
import Derived.Deep.QuietTactic
import Derived.BigQuiet
import Derived.IntWalk
set_option linter.unusedVariables false
set_option linter.unusedSimpArgs false
namespace Go.Proofs.YthkncfdgfbnchaaGreatDoor
open Go.RowKit

def NoR (pv : Value) (er : Int) (w : World) : Prop := Calls Tryz.prog 59 #[pv] w fun e w' => e = .returned (.int .i64 er) ∧ w = w'
set_option maxHeartbeats 1000000 in
theorem append_no (pv : Value) (s : ByteArray) (bs : Value) (er : Int) (her : (er == 0) = false) (w : World) (h : Hid (NoR pv er w)) : Calls Tryz.prog 35 #[pv, .string s, bs] w (Ret er w) := by
  go_enter Tryz.func35, Tryz.ntmps35
  go_wp2_with (go_at_call 59; refine h.out.mono ?_; rintro e w' ⟨rfl, rfl⟩)
  go_ret
  exact ⟨rfl, rfl⟩
def Kin (er : Int) (w : World) (e : Ending) (w' : World) : Prop := e = .returned (.int .i64 er) ∧ Kept (fun _ => False) w w'
theorem ready_ok (w : World) (F M : Nat) (lim arm : Int) (ps : List PF) (clock : Nat) (h : FilesAt w F M ps clock lim arm false) : NoR (.pointer (some ⟨F, 0, none⟩)) 0 w := ready_any w F M lim arm false h.fb
set_option maxHeartbeats 1000000 in
theorem append_bad (s : ByteArray) (bs : Value) (w : World) (F M : Nat) (lim arm : Int) (ps : List PF) (clock : Nat) (hs : s.size ≤ 140737488355328) (hf : fullB s = false) (h : FilesAt w F M ps clock lim arm false) :
    Calls Tryz.prog 35 #[.pointer (some ⟨F, 0, none⟩), .string s, bs] w (Kin 6 w) := by
  have H := Lib.hid (ready_ok w F M lim arm ps clock h)
  have HN := Lib.hid (full_any s w hs)
  rw [hf] at HN
  clear h hf hs
  go_enter Tryz.func35, Tryz.ntmps35
  go_wp2_with (first | (go_at_call 59; refine H.out.mono ?_; rintro e w' ⟨rfl, rfl⟩) | (go_at_call 26; refine HN.out.mono ?_; rintro e w' ⟨rfl, hk⟩))
  go_ret
  exact ⟨rfl, hk⟩
set_option maxHeartbeats 2000000 in
theorem append_full (s : ByteArray) (A : Option Addr) (n c : Nat) (w : World) (F M : Nat) (lim arm : Int) (ps : List PF) (clock : Nat) (hs : s.size ≤ 140737488355328) (hf : fullB s = true) (h : FilesAt w F M ps clock lim arm false)
    (hu : usedL ps ≤ 4194304) (hn0 : 0 < n) (hn : n ≤ 1000000000) (hlim : lim < (n : Int) + (usedL ps : Int)) :
    Calls Tryz.prog 35 #[.pointer (some ⟨F, 0, none⟩), .string s, .slice A n c] w (Kin 14 w) := by
  have HF := Lib.hid h
  have H := Lib.hid (ready_ok w F M lim arm ps clock h)
  have HN := Lib.hid (full_any s w hs)
  rw [hf] at HN
  have hl0 := h.lim0
  have HU : Hid (∀ W, Kept (fun _ => False) w W → Calls Tryz.prog 60 #[.pointer (some ⟨F, 0, none⟩)] W fun e w' => e = .returned (.int .i64 (usedL ps)) ∧ Kept (fun _ => False) W w') :=
    Lib.hid fun W hk => used_any W F M lim arm false ps clock (h.kept hk (by simp)) (by omega)
  have HC1 : Hid (∀ W, Kept (fun _ => False) w W → W.cell? ⟨F, 1, none⟩ = some (.int .i64 lim)) := Lib.hid fun W hk => FB.c1 (h.kept hk (by simp)).fb
  obtain ⟨u, hud⟩ : ∃ u, u = usedL ps := ⟨_, rfl⟩
  rw [← hud] at HU hu hlim
  have hn' : (0 : Int) < (n : Int) := by omega
  have hcmp : lim - (u : Int) < (n : Int) := by omega
  have hw1 : IntKind.i64.wrap (lim - (u : Int)) = lim - (u : Int) := IntWalk.i64_in _ (by omega)
  clear h hf hs hud
  go_enter Tryz.func35, Tryz.ntmps35
  go_wp2_with (first | (go_at_call 59; refine H.out.mono ?_; rintro e w' ⟨rfl, rfl⟩) | (go_at_call 26; refine HN.out.mono ?_; rintro e w' ⟨rfl, hk⟩; have HK := Lib.hid hk; have hc1 := HC1.out _ hk; clear hk))
  go_region_held3 (fun W => W.cell? ⟨F, 1, none⟩ = some (.int .i64 lim)) (first | assumption | simp [*]) (first | (go_at_call 60; refine (HU.out _ HK.out.drew).mono ?_; rintro e w2 ⟨rfl, hk2⟩; have HK2 := Lib.hid (HK.out.drew.trans' hk2); have hc2 := HC1.out _ HK2.out; clear hk2))
  go_wp2
  go_ret
  exact ⟨rfl, HK2.out⟩
end Go.Proofs.YthkncfdgfbnchaaGreatDoor
