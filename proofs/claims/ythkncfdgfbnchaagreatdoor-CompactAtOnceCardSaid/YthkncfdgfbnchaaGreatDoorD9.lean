/-
  Package files: Append of nil to a new file.
-/
import Derived.Test.YthkncfdgfbnchaaGreatDoorD6
import Derived.Test.YthkncfdgfbnchaaGreatDoorD7
import Derived.Laws.AppendOwnNone
import Derived.Deep.Cut
import Derived.Deep.QuietTactic
import Derived.BigQuiet
set_option linter.unusedVariables false
set_option linter.unusedSimpArgs false
namespace Go.Proofs.YthkncfdgfbnchaaGreatDoor
open Go.RowKit


theorem append_end_new_none {W : World} {F M B : Nat} {ps : List PF} {s : ByteArray} {clock clk : Nat} {lim arm : Int} {dn : Bool} (h : FilesAt W F M (ps ++ [⟨s, [], 0, B, .slice none 0 0, clk⟩]) clock lim arm dn) :
    Went W F M (ps ++ [⟨s, [], 0, B, .slice none 0 0, clk⟩]) (ps ++ [⟨s, [], 0, B, .slice none 0 0, clk⟩]) clock lim arm dn (W.setCell ⟨B, 0, none⟩ (.slice none 0 0)) :=
  append_end_none (l1 := ps) (l2 := []) (p := ⟨s, [], 0, B, .slice none 0 0, clk⟩) (c0 := 0) (A0 := none) h rfl
set_option maxRecDepth 100000 in
set_option maxHeartbeats 4000000 in
theorem append_new_none (s : ByteArray) (w : World) (F M : Nat) (lim arm : Int) (ps : List PF) (clock : Nat) (hno : ∀ q ∈ ps, q.name ≠ s) (hs : s.size ≤ 140737488355328) (hf : fullB s = true) (h : FilesAt w F M (ps) clock lim arm false)
    (hu : usedL (ps) ≤ 4194304) :
    Calls Tryz.prog 35 #[.pointer (some ⟨F, 0, none⟩), .string s, .slice none 0 0] w fun e w' => ∃ B v, Gone (hitE arm) w F M (ps) (ps ++ [⟨s, [], 0, B, v, clock⟩]) (clock + 1) lim (decA arm) (decide (arm = 1)) e w' := by
  have HF := Lib.hid h
  have H := Lib.hid (ready_ok w F M lim arm _ clock h)
  have HN := Lib.hid (full_any s w hs)
  rw [hf] at HN
  have hl0 := h.lim0
  have HU : Hid (∀ W, Kept (fun _ => False) w W → Calls Tryz.prog 60 #[.pointer (some ⟨F, 0, none⟩)] W fun e w' => e = .returned (.int .i64 (usedL (ps))) ∧ Kept (fun _ => False) W w') :=
    Lib.hid fun W hk => used_any W F M lim arm false _ clock (h.kept hk (by simp)) (by omega)
  obtain ⟨b, hb⟩ : ∃ b, b = decide (arm = 1) := ⟨_, rfl⟩
  have HH : Hid (∀ W ps' clk, FilesAt W F M ps' clk lim arm false → Calls Tryz.prog 51 #[.pointer (some ⟨F, 0, none⟩)] W fun e w' => e = .returned (.bool b) ∧ FB w' F M lim (decA arm) b ∧ Kept (fun k => k = F) W w') := Lib.hid fun W ps' clk h' => by
    rw [hb]; exact hit_any W F M lim arm h'.fb h'.arm0
  have HE0 : Hid (hitE arm = if b then 13 else 0) := Lib.hid (by rw [hb]; simp [hitE])
  have HC1 : Hid (∀ W, Kept (fun _ => False) w W → W.cell? ⟨F, 1, none⟩ = some (.int .i64 lim)) := Lib.hid fun W hk => FB.c1 (h.kept hk (by simp)).fb
  obtain ⟨i0, hi, hz0, hz1, hz2⟩ := info_parts infoU8
  obtain ⟨u, hud⟩ : ∃ u, u = usedL (ps) := ⟨_, rfl⟩
  rw [← hud] at HU hu
  have hw1 : IntKind.i64.wrap (lim - (u : Int)) = lim - (u : Int) := IntWalk.i64_in _ (by omega)
  have HL : Hid (∀ W, Kept (fun _ => False) w W → (Instr.lookup 58 (.map (some M)) (.string s) true).run Tryz.prog W = .ok (.tuple #[.pointer none, .bool false]) W) := Lib.hid fun W hk => look_none (h.kept hk (by simp)).map s hno
  rw [← hb]
  have HNo := Lib.hid hno
  clear h hf hs hud hb hno
  cases b
  all_goals go_enter Tryz.func35, Tryz.ntmps35
  all_goals go_wp2_with (first | (go_at_call 59; refine H.out.mono ?_; rintro e w' ⟨rfl, rfl⟩) | (go_at_call 26; refine HN.out.mono ?_; rintro e w' ⟨rfl, hk⟩; have HK := Lib.hid hk; have hc1 := HC1.out _ hk; clear hk))
  all_goals
    go_quiet (fail)
    have HKW := Lib.hid (HK.out.drewN nq)
    generalize w'.drewN nq = W at HKW ⊢
    obtain ⟨V, hV⟩ : ∃ V, V = Value.slice none 0 0 := ⟨_, rfl⟩
    rw [← hV]
    have HVx := Lib.hid hV
    clear hV
  all_goals
    have HFW := Lib.hid (HF.out.kept HKW.out (by simp))
    have hl := HL.out _ HKW.out
    have h0 := FB.c0 HFW.out.fb
    obtain ⟨B, hB⟩ : ∃ B, B = W.heap.size := ⟨_, rfl⟩
    obtain ⟨W1, hW1⟩ : ∃ W1, W1 = W.alloc (.cells #[.slice none 0 0, .int .i64 0] 78) := ⟨_, rfl⟩
    obtain ⟨W2, hW2⟩ : ∃ W2, W2 = W1.putObj M (.map ((entriesOf ps).push { key := .string s, val := .pointer (some ⟨B, 0, none⟩), born := clock }) (clock + 1)) := ⟨_, rfl⟩
    obtain ⟨hup, hIns, hk2⟩ := insert_step HFW.out HNo.out hB hW1 hW2
    have h01 := FB.c0 (HFW.out.kept (show Kept (fun _ => False) W W1 by rw [hW1]; exact (Kept.refl _ W).alloc _) (by simp)).fb
    have hbu : (Instr.build 78 #[]).run Tryz.prog W = .ok (.agg #[.slice none 0 0, .int .i64 0]) W := by kernel_rfl
    have hIn := Lib.hid hIns
    subst hB
    have hpc : W2.cell? ⟨W.heap.size, 0, none⟩ = some (.slice none 0 0) := (hIns.at_.at_ ⟨s, [], 0, W.heap.size, .slice none 0 0, clock⟩ (by simp)).c0
    have HOn := Lib.hid (World.ownsRow_nil W2 0 5 1)
    have gf := (hIns.at_.at_ ⟨s, [], 0, W.heap.size, .slice none 0 0, clock⟩ (by simp)).fz 0
    simp only at gf
    rw [hW1] at hup h01
    clear hIns hk2 hW1 hW2
  all_goals go_upto_region 12 with fail
  all_goals go_wp2_with (first | (at_builtin; refine wpList_append_own_none rfl _ _ 54 rfl 0 5 i0 1 Tryz.underlying54 hi _ 0 [] rfl HOn.out HVx.out ?_; have HE := Lib.hid (append_end_new_none hIn.out.at_)) | (go_at_call 51; refine (HH.out _ _ _ HE.out.at_).mono ?_; rintro e w5 ⟨rfl, hfb, hk⟩; have HE5 := Lib.hid ((hIn.out.trans (HE.out.trans (HE.out.at_.hitW hfb hk))).pre HKW.out); clear hfb hk))
  all_goals (go_ret; exact ⟨_, _, ret_int (by rw [HE0.out]; rfl), HE5.out⟩)
end Go.Proofs.YthkncfdgfbnchaaGreatDoor
