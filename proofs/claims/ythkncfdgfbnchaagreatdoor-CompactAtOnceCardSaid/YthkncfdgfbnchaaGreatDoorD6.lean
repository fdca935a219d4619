/-
  Package files: Append: no bytes, new files.
-/
import Derived.Test.YthkncfdgfbnchaaGreatDoorD5
import Derived.Laws.AppendOwnNone
import Derived.Deep.QuietTactic
import Derived.BigQuiet
set_option linter.unusedVariables false
set_option linter.unusedSimpArgs false
namespace Go.Proofs.YthkncfdgfbnchaaGreatDoor
open Go.RowKit

theorem append_end_none {W : World} {F M : Nat} {l1 l2 : List PF} {p : PF} {clock c0 : Nat} {A0 : Option Addr} {lim arm : Int} {dn : Bool}
    (h : FilesAt W F M (l1 ++ p :: l2) clock lim arm dn) (hv : p.val = .slice A0 p.b.length c0) :
    Went W F M (l1 ++ p :: l2) (l1 ++ { p with b := p.b ++ [], val := .slice A0 p.b.length c0 } :: l2) clock lim arm dn (W.setCell ⟨p.blk, 0, none⟩ (.slice A0 p.b.length c0)) := by
  have hp := h.at_ p (by simp)
  have := append_end h (w3 := W) (v' := p.val) (xs := []) ⟨rfl, rfl, rfl, Nat.le_refl _, fun _ _ _ => rfl⟩ (by simpa using hp.own) (.inl rfl) (by simpa using hp.len)
  rw [hv] at this
  exact this
set_option maxRecDepth 100000 in
set_option maxHeartbeats 4000000 in
theorem append_old_none (w : World) (F M : Nat) (lim arm : Int) (l1 l2 : List PF) (p : PF) (clock : Nat) (hs : p.name.size ≤ 140737488355328) (hf : fullB p.name = true) (h : FilesAt w F M (l1 ++ p :: l2) clock lim arm false)
    (hu : usedL (l1 ++ p :: l2) ≤ 4194304) :
    Calls Tryz.prog 35 #[.pointer (some ⟨F, 0, none⟩), .string p.name, .slice none 0 0] w fun e w' => ∃ v, Gone (hitE arm) w F M (l1 ++ p :: l2) (l1 ++ { p with b := p.b ++ [], val := v } :: l2) clock lim (decA arm) (decide (arm = 1)) e w' := by
  have HF := Lib.hid h
  have H := Lib.hid (ready_ok w F M lim arm _ clock h)
  have HN := Lib.hid (full_any p.name w hs)
  rw [hf] at HN
  have hl0 := h.lim0
  have HU : Hid (∀ W, Kept (fun _ => False) w W → Calls Tryz.prog 60 #[.pointer (some ⟨F, 0, none⟩)] W fun e w' => e = .returned (.int .i64 (usedL (l1 ++ p :: l2))) ∧ Kept (fun _ => False) W w') :=
    Lib.hid fun W hk => used_any W F M lim arm false _ clock (h.kept hk (by simp)) (by omega)
  obtain ⟨b, hb⟩ : ∃ b, b = decide (arm = 1) := ⟨_, rfl⟩
  have HH : Hid (∀ W ps', FilesAt W F M ps' clock lim arm false → Calls Tryz.prog 51 #[.pointer (some ⟨F, 0, none⟩)] W fun e w' => e = .returned (.bool b) ∧ FB w' F M lim (decA arm) b ∧ Kept (fun k => k = F) W w') := Lib.hid fun W ps' h' => by
    rw [hb]; exact hit_any W F M lim arm h'.fb h'.arm0
  have HE0 : Hid (hitE arm = if b then 13 else 0) := Lib.hid (by rw [hb]; simp [hitE])
  have HC1 : Hid (∀ W, Kept (fun _ => False) w W → W.cell? ⟨F, 1, none⟩ = some (.int .i64 lim)) := Lib.hid fun W hk => FB.c1 (h.kept hk (by simp)).fb
  have hpl : p.b.length ≤ usedL (l1 ++ p :: l2) := by rw [used_mid]; omega
  have hp0 := h.at_ p (by simp)
  obtain ⟨A0, c0, hv, _, _, _, _⟩ := Bs.of_own hp0.own
  have HV := Lib.hid hv
  have Hlen : Hid (p.b.length + ([] : List UInt8).length ≤ 4194304) := Lib.hid (by have := hp0.len; simpa using this)
  obtain ⟨i0, hi, hz0, hz1, hz2⟩ := info_parts infoU8
  obtain ⟨u, hud⟩ : ∃ u, u = usedL (l1 ++ p :: l2) := ⟨_, rfl⟩
  rw [← hud] at HU hu
  have hw1 : IntKind.i64.wrap (lim - (u : Int)) = lim - (u : Int) := IntWalk.i64_in _ (by omega)
  have HL : Hid (∀ W, Kept (fun _ => False) w W → (Instr.lookup 58 (.map (some M)) (.string p.name) true).run Tryz.prog W = .ok (.tuple #[.pointer (some ⟨p.blk, 0, none⟩), .bool true]) W) := Lib.hid fun W hk => by
    have := look_some (h.kept hk (by simp)).map (names_ne h.names).1 true
    rwa [if_pos rfl] at this
  rw [← hb]
  clear h hf hs hud hv hp0 hpl hb
  cases b
  all_goals go_enter Tryz.func35, Tryz.ntmps35
  all_goals go_wp2_with (first | (go_at_call 59; refine H.out.mono ?_; rintro e w' ⟨rfl, rfl⟩) | (go_at_call 26; refine HN.out.mono ?_; rintro e w' ⟨rfl, hk⟩; have HK := Lib.hid hk; have hc1 := HC1.out _ hk; clear hk))
  all_goals
    go_quiet (fail)
    have HKW := Lib.hid (HK.out.drewN nq)
    generalize w'.drewN nq = W at HKW ⊢
    obtain ⟨V, hV⟩ : ∃ V, V = Value.slice none 0 0 := ⟨_, rfl⟩
    rw [← hV]
    have HVx := Lib.hid hV
    clear hV
  all_goals
    have HFW := Lib.hid (HF.out.kept HKW.out (by simp))
    have hl := HL.out _ HKW.out
    have h0 := FB.c0 HFW.out.fb
    have hp := HFW.out.at_ p (by simp)
    have hown := hp.own
    have hc := hp.c0
    have hc' := hp.cell
    rw [HV.out] at hown hc
    have HO := Lib.hid hown
    have gf := (HFW.out.at_ p (by simp)).fz 0
    have HCp := Lib.hid hc'
    clear hp hown hc'
  all_goals go_wp2_with (first | (at_builtin; refine wpList_append_own_none rfl _ _ 54 rfl 0 5 i0 1 Tryz.underlying54 hi _ p.b.length (p.b.map bv) rfl HO.out HVx.out ?_; have HE := Lib.hid (append_end_none HFW.out HV.out)) | (go_at_call 51; refine (HH.out _ _ HE.out.at_).mono ?_; rintro e w5 ⟨rfl, hfb, hk⟩; have HE5 := Lib.hid ((HE.out.trans (HE.out.at_.hitW hfb hk)).pre HKW.out); clear hfb hk))
  all_goals (go_ret; exact ⟨_, ret_int (by rw [HE0.out]; rfl), HE5.out⟩)
end Go.Proofs.YthkncfdgfbnchaaGreatDoor
