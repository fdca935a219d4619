import Derived.Test.YtibalgfejfjndaaGreatDoorMab
/-! Package files: Truncate, where ¬ n < p.safe. -/
section
set_option linter.unusedVariables false
set_option linter.unusedSimpArgs false
namespace Go.Proofs.YtibalgfejfjndaaGreatDoor
open Go.RowKit
set_option maxHeartbeats 4000000 in
theorem trunc_ge (w : World) (F M : Nat) (lim arm : Int) (l1 l2 : List PF) (p : PF) (clock : Nat) (n : Nat) (hn : n ≤ p.b.length) (hmn : ¬ n < p.safe) (ha : arm ≠ 1) (h : FilesAt w F M (l1 ++ p :: l2) clock lim arm false) :
    Calls Tryz.prog 16 #[.pointer (some ⟨F, 0, none⟩), .string p.name, .int .i64 n] w fun e w' => ∃ v, Gone 0 w F M (l1 ++ p :: l2) (l1 ++ { p with b := p.b.take n, safe := min p.safe n, val := v } :: l2) clock lim (decA arm) false e w' := by
  have HF := Lib.hid h
  have H := Lib.hid (there_some w F M lim arm l1 l2 p clock h)
  have HH := Lib.hid (hit_any w F M lim arm h.fb h.arm0)
  have Hd := Lib.hid (show decide (arm = 1) = false by simp [ha])
  have hp := h.at_ p (by simp)
  obtain ⟨A, c, hv, hlen, hbs, hA, _⟩ := Bs.of_own hp.own
  have hown := hp.own
  rw [hv] at hown
  obtain ⟨hcap, hA0⟩ := own_cap hown
  have hsl := fun W => slice_run W A p.b.length n c hA0 (by omega)
  have hc := hp.c0
  rw [hv] at hc
  have hpl := hp.len
  have hps := hp.safe
  have HV := Lib.hid hv
  have HC : Hid (∀ W, PF.At W p → Calls Tryz.prog 39 #[.slice A n c] W (ClonePost W (p.b.take n))) := by
    refine Lib.hid ?_
    intro W hp'
    obtain ⟨A', c', hv', _, hbs', hA', _⟩ := Bs.of_own hp'.own
    rw [hv] at hv'
    injection hv' with e1 _ e3
    subst e1; subst e3
    refine clone_any W A n c (p.b.take n) (by simp; omega) (by omega) ⟨fun e => ?_, fun ad e j u hu => hbs'.2 ad e j u ?_⟩ hA'
    · have := hbs'.1 e; simp [this]
    · rw [List.map_take] at hu
      rw [List.getElem?_take] at hu
      split at hu
      · exact hu
      · cases hu
  clear h hp hbs hA ha hv hown hA0
  have hmn' : ¬ (n : Int) < (p.safe : Int) := by omega
  all_goals go_enter Tryz.func16, Tryz.ntmps16
  all_goals go_wp2_with (first | (go_at_call 38; refine H.out.mono ?_; rintro e w' ⟨rfl, rfl⟩) | (go_at_call 41; refine HH.out.mono ?_; rintro e w' ⟨rfl, hfb, hk⟩; rw [Hd.out] at hfb ⊢; have HW := Lib.hid (HF.out.hitW hfb hk); have hp := HW.out.at_.at_ p (by simp); have hc' := hp.c0; rw [HV.out] at hc'; have HP := Lib.hid hp; have f1 := hp.fz 1; have f0 := hp.fz 0; have h1 := hp.c1; clear hp hfb hk))
  all_goals have HC' := Lib.hid (HC.out w'.drew (HP.out.kept ((Kept.refl (fun _ => False) w').drew) (by simp)))
  all_goals go_region_with (go_at_call 39; refine HC'.out.mono ?_; rintro e w2 ⟨v, rfl, hown, hk2⟩; obtain ⟨A2, c2, rfl, _, _, _, _⟩ := Bs.of_own hown; have HK2 := Lib.hid hk2; have HO2 := Lib.hid hown; have HP2 := Lib.hid (HP.out.kept (((Kept.refl (fun _ => False) w').drew).trans' hk2) (by simp)); have g0 := HP2.out.c0; have g1 := HP2.out.c1; have gf0 := HP2.out.fz 0; have gf1 := HP2.out.fz 1; rw [HV.out] at g0; clear hown hk2)
  all_goals go_wp2
  all_goals (go_ret; exact ⟨_, rfl, trunc_end HW.out HK2.out HP2.out hn _ (by omega) HO2.out⟩)
end Go.Proofs.YtibalgfejfjndaaGreatDoor
end
