/-
  Package files: Rename over another file.
-/
import Derived.Test.YthkncfdgfbnchaaGreatDoorD8
import Derived.Deep.Cut
set_option linter.unusedVariables false
set_option linter.unusedSimpArgs false
namespace Go.Proofs.YthkncfdgfbnchaaGreatDoor
open Go.RowKit

set_option maxRecDepth 100000 in
set_option maxHeartbeats 1000000 in
theorem rename_over (w : World) (F M : Nat) (lim arm : Int) (l1 l2 m1 m2 : List PF) (p q : PF) (clock : Nat) (ha : arm ≠ 1) (hs : q.name.size ≤ 140737488355328) (hf : fullB q.name = true) (hsp : l1 ++ l2 = m1 ++ q :: m2) (h : FilesAt w F M (l1 ++ p :: l2) clock lim arm false) :
    Calls Tryz.prog 47 #[.pointer (some ⟨F, 0, none⟩), .string p.name, .string q.name] w (Gone 0 w F M (l1 ++ p :: l2) (m1 ++ setN p q.name q.born :: m2) clock lim (decA arm) false) := by
  have HF := Lib.hid h
  have H := Lib.hid (there_some w F M lim arm l1 l2 p clock h)
  have HNm := Lib.hid (names_ne h.names).1
  have HN := Lib.hid (full_any q.name w hs)
  have HSp := Lib.hid hsp
  rw [hf] at HN
  have Hd := Lib.hid (show decide (arm = 1) = false by simp [ha])
  clear h hf hs hsp ha
  go_enter Tryz.func47, Tryz.ntmps47
  go_wp2_with (first
    | (go_at_call 50; refine H.out.mono ?_; rintro e w' ⟨rfl, rfl⟩)
    | (go_at_call 26; refine HN.out.mono ?_; rintro e w0 ⟨rfl, hk0⟩; have HK := Lib.hid hk0; have HF0 := Lib.hid (HF.out.kept hk0 (by simp)); clear hk0)
    | (go_at_call 51; refine (hit_any _ F M lim arm HF0.out.fb HF0.out.arm0).mono ?_; rintro e w1 ⟨rfl, hfb, hk⟩; rw [Hd.out] at hfb ⊢; have HW := Lib.hid (kept_none HK.out (HF0.out.hitW hfb hk)); have h0 := FB.c0 hfb; obtain ⟨W2, hW2⟩ : ∃ W2, W2 = w1.putObj M (.map (entriesOf (l1 ++ l2)) clock) := ⟨_, rfl⟩; have hdel : (Builtin.delete_ #[58, 9] 0 #[.map (some M), .string p.name]).run Tryz.prog w1 = .ok (.tuple #[]) W2 := (by rw [hW2]; exact del_some HW.out.at_.map HNm.out 0); have HG := Lib.hid (gone_step HW.out.at_ hW2); have h02 := FB.c0 HG.out.at_.fb; have HGa := HG.out.at_; rw [HSp.out] at HGa; have HGb := Lib.hid HGa; clear HGa; obtain ⟨W3, hW3⟩ : ∃ W3, W3 = W2.putObj M (.map (entriesOf (m1 ++ { q with blk := p.blk } :: m2)) clock) := ⟨_, rfl⟩; have hup : (Instr.mapUpdate 58 (.map (some M)) (.string q.name) (.pointer (some ⟨p.blk, 0, none⟩))).run Tryz.prog W2 = .ok () W3 := (by rw [hW3]; exact upd_some HGb.out.map (names_ne HGb.out.names).1 p.blk); have hMp := (HW.out.at_.ne.2 p (by simp)).2; have hd := HW.out.at_.out.1; rw [HSp.out] at hd; have hc := over_step HGb.out ((HW.out.at_.at_ p (by simp)).kept (show Kept (fun k => k = M) w1 W2 by rw [hW2]; exact putObj_kept _ _ _) (fun k hk e => hMp (by rw [← e]; exact hk))) hd HW.out.at_.out.2 hW3; clear hd; have HCo := Lib.hid hc; clear hfb hk hW2 hW3 hMp hc))
  go_ret
  refine ⟨rfl, HCo.out.1, ?_, ?_⟩
  · exact (HW.out.trans HG.out).kept.trans HCo.out.2 fun i hi e => by subst e; simp [foot]
  · intro k hk
    have hk' : k ∈ foot F M (m1 ++ q :: m2) ∨ k ∈ p.blocks := by
      simp only [foot, List.flatMap_append, List.mem_cons, List.mem_append, List.flatMap_cons] at hk ⊢
      rcases hk with hk | hk | hk | hk | hk
      · exact .inl (.inl hk)
      · exact .inl (.inr (.inl hk))
      · exact .inl (.inr (.inr (.inl hk)))
      · exact .inr hk
      · exact .inl (.inr (.inr (.inr (.inr hk))))
    rcases hk' with hk' | hk'
    · exact (HW.out.trans HG.out).feet k (by rw [HSp.out]; exact hk')
    · exact .inl (mem_foot (p := p) (by simp) hk')
end Go.Proofs.YthkncfdgfbnchaaGreatDoor
