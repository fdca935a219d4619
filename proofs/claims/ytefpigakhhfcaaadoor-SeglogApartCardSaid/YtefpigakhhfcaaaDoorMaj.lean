import Derived.Test.YtefpigakhhfcaaaDoorMag
import Derived.Deep.Cut
/-! Package files: Rename, Remove. -/
section
set_option linter.unusedVariables false
set_option linter.unusedSimpArgs false
namespace Go.Proofs.YtefpigakhhfcaaaDoor
open Go.RowKit

theorem FilesAt.out {w : World} {F M : Nat} {l1 l2 : List PF} {p : PF} {clock : Nat} {lim arm : Int} {dn : Bool} (h : FilesAt w F M (l1 ++ p :: l2) clock lim arm dn) :
    (∀ k ∈ p.blocks, k ∉ foot F M (l1 ++ l2)) ∧ p.blocks.Nodup := by
  have hs := h.sep
  have hne := h.ne.2 p (by simp)
  simp only [foot, List.flatMap_append, List.flatMap_cons] at hs
  rw [List.nodup_cons, List.nodup_cons] at hs
  have h3 := hs.2.2
  rw [List.nodup_append] at h3
  obtain ⟨_, h4, h5⟩ := h3
  rw [List.nodup_append] at h4
  refine ⟨fun k hk hf => ?_, h4.1⟩
  simp only [foot, List.flatMap_append, List.mem_cons, List.mem_append] at hf
  rcases hf with hf | hf | hf | hf
  · subst hf; exact hne.1 hk
  · subst hf; exact hne.2 hk
  · exact h5 k hf k (List.mem_append.2 (.inl hk)) rfl
  · exact h4.2.2 k hk k hf rfl
theorem PF.At.as {w : World} {p : PF} (h : p.At w) (s : ByteArray) (b : Nat) : ({ p with name := s, born := b } : PF).At w := ⟨h.cell, h.own, h.safe, h.len⟩
/-- One file goes. -/
theorem gone_step {w w' : World} {F M : Nat} {l1 l2 : List PF} {p : PF} {clock : Nat} {lim arm : Int} {dn : Bool} (h : FilesAt w F M (l1 ++ p :: l2) clock lim arm dn) (hw : w' = w.putObj M (.map (entriesOf (l1 ++ l2)) clock)) :
    Went w F M (l1 ++ p :: l2) (l1 ++ l2) clock lim arm dn w' := by
  have hk : Kept (fun k => k = M) w w' := by rw [hw]; exact putObj_kept _ _ _
  have hM : M < w.heap.size := h.lt M (by simp [foot])
  refine ⟨h.erase hk (by rw [hw]; exact World.putObj_heap_same hM), hk.mono fun k _ e => by subst e; simp [foot], fun k hk => .inl ?_⟩
  simp only [foot, List.flatMap_append, List.flatMap_cons, List.mem_cons, List.mem_append] at hk ⊢
  rcases hk with hk | hk | hk | hk <;> simp [hk]
set_option maxRecDepth 100000 in
set_option maxHeartbeats 1000000 in
theorem remove_any (w : World) (F M : Nat) (lim arm : Int) (l1 l2 : List PF) (p : PF) (clock : Nat) (h : FilesAt w F M (l1 ++ p :: l2) clock lim arm false) :
    Calls Tryd.prog 27 #[.pointer (some ⟨F, 0, none⟩), .string p.name] w (if arm = 1 then Gone 13 w F M (l1 ++ p :: l2) (l1 ++ p :: l2) clock lim (decA arm) true else Gone 0 w F M (l1 ++ p :: l2) (l1 ++ l2) clock lim (decA arm) false) := by
  have HF := Lib.hid h
  have H := Lib.hid (there_some w F M lim arm l1 l2 p clock h)
  have HN := Lib.hid (names_ne h.names).1
  obtain ⟨b, hb⟩ : ∃ b, b = decide (arm = 1) := ⟨_, rfl⟩
  have HH : Hid (Calls Tryd.prog 50 #[.pointer (some ⟨F, 0, none⟩)] w fun e w' => e = .returned (.bool b) ∧ FB w' F M lim (decA arm) b ∧ Kept (fun k => k = F) w w') := Lib.hid (by rw [hb]; exact hit_any w F M lim arm h.fb h.arm0)
  clear h
  cases b with
  | true =>
    rw [if_pos (by simpa using hb.symm)]
    clear hb
    go_enter Tryd.func27, Tryd.ntmps27
    go_wp2_with (first | (go_at_call 48; refine H.out.mono ?_; rintro e w' ⟨rfl, rfl⟩) | (go_at_call 50; refine HH.out.mono ?_; rintro e w1 ⟨rfl, hfb, hk⟩; have HW := Lib.hid (HF.out.hitW hfb hk); clear hfb hk))
    go_ret
    exact ⟨rfl, HW.out⟩
  | false =>
    rw [if_neg (by intro e; simp [e] at hb)]
    clear hb
    go_enter Tryd.func27, Tryd.ntmps27
    go_wp2_with (first
      | (go_at_call 48; refine H.out.mono ?_; rintro e w' ⟨rfl, rfl⟩)
      | (go_at_call 50; refine HH.out.mono ?_; rintro e w1 ⟨rfl, hfb, hk⟩; have HW := Lib.hid (HF.out.hitW hfb hk); have h0 := FB.c0 hfb; obtain ⟨W2, hW2⟩ : ∃ W2, W2 = w1.putObj M (.map (entriesOf (l1 ++ l2)) clock) := ⟨_, rfl⟩; have hdel : (Builtin.delete_ #[74, 9] 0 #[.map (some M), .string p.name]).run Tryd.prog w1 = .ok (.tuple #[]) W2 := (by rw [hW2]; exact del_some HW.out.at_.map HN.out 0); have HG := Lib.hid (gone_step HW.out.at_ hW2); clear hfb hk hW2))
    go_ret
    exact ⟨rfl, HW.out.trans HG.out⟩
/-! ### Rename -/
def setN (p : PF) (s : ByteArray) (b : Nat) : PF := { p with name := s, born := b }
/-- A file that was taken out comes in under a new name. -/
theorem come_step {w w' : World} {F M : Nat} {ps : List PF} {p : PF} {s : ByteArray} {clock : Nat} {lim arm : Int} {dn : Bool} (h : FilesAt w F M ps clock lim arm dn) (hp : p.At w) (hno : ∀ q ∈ ps, q.name ≠ s)
    (hd : ∀ k ∈ p.blocks, k ∉ foot F M ps) (hnd : p.blocks.Nodup) (hw : w' = w.putObj M (.map ((entriesOf ps).push { key := .string s, val := .pointer (some ⟨p.blk, 0, none⟩), born := clock }) (clock + 1))) :
    FilesAt w' F M (ps ++ [setN p s clock]) (clock + 1) lim arm dn ∧ Kept (fun k => k = M) w w' := by
  have hk : Kept (fun k => k = M) w w' := by rw [hw]; exact putObj_kept _ _ _
  have hM : M < w.heap.size := h.lt M (by simp [foot])
  have hp' : (setN p s clock).At w' := (hp.as s clock).kept hk (fun k hkk e => hd k hkk (by rw [e]; simp [foot]))
  exact ⟨h.insert hk (by rw [hw]; exact World.putObj_heap_same hM) rfl hp' hno hd hnd, hk⟩
theorem over_step {w w' : World} {F M : Nat} {m1 m2 : List PF} {p q : PF} {clock : Nat} {lim arm : Int} {dn : Bool} (h : FilesAt w F M (m1 ++ q :: m2) clock lim arm dn) (hp : p.At w)
    (hd : ∀ k ∈ p.blocks, k ∉ foot F M (m1 ++ q :: m2)) (hnd : p.blocks.Nodup) (hw : w' = w.putObj M (.map (entriesOf (m1 ++ { q with blk := p.blk } :: m2)) clock)) :
    FilesAt w' F M (m1 ++ setN p q.name q.born :: m2) clock lim arm dn ∧ Kept (fun k => k = M) w w' := by
  have hk : Kept (fun k => k = M) w w' := by rw [hw]; exact putObj_kept _ _ _
  have hM : M < w.heap.size := h.lt M (by simp [foot])
  have hp' : (setN p q.name q.born).At w' := (hp.as q.name q.born).kept hk (fun k hkk e => hd k hkk (by rw [e]; simp [foot]))
  refine ⟨h.point (p := setN p q.name q.born) hk rfl rfl ?_ hp' hd hnd, hk⟩
  rw [hw, World.putObj_heap_same hM]
  rw [entriesOf_mid, entriesOf_mid]
  rfl
theorem kept_none {w W w' : World} {F M : Nat} {ps ps' : List PF} {c : Nat} {lim arm : Int} {dn : Bool} (hk : Kept (fun _ => False) w W) (h : Went W F M ps ps' c lim arm dn w') : Went w F M ps ps' c lim arm dn w' :=
  ⟨h.at_, (hk.mono fun _ _ h => h.elim).trans' h.kept, fun k hm => (h.feet k hm).imp id fun hm => Nat.le_trans hk.size hm⟩
end Go.Proofs.YtefpigakhhfcaaaDoor
end

/-! Package files: Rename over another file. -/
section
set_option linter.unusedVariables false
set_option linter.unusedSimpArgs false
namespace Go.Proofs.YtefpigakhhfcaaaDoor
open Go.RowKit

end Go.Proofs.YtefpigakhhfcaaaDoor
end
