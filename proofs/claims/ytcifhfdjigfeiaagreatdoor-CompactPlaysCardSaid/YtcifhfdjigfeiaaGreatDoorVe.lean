import Derived.Test.YtcifhfdjigfeiaaGreatDoorVc
import Derived.Deep.Cut
/-! Package files: Rename, Remove. -/
section
set_option linter.unusedVariables false
set_option linter.unusedSimpArgs false
namespace Go.Proofs.YtcifhfdjigfeiaaGreatDoor
open Go.RowKit

theorem FilesAt.out {w : World} {F M : Nat} {l1 l2 : List PF} {p : PF} {clock : Nat} {lim arm : Int} {dn : Bool} (h : FilesAt w F M (l1 ++ p :: l2) clock lim arm dn) :
    (∀ k ∈ p.blocks, k ∉ foot F M (l1 ++ l2)) ∧ p.blocks.Nodup := by
  have hs := h.sep
  have hne := h.ne.2 p (by simp)
  simp only [foot, List.flatMap_append, List.flatMap_cons] at hs
  rw [List.nodup_cons, List.nodup_cons] at hs
  have h3 := hs.2.2
  rw [List.nodup_append] at h3
  obtain ⟨_, h4, h5⟩ := h3
  rw [List.nodup_append] at h4
  refine ⟨fun k hk hf => ?_, h4.1⟩
  simp only [foot, List.flatMap_append, List.mem_cons, List.mem_append] at hf
  rcases hf with hf | hf | hf | hf
  · subst hf; exact hne.1 hk
  · subst hf; exact hne.2 hk
  · exact h5 k hf k (List.mem_append.2 (.inl hk)) rfl
  · exact h4.2.2 k hk k hf rfl
theorem PF.At.as {w : World} {p : PF} (h : p.At w) (s : ByteArray) (b : Nat) : ({ p with name := s, born := b } : PF).At w := ⟨h.cell, h.own, h.safe, h.len⟩
/-- One file goes. -/
theorem gone_step {w w' : World} {F M : Nat} {l1 l2 : List PF} {p : PF} {clock : Nat} {lim arm : Int} {dn : Bool} (h : FilesAt w F M (l1 ++ p :: l2) clock lim arm dn) (hw : w' = w.putObj M (.map (entriesOf (l1 ++ l2)) clock)) :
    Went w F M (l1 ++ p :: l2) (l1 ++ l2) clock lim arm dn w' := by
  have hk : Kept (fun k => k = M) w w' := by rw [hw]; exact putObj_kept _ _ _
  have hM : M < w.heap.size := h.lt M (by simp [foot])
  refine ⟨h.erase hk (by rw [hw]; exact World.putObj_heap_same hM), hk.mono fun k _ e => by subst e; simp [foot], fun k hk => .inl ?_⟩
  simp only [foot, List.flatMap_append, List.flatMap_cons, List.mem_cons, List.mem_append] at hk ⊢
  rcases hk with hk | hk | hk | hk <;> simp [hk]
set_option maxRecDepth 100000 in
set_option maxHeartbeats 1000000 in
theorem remove_any (w : World) (F M : Nat) (lim arm : Int) (l1 l2 : List PF) (p : PF) (clock : Nat) (h : FilesAt w F M (l1 ++ p :: l2) clock lim arm false) :
    Calls Tryz.prog 26 #[.pointer (some ⟨F, 0, none⟩), .string p.name] w (if arm = 1 then Gone 13 w F M (l1 ++ p :: l2) (l1 ++ p :: l2) clock lim (decA arm) true else Gone 0 w F M (l1 ++ p :: l2) (l1 ++ l2) clock lim (decA arm) false) := by
  have HF := Lib.hid h
  have H := Lib.hid (there_some w F M lim arm l1 l2 p clock h)
  have HN := Lib.hid (names_ne h.names).1
  obtain ⟨b, hb⟩ : ∃ b, b = decide (arm = 1) := ⟨_, rfl⟩
  have HH : Hid (Calls Tryz.prog 50 #[.pointer (some ⟨F, 0, none⟩)] w fun e w' => e = .returned (.bool b) ∧ FB w' F M lim (decA arm) b ∧ Kept (fun k => k = F) w w') := Lib.hid (by rw [hb]; exact hit_any w F M lim arm h.fb h.arm0)
  clear h
  cases b with
  | true =>
    rw [if_pos (by simpa using hb.symm)]
    clear hb
    go_enter Tryz.func26, Tryz.ntmps26
    go_wp2_with (first | (go_at_call 49; refine H.out.mono ?_; rintro e w' ⟨rfl, rfl⟩) | (go_at_call 50; refine HH.out.mono ?_; rintro e w1 ⟨rfl, hfb, hk⟩; have HW := Lib.hid (HF.out.hitW hfb hk); clear hfb hk))
    go_ret
    exact ⟨rfl, HW.out⟩
  | false =>
    rw [if_neg (by intro e; simp [e] at hb)]
    clear hb
    go_enter Tryz.func26, Tryz.ntmps26
    go_wp2_with (first
      | (go_at_call 49; refine H.out.mono ?_; rintro e w' ⟨rfl, rfl⟩)
      | (go_at_call 50; refine HH.out.mono ?_; rintro e w1 ⟨rfl, hfb, hk⟩; have HW := Lib.hid (HF.out.hitW hfb hk); have h0 := FB.c0 hfb; obtain ⟨W2, hW2⟩ : ∃ W2, W2 = w1.putObj M (.map (entriesOf (l1 ++ l2)) clock) := ⟨_, rfl⟩; have hdel : (Builtin.delete_ #[56, 9] 0 #[.map (some M), .string p.name]).run Tryz.prog w1 = .ok (.tuple #[]) W2 := (by rw [hW2]; exact del_some HW.out.at_.map HN.out 0); have HG := Lib.hid (gone_step HW.out.at_ hW2); clear hfb hk hW2))
    go_ret
    exact ⟨rfl, HW.out.trans HG.out⟩
/-! ### Rename -/
def setN (p : PF) (s : ByteArray) (b : Nat) : PF := { p with name := s, born := b }
/-- A file that was taken out comes in under a new name. -/
theorem come_step {w w' : World} {F M : Nat} {ps : List PF} {p : PF} {s : ByteArray} {clock : Nat} {lim arm : Int} {dn : Bool} (h : FilesAt w F M ps clock lim arm dn) (hp : p.At w) (hno : ∀ q ∈ ps, q.name ≠ s)
    (hd : ∀ k ∈ p.blocks, k ∉ foot F M ps) (hnd : p.blocks.Nodup) (hw : w' = w.putObj M (.map ((entriesOf ps).push { key := .string s, val := .pointer (some ⟨p.blk, 0, none⟩), born := clock }) (clock + 1))) :
    FilesAt w' F M (ps ++ [setN p s clock]) (clock + 1) lim arm dn ∧ Kept (fun k => k = M) w w' := by
  have hk : Kept (fun k => k = M) w w' := by rw [hw]; exact putObj_kept _ _ _
  have hM : M < w.heap.size := h.lt M (by simp [foot])
  have hp' : (setN p s clock).At w' := (hp.as s clock).kept hk (fun k hkk e => hd k hkk (by rw [e]; simp [foot]))
  exact ⟨h.insert hk (by rw [hw]; exact World.putObj_heap_same hM) rfl hp' hno hd hnd, hk⟩
theorem over_step {w w' : World} {F M : Nat} {m1 m2 : List PF} {p q : PF} {clock : Nat} {lim arm : Int} {dn : Bool} (h : FilesAt w F M (m1 ++ q :: m2) clock lim arm dn) (hp : p.At w)
    (hd : ∀ k ∈ p.blocks, k ∉ foot F M (m1 ++ q :: m2)) (hnd : p.blocks.Nodup) (hw : w' = w.putObj M (.map (entriesOf (m1 ++ { q with blk := p.blk } :: m2)) clock)) :
    FilesAt w' F M (m1 ++ setN p q.name q.born :: m2) clock lim arm dn ∧ Kept (fun k => k = M) w w' := by
  have hk : Kept (fun k => k = M) w w' := by rw [hw]; exact putObj_kept _ _ _
  have hM : M < w.heap.size := h.lt M (by simp [foot])
  have hp' : (setN p q.name q.born).At w' := (hp.as q.name q.born).kept hk (fun k hkk e => hd k hkk (by rw [e]; simp [foot]))
  refine ⟨h.point (p := setN p q.name q.born) hk rfl rfl ?_ hp' hd hnd, hk⟩
  rw [hw, World.putObj_heap_same hM]
  rw [entriesOf_mid, entriesOf_mid]
  rfl
set_option maxHeartbeats 1000000 in
theorem rename_bad (w : World) (F M : Nat) (lim arm : Int) (l1 l2 : List PF) (p : PF) (s : ByteArray) (clock : Nat) (hs : s.size ≤ 140737488355328) (hf : fullB s = false) (h : FilesAt w F M (l1 ++ p :: l2) clock lim arm false) :
    Calls Tryz.prog 40 #[.pointer (some ⟨F, 0, none⟩), .string p.name, .string s] w (Kin 6 w) := by
  have H := Lib.hid (there_some w F M lim arm l1 l2 p clock h)
  have HN := Lib.hid (full_any s w hs)
  rw [hf] at HN
  clear h hf hs
  go_enter Tryz.func40, Tryz.ntmps40
  go_wp2_with (first
    | (go_at_call 49; refine H.out.mono ?_; rintro e w' ⟨rfl, rfl⟩)
    | (go_at_call 25; refine HN.out.mono ?_; rintro e w' ⟨rfl, hk⟩; have HK := Lib.hid hk; clear hk))
  go_ret
  exact ⟨rfl, HK.out⟩
theorem kept_none {w W w' : World} {F M : Nat} {ps ps' : List PF} {c : Nat} {lim arm : Int} {dn : Bool} (hk : Kept (fun _ => False) w W) (h : Went W F M ps ps' c lim arm dn w') : Went w F M ps ps' c lim arm dn w' :=
  ⟨h.at_, (hk.mono fun _ _ h => h.elim).trans' h.kept, fun k hm => (h.feet k hm).imp id fun hm => Nat.le_trans hk.size hm⟩
set_option maxRecDepth 100000 in
set_option maxHeartbeats 1000000 in
theorem rename_hit (w : World) (F M : Nat) (lim : Int) (l1 l2 : List PF) (p : PF) (s : ByteArray) (clock : Nat) (hs : s.size ≤ 140737488355328) (hf : fullB s = true) (h : FilesAt w F M (l1 ++ p :: l2) clock lim 1 false) :
    Calls Tryz.prog 40 #[.pointer (some ⟨F, 0, none⟩), .string p.name, .string s] w (Gone 13 w F M (l1 ++ p :: l2) (l1 ++ p :: l2) clock lim (decA 1) true) := by
  have HF := Lib.hid h
  have H := Lib.hid (there_some w F M lim 1 l1 l2 p clock h)
  have HN := Lib.hid (full_any s w hs)
  rw [hf] at HN
  clear h hf hs
  go_enter Tryz.func40, Tryz.ntmps40
  go_wp2_with (first
    | (go_at_call 49; refine H.out.mono ?_; rintro e w' ⟨rfl, rfl⟩)
    | (go_at_call 25; refine HN.out.mono ?_; rintro e w0 ⟨rfl, hk0⟩; have HK := Lib.hid hk0; have HF0 := Lib.hid (HF.out.kept hk0 (by simp)); clear hk0)
    | (go_at_call 50; refine (hit_any _ F M lim 1 HF0.out.fb (by omega)).mono ?_; rintro e w1 ⟨rfl, hfb, hk⟩; simp only [decide_true] at hfb ⊢; have HW := Lib.hid (kept_none HK.out (HF0.out.hitW hfb hk)); clear hfb hk))
  go_ret
  exact ⟨rfl, HW.out⟩
set_option maxRecDepth 100000 in
set_option maxHeartbeats 1000000 in
theorem rename_new (w : World) (F M : Nat) (lim arm : Int) (l1 l2 : List PF) (p : PF) (s : ByteArray) (clock : Nat) (ha : arm ≠ 1) (hs : s.size ≤ 140737488355328) (hf : fullB s = true) (hno : ∀ q ∈ l1 ++ l2, q.name ≠ s) (h : FilesAt w F M (l1 ++ p :: l2) clock lim arm false) :
    Calls Tryz.prog 40 #[.pointer (some ⟨F, 0, none⟩), .string p.name, .string s] w (Gone 0 w F M (l1 ++ p :: l2) (l1 ++ l2 ++ [setN p s clock]) (clock + 1) lim (decA arm) false) := by
  have HF := Lib.hid h
  have H := Lib.hid (there_some w F M lim arm l1 l2 p clock h)
  have HNm := Lib.hid (names_ne h.names).1
  have HN := Lib.hid (full_any s w hs)
  have HNo := Lib.hid hno
  rw [hf] at HN
  have Hd := Lib.hid (show decide (arm = 1) = false by simp [ha])
  clear h hf hs hno ha
  go_enter Tryz.func40, Tryz.ntmps40
  go_wp2_with (first
    | (go_at_call 49; refine H.out.mono ?_; rintro e w' ⟨rfl, rfl⟩)
    | (go_at_call 25; refine HN.out.mono ?_; rintro e w0 ⟨rfl, hk0⟩; have HK := Lib.hid hk0; have HF0 := Lib.hid (HF.out.kept hk0 (by simp)); clear hk0)
    | (go_at_call 50; refine (hit_any _ F M lim arm HF0.out.fb HF0.out.arm0).mono ?_; rintro e w1 ⟨rfl, hfb, hk⟩; rw [Hd.out] at hfb ⊢; have HW := Lib.hid (kept_none HK.out (HF0.out.hitW hfb hk)); have h0 := FB.c0 hfb; obtain ⟨W2, hW2⟩ : ∃ W2, W2 = w1.putObj M (.map (entriesOf (l1 ++ l2)) clock) := ⟨_, rfl⟩; have hdel : (Builtin.delete_ #[56, 9] 0 #[.map (some M), .string p.name]).run Tryz.prog w1 = .ok (.tuple #[]) W2 := (by rw [hW2]; exact del_some HW.out.at_.map HNm.out 0); have HG := Lib.hid (gone_step HW.out.at_ hW2); have h02 := FB.c0 HG.out.at_.fb; obtain ⟨W3, hW3⟩ : ∃ W3, W3 = W2.putObj M (.map ((entriesOf (l1 ++ l2)).push { key := .string s, val := .pointer (some ⟨p.blk, 0, none⟩), born := clock }) (clock + 1)) := ⟨_, rfl⟩; have hup : (Instr.mapUpdate 56 (.map (some M)) (.string s) (.pointer (some ⟨p.blk, 0, none⟩))).run Tryz.prog W2 = .ok () W3 := (by rw [hW3]; exact upd_none HG.out.at_.map s _ HNo.out); have hMp := (HW.out.at_.ne.2 p (by simp)).2; have hc := come_step HG.out.at_ ((HW.out.at_.at_ p (by simp)).kept (show Kept (fun k => k = M) w1 W2 by rw [hW2]; exact putObj_kept _ _ _) (fun k hk e => hMp (by rw [← e]; exact hk))) HNo.out HW.out.at_.out.1 HW.out.at_.out.2 hW3; have HCo := Lib.hid hc; clear hfb hk hW2 hW3 hMp hc))
  go_ret
  refine ⟨rfl, HCo.out.1, ?_, ?_⟩
  · exact (HW.out.trans HG.out).kept.trans HCo.out.2 fun i hi e => by subst e; simp [foot]
  · intro k hk
    have hk' : k ∈ foot F M (l1 ++ l2) ∨ k ∈ p.blocks := by
      simp only [foot, List.flatMap_append, List.mem_cons, List.mem_append, List.flatMap_cons, List.flatMap_nil, List.not_mem_nil, or_false] at hk ⊢
      rcases hk with hk | hk | hk | hk
      · exact .inl (.inl hk)
      · exact .inl (.inr (.inl hk))
      · exact .inl (.inr (.inr hk))
      · exact .inr hk
    rcases hk' with hk' | hk'
    · exact (HW.out.trans HG.out).feet k hk'
    · exact .inl (mem_foot (p := p) (by simp) hk')
end Go.Proofs.YtcifhfdjigfeiaaGreatDoor
end

/-! Package files: Rename over another file. -/
section
set_option linter.unusedVariables false
set_option linter.unusedSimpArgs false
namespace Go.Proofs.YtcifhfdjigfeiaaGreatDoor
open Go.RowKit

set_option maxRecDepth 100000 in
set_option maxHeartbeats 1000000 in
theorem rename_over (w : World) (F M : Nat) (lim arm : Int) (l1 l2 m1 m2 : List PF) (p q : PF) (clock : Nat) (ha : arm ≠ 1) (hs : q.name.size ≤ 140737488355328) (hf : fullB q.name = true) (hsp : l1 ++ l2 = m1 ++ q :: m2) (h : FilesAt w F M (l1 ++ p :: l2) clock lim arm false) :
    Calls Tryz.prog 40 #[.pointer (some ⟨F, 0, none⟩), .string p.name, .string q.name] w (Gone 0 w F M (l1 ++ p :: l2) (m1 ++ setN p q.name q.born :: m2) clock lim (decA arm) false) := by
  have HF := Lib.hid h
  have H := Lib.hid (there_some w F M lim arm l1 l2 p clock h)
  have HNm := Lib.hid (names_ne h.names).1
  have HN := Lib.hid (full_any q.name w hs)
  have HSp := Lib.hid hsp
  rw [hf] at HN
  have Hd := Lib.hid (show decide (arm = 1) = false by simp [ha])
  clear h hf hs hsp ha
  go_enter Tryz.func40, Tryz.ntmps40
  go_wp2_with (first
    | (go_at_call 49; refine H.out.mono ?_; rintro e w' ⟨rfl, rfl⟩)
    | (go_at_call 25; refine HN.out.mono ?_; rintro e w0 ⟨rfl, hk0⟩; have HK := Lib.hid hk0; have HF0 := Lib.hid (HF.out.kept hk0 (by simp)); clear hk0)
    | (go_at_call 50; refine (hit_any _ F M lim arm HF0.out.fb HF0.out.arm0).mono ?_; rintro e w1 ⟨rfl, hfb, hk⟩; rw [Hd.out] at hfb ⊢; have HW := Lib.hid (kept_none HK.out (HF0.out.hitW hfb hk)); have h0 := FB.c0 hfb; obtain ⟨W2, hW2⟩ : ∃ W2, W2 = w1.putObj M (.map (entriesOf (l1 ++ l2)) clock) := ⟨_, rfl⟩; have hdel : (Builtin.delete_ #[56, 9] 0 #[.map (some M), .string p.name]).run Tryz.prog w1 = .ok (.tuple #[]) W2 := (by rw [hW2]; exact del_some HW.out.at_.map HNm.out 0); have HG := Lib.hid (gone_step HW.out.at_ hW2); have h02 := FB.c0 HG.out.at_.fb; have HGa := HG.out.at_; rw [HSp.out] at HGa; have HGb := Lib.hid HGa; clear HGa; obtain ⟨W3, hW3⟩ : ∃ W3, W3 = W2.putObj M (.map (entriesOf (m1 ++ { q with blk := p.blk } :: m2)) clock) := ⟨_, rfl⟩; have hup : (Instr.mapUpdate 56 (.map (some M)) (.string q.name) (.pointer (some ⟨p.blk, 0, none⟩))).run Tryz.prog W2 = .ok () W3 := (by rw [hW3]; exact upd_some HGb.out.map (names_ne HGb.out.names).1 p.blk); have hMp := (HW.out.at_.ne.2 p (by simp)).2; have hd := HW.out.at_.out.1; rw [HSp.out] at hd; have hc := over_step HGb.out ((HW.out.at_.at_ p (by simp)).kept (show Kept (fun k => k = M) w1 W2 by rw [hW2]; exact putObj_kept _ _ _) (fun k hk e => hMp (by rw [← e]; exact hk))) hd HW.out.at_.out.2 hW3; clear hd; have HCo := Lib.hid hc; clear hfb hk hW2 hW3 hMp hc))
  go_ret
  refine ⟨rfl, HCo.out.1, ?_, ?_⟩
  · exact (HW.out.trans HG.out).kept.trans HCo.out.2 fun i hi e => by subst e; simp [foot]
  · intro k hk
    have hk' : k ∈ foot F M (m1 ++ q :: m2) ∨ k ∈ p.blocks := by
      simp only [foot, List.flatMap_append, List.mem_cons, List.mem_append, List.flatMap_cons] at hk ⊢
      rcases hk with hk | hk | hk | hk | hk
      · exact .inl (.inl hk)
      · exact .inl (.inr (.inl hk))
      · exact .inl (.inr (.inr (.inl hk)))
      · exact .inr hk
      · exact .inl (.inr (.inr (.inr (.inr hk))))
    rcases hk' with hk' | hk'
    · exact (HW.out.trans HG.out).feet k (by rw [HSp.out]; exact hk')
    · exact .inl (mem_foot (p := p) (by simp) hk')
end Go.Proofs.YtcifhfdjigfeiaaGreatDoor
end
