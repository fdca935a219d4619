import Derived.Test.YtefpigakhhfcaaaDoorMag
import Derived.Deep.Cut
import Derived.Deep.QuietTactic
import Derived.BigQuiet
import Derived.Laws.AppendOwnNone
/-! Package files: Append to a new file. -/
section
set_option linter.unusedVariables false
set_option linter.unusedSimpArgs false
namespace Go.Proofs.YtefpigakhhfcaaaDoor
open Go.RowKit


/-- A new file is put in. -/
theorem insert_step {W W1 W2 : World} {F M B : Nat} {ps : List PF} {s : ByteArray} {clock : Nat} {lim arm : Int} {dn : Bool} (h : FilesAt W F M ps clock lim arm dn) (hno : ∀ q ∈ ps, q.name ≠ s)
    (hB : B = W.heap.size) (hW1 : W1 = W.alloc (.cells #[.slice none 0 0, .int .i64 0] 100)) (hW2 : W2 = W1.putObj M (.map ((entriesOf ps).push { key := .string s, val := .pointer (some ⟨B, 0, none⟩), born := clock }) (clock + 1))) :
    (Instr.mapUpdate 74 (.map (some M)) (.string s) (.pointer (some ⟨B, 0, none⟩))).run Tryd.prog W1 = .ok () W2 ∧
    Went W F M ps (ps ++ [⟨s, [], 0, B, .slice none 0 0, clock⟩]) (clock + 1) lim arm dn W2 ∧ Kept (fun k => k = M) W W2 := by
  have hk1 : Kept (fun _ => False) W W1 := by rw [hW1]; exact (Kept.refl _ W).alloc _
  have h1 := h.kept hk1 (by simp)
  have hk2 : Kept (fun k => k = M) W1 W2 := by rw [hW2]; exact putObj_kept _ _ _
  have hM : M < W1.heap.size := h1.lt M (by simp [foot])
  have hm2 : W2.heap[M]? = some (.map ((entriesOf ps).push (PF.entry ⟨s, [], 0, B, .slice none 0 0, clock⟩)) (clock + 1)) := by rw [hW2]; exact World.putObj_heap_same hM
  have hBM : B ≠ M := by have := h.lt M (by simp [foot]); omega
  have hB1 : W1.heap[B]? = some (.cells #[.slice none 0 0, .int .i64 0] 100 (0, 0)) := by rw [hW1, hB]; exact heap_alloc_new W _
  have hB2 : W2.heap[B]? = some (.cells #[.slice none 0 0, .int .i64 0] 100 (0, 0)) := hk2.heap hB1 hBM
  have hp : (PF.mk s [] 0 B (.slice none 0 0) clock).At W2 := ⟨hB2, World.ownsRow_nil _ _ _ _, Nat.le_refl _, Nat.zero_le _⟩
  have hbl : ∀ k ∈ (PF.mk s [] 0 B (.slice none 0 0) clock).blocks, k = B := by intro k hk; simpa [PF.blocks, Value.ownBlock] using hk
  have hins := h1.insert hk2 hm2 rfl hp hno (fun k hk hf => by have := hbl k hk; have := h.lt k hf; omega) (by simp [PF.blocks, Value.ownBlock])
  refine ⟨by rw [hW2]; exact upd_none h1.map s _ hno, ⟨hins, ?_, ?_⟩, (hk1.mono fun _ _ h => h.elim).trans' hk2⟩
  · exact (hk1.mono fun _ _ h => h.elim).trans' (hk2.mono fun k _ e => by subst e; simp [foot])
  · intro k hk
    simp only [foot, List.flatMap_append, List.mem_cons, List.mem_append] at hk
    rcases hk with hk | hk | hk | hk
    · exact .inl (by simp [foot, hk])
    · exact .inl (by simp [foot, hk])
    · exact .inl (by simp only [foot, List.mem_cons]; exact .inr (.inr hk))
    · have : k = B := hbl k (by simpa using hk)
      exact .inr (by omega)
theorem append_step_new {W w3 : World} {F M B : Nat} {ps : List PF} {s : ByteArray} {clock clk n : Nat} {lim arm : Int} {dn : Bool} {v' : Value} {xs : List UInt8}
    (h : FilesAt W F M (ps ++ [⟨s, [], 0, B, .slice none 0 0, clk⟩]) clock lim arm dn) (hg : W.grownBy w3 (Value.slice none 0 0).ownBlock) (hown : w3.ownsRow 0 5 1 v' (0 + n) ([] ++ xs.map bv)) (hn : n = xs.length)
    (hat : v'.ownBlock = (Value.slice none 0 0).ownBlock ∨ v'.ownBlock = some W.heap.size) (hl : xs.length ≤ 4194304) :
    (∃ A c, v' = .slice A n c) ∧ w3.frozen? ⟨B, 0, none⟩ = false ∧ w3.cell? ⟨B, 0, none⟩ = some (.slice none 0 0) ∧
    Went W F M (ps ++ [⟨s, [], 0, B, .slice none 0 0, clk⟩]) (ps ++ [⟨s, xs, 0, B, v', clk⟩]) clock lim arm dn (w3.setCell ⟨B, 0, none⟩ v') := by
  obtain ⟨⟨A, c, h1⟩, h2, h3, h4⟩ := append_step (l1 := ps) (l2 := []) (p := ⟨s, [], 0, B, .slice none 0 0, clk⟩) h rfl hg hown hn hat (by simpa using hl)
  refine ⟨⟨A, c, ?_⟩, h2, h3, h4⟩
  rw [h1]; simp
set_option maxRecDepth 100000 in
set_option maxHeartbeats 4000000 in
theorem append_new_some (s : ByteArray) (ad : Addr) (n c : Nat) (w : World) (F M : Nat) (lim arm : Int) (ps : List PF) (clock : Nat) (xs : List UInt8) (hno : ∀ q ∈ ps, q.name ≠ s) (hs : s.size ≤ 140737488355328) (hf : fullB s = true) (h : FilesAt w F M (ps) clock lim arm false)
    (hu : usedL (ps) ≤ 4194304) (hx : Bs w (some ad) xs) (hn : n = xs.length) (hfit : Fits lim (ps) n) (hadM : xs = [] ∨ ad.block ≠ M) :
    Calls Tryd.prog 34 #[.pointer (some ⟨F, 0, none⟩), .string s, .slice (some ad) n c] w fun e w' => ∃ B v, Gone (hitE arm) w F M (ps) (ps ++ [⟨s, xs, 0, B, v, clock⟩]) (clock + 1) lim (decA arm) (decide (arm = 1)) e w' := by
  have HF := Lib.hid h
  have H := Lib.hid (ready_ok w F M lim arm _ clock h)
  have HN := Lib.hid (full_any s w hs)
  rw [hf] at HN
  have hl0 := h.lim0
  have HU : Hid (∀ W, Kept (fun _ => False) w W → Calls Tryd.prog 55 #[.pointer (some ⟨F, 0, none⟩)] W fun e w' => e = .returned (.int .i64 (usedL (ps))) ∧ Kept (fun _ => False) W w') :=
    Lib.hid fun W hk => used_any W F M lim arm false _ clock (h.kept hk (by simp)) (by omega)
  obtain ⟨b, hb⟩ : ∃ b, b = decide (arm = 1) := ⟨_, rfl⟩
  have HH : Hid (∀ W ps' clk, FilesAt W F M ps' clk lim arm false → Calls Tryd.prog 50 #[.pointer (some ⟨F, 0, none⟩)] W fun e w' => e = .returned (.bool b) ∧ FB w' F M lim (decA arm) b ∧ Kept (fun k => k = F) W w') := Lib.hid fun W ps' clk h' => by
    rw [hb]; exact hit_any W F M lim arm h'.fb h'.arm0
  have HE0 : Hid (hitE arm = if b then 13 else 0) := Lib.hid (by rw [hb]; simp [hitE])
  have HC1 : Hid (∀ W, Kept (fun _ => False) w W → W.cell? ⟨F, 1, none⟩ = some (.int .i64 lim)) := Lib.hid fun W hk => FB.c1 (h.kept hk (by simp)).fb
  have HX := Lib.hid hx
  have HNx := Lib.hid hn
  have Hlen : Hid (xs.length ≤ 4194304) := Lib.hid (by rcases hfit with e | e; omega; omega)
  have hln : n ≤ 4194304 := by have := Hlen.out; omega
  obtain ⟨i0, hi, hz0, hz1, hz2⟩ := info_parts infoU8
  obtain ⟨u, hud⟩ : ∃ u, u = usedL (ps) := ⟨_, rfl⟩
  unfold Fits at hfit
  rw [← hud] at HU hu hfit
  have hw1 : IntKind.i64.wrap (lim - (u : Int)) = lim - (u : Int) := IntWalk.i64_in _ (by omega)
  have HL : Hid (∀ W, Kept (fun _ => False) w W → (Instr.lookup 74 (.map (some M)) (.string s) true).run Tryd.prog W = .ok (.tuple #[.pointer none, .bool false]) W) := Lib.hid fun W hk => look_none (h.kept hk (by simp)).map s hno
  rw [← hb]
  have HNo := Lib.hid hno
  clear h hf hs hud hx hn hb hno
  have Hpart : Hid (n = 0 ∨ (n : Int) + (u : Int) ≤ lim) := Lib.hid hfit
  clear hfit
  cases b
  all_goals (rcases Nat.eq_zero_or_pos n with hz | hz)
  all_goals first
    | subst hz
    | (have hn' : (0 : Int) < (n : Int) := by omega
       have hcmp : ¬ lim - (u : Int) < (n : Int) := by have := Hpart.out; omega)
  all_goals go_enter Tryd.func34, Tryd.ntmps34
  all_goals go_wp2_with (first | (go_at_call 54; refine H.out.mono ?_; rintro e w' ⟨rfl, rfl⟩) | (go_at_call 21; refine HN.out.mono ?_; rintro e w' ⟨rfl, hk⟩; have HK := Lib.hid hk; have hc1 := HC1.out _ hk; clear hk))
  all_goals first
    | (fail_if_success (have := hcmp)
       go_quiet (fail)
       have HKW := Lib.hid (HK.out.drewN nq)
       generalize w'.drewN nq = W at HKW ⊢
       obtain ⟨V, hV⟩ : ∃ V, V = Value.slice (some ad) 0 c := ⟨_, rfl⟩
       rw [← hV]
       have HVx := Lib.hid hV
       clear hV)
    | (go_region_held3 (fun W => W.cell? ⟨F, 1, none⟩ = some (.int .i64 lim)) (first | assumption | simp [*]) (first | (go_at_call 55; refine (HU.out _ HK.out.drew).mono ?_; rintro e W ⟨rfl, hk2⟩; have HKW := Lib.hid (HK.out.drew.trans' hk2); have hc2 := HC1.out _ HKW.out; clear hk2))
       obtain ⟨V, hV⟩ : ∃ V, V = Value.slice (some ad) n c := ⟨_, rfl⟩
       rw [← hV]
       have HVx := Lib.hid hV
       clear hV)
  all_goals
    have HFW := Lib.hid (HF.out.kept HKW.out (by simp))
    have hl := HL.out _ HKW.out
    have h0 := FB.c0 HFW.out.fb
    have HXW := Lib.hid (HX.out.kept HKW.out (by simp))
    obtain ⟨B, hB⟩ : ∃ B, B = W.heap.size := ⟨_, rfl⟩
    obtain ⟨W1, hW1⟩ : ∃ W1, W1 = W.alloc (.cells #[.slice none 0 0, .int .i64 0] 100) := ⟨_, rfl⟩
    obtain ⟨W2, hW2⟩ : ∃ W2, W2 = W1.putObj M (.map ((entriesOf ps).push { key := .string s, val := .pointer (some ⟨B, 0, none⟩), born := clock }) (clock + 1)) := ⟨_, rfl⟩
    obtain ⟨hup, hIns, hk2⟩ := insert_step HFW.out HNo.out hB hW1 hW2
    have h01 := FB.c0 (HFW.out.kept (show Kept (fun _ => False) W W1 by rw [hW1]; exact (Kept.refl _ W).alloc _) (by simp)).fb
    have hbu : (Instr.build 100 #[]).run Tryd.prog W = .ok (.agg #[.slice none 0 0, .int .i64 0]) W := by kernel_rfl
    have hIn := Lib.hid hIns
    subst hB
    have hpc : W2.cell? ⟨W.heap.size, 0, none⟩ = some (.slice none 0 0) := (hIns.at_.at_ ⟨s, [], 0, W.heap.size, .slice none 0 0, clock⟩ (by simp)).c0
    have HOn := Lib.hid (World.ownsRow_nil W2 0 5 1)
    have HX2 : Hid (Bs W2 (some ad) xs) := Lib.hid (hadM.elim (fun e => (by rw [e]; exact Bs.nil _ _)) fun hne => HXW.out.kept hk2 (fun _ e => by injection e with e; subst e; exact hne))
    rw [hW1] at hup h01
    clear hIns hk2 hW1 hW2
  all_goals go_upto_region 12 with fail
  all_goals go_wp2_with (first | (at_builtin; go_loud (refine wpList_append_own_at _ rfl _ _ 31 rfl 0 5 i0 (.int .u8 0) 1 1 Tryd.underlying31 hi hz0 hz1 hz2 rfl (by decide) _ 0 [] rfl HOn.out ad _ c (xs.map bv) HVx.out (by have := HNx.out; rw [List.length_map]; omega) (HX2.out.2 ad rfl) (bv_one xs) (by have := Hlen.out; have := HNx.out; unfold maxLen; omega) (by have := Hlen.out; have := HNx.out; omega) (Nat.zero_le _) ?_); intro v' w3 hown hgrow hnil hat; go_loud (obtain ⟨⟨A', c', rfl⟩, gf, gc, hE⟩ := append_step_new hIn.out.at_ hgrow hown HNx.out hat Hlen.out); have HE := Lib.hid hE; clear hown hgrow hnil hat hE) | (go_at_call 50; refine (HH.out _ _ _ HE.out.at_).mono ?_; rintro e w5 ⟨rfl, hfb, hk⟩; have HE5 := Lib.hid ((hIn.out.trans (HE.out.trans (HE.out.at_.hitW hfb hk))).pre HKW.out); clear hfb hk))
  all_goals (go_ret; exact ⟨_, _, ret_int (by rw [HE0.out]; rfl), HE5.out⟩)
end Go.Proofs.YtefpigakhhfcaaaDoor
end

/-! Package files: Append of nil to a new file. -/
section
set_option linter.unusedVariables false
set_option linter.unusedSimpArgs false
namespace Go.Proofs.YtefpigakhhfcaaaDoor
open Go.RowKit


theorem append_end_new_none {W : World} {F M B : Nat} {ps : List PF} {s : ByteArray} {clock clk : Nat} {lim arm : Int} {dn : Bool} (h : FilesAt W F M (ps ++ [⟨s, [], 0, B, .slice none 0 0, clk⟩]) clock lim arm dn) :
    Went W F M (ps ++ [⟨s, [], 0, B, .slice none 0 0, clk⟩]) (ps ++ [⟨s, [], 0, B, .slice none 0 0, clk⟩]) clock lim arm dn (W.setCell ⟨B, 0, none⟩ (.slice none 0 0)) :=
  append_end_none (l1 := ps) (l2 := []) (p := ⟨s, [], 0, B, .slice none 0 0, clk⟩) (c0 := 0) (A0 := none) h rfl
set_option maxRecDepth 100000 in
set_option maxHeartbeats 4000000 in
theorem append_new_none (s : ByteArray) (w : World) (F M : Nat) (lim arm : Int) (ps : List PF) (clock : Nat) (hno : ∀ q ∈ ps, q.name ≠ s) (hs : s.size ≤ 140737488355328) (hf : fullB s = true) (h : FilesAt w F M (ps) clock lim arm false)
    (hu : usedL (ps) ≤ 4194304) :
    Calls Tryd.prog 34 #[.pointer (some ⟨F, 0, none⟩), .string s, .slice none 0 0] w fun e w' => ∃ B v, Gone (hitE arm) w F M (ps) (ps ++ [⟨s, [], 0, B, v, clock⟩]) (clock + 1) lim (decA arm) (decide (arm = 1)) e w' := by
  have HF := Lib.hid h
  have H := Lib.hid (ready_ok w F M lim arm _ clock h)
  have HN := Lib.hid (full_any s w hs)
  rw [hf] at HN
  have hl0 := h.lim0
  have HU : Hid (∀ W, Kept (fun _ => False) w W → Calls Tryd.prog 55 #[.pointer (some ⟨F, 0, none⟩)] W fun e w' => e = .returned (.int .i64 (usedL (ps))) ∧ Kept (fun _ => False) W w') :=
    Lib.hid fun W hk => used_any W F M lim arm false _ clock (h.kept hk (by simp)) (by omega)
  obtain ⟨b, hb⟩ : ∃ b, b = decide (arm = 1) := ⟨_, rfl⟩
  have HH : Hid (∀ W ps' clk, FilesAt W F M ps' clk lim arm false → Calls Tryd.prog 50 #[.pointer (some ⟨F, 0, none⟩)] W fun e w' => e = .returned (.bool b) ∧ FB w' F M lim (decA arm) b ∧ Kept (fun k => k = F) W w') := Lib.hid fun W ps' clk h' => by
    rw [hb]; exact hit_any W F M lim arm h'.fb h'.arm0
  have HE0 : Hid (hitE arm = if b then 13 else 0) := Lib.hid (by rw [hb]; simp [hitE])
  have HC1 : Hid (∀ W, Kept (fun _ => False) w W → W.cell? ⟨F, 1, none⟩ = some (.int .i64 lim)) := Lib.hid fun W hk => FB.c1 (h.kept hk (by simp)).fb
  obtain ⟨i0, hi, hz0, hz1, hz2⟩ := info_parts infoU8
  obtain ⟨u, hud⟩ : ∃ u, u = usedL (ps) := ⟨_, rfl⟩
  rw [← hud] at HU hu
  have hw1 : IntKind.i64.wrap (lim - (u : Int)) = lim - (u : Int) := IntWalk.i64_in _ (by omega)
  have HL : Hid (∀ W, Kept (fun _ => False) w W → (Instr.lookup 74 (.map (some M)) (.string s) true).run Tryd.prog W = .ok (.tuple #[.pointer none, .bool false]) W) := Lib.hid fun W hk => look_none (h.kept hk (by simp)).map s hno
  rw [← hb]
  have HNo := Lib.hid hno
  clear h hf hs hud hb hno
  cases b
  all_goals go_enter Tryd.func34, Tryd.ntmps34
  all_goals go_wp2_with (first | (go_at_call 54; refine H.out.mono ?_; rintro e w' ⟨rfl, rfl⟩) | (go_at_call 21; refine HN.out.mono ?_; rintro e w' ⟨rfl, hk⟩; have HK := Lib.hid hk; have hc1 := HC1.out _ hk; clear hk))
  all_goals
    go_quiet (fail)
    have HKW := Lib.hid (HK.out.drewN nq)
    generalize w'.drewN nq = W at HKW ⊢
    obtain ⟨V, hV⟩ : ∃ V, V = Value.slice none 0 0 := ⟨_, rfl⟩
    rw [← hV]
    have HVx := Lib.hid hV
    clear hV
  all_goals
    have HFW := Lib.hid (HF.out.kept HKW.out (by simp))
    have hl := HL.out _ HKW.out
    have h0 := FB.c0 HFW.out.fb
    obtain ⟨B, hB⟩ : ∃ B, B = W.heap.size := ⟨_, rfl⟩
    obtain ⟨W1, hW1⟩ : ∃ W1, W1 = W.alloc (.cells #[.slice none 0 0, .int .i64 0] 100) := ⟨_, rfl⟩
    obtain ⟨W2, hW2⟩ : ∃ W2, W2 = W1.putObj M (.map ((entriesOf ps).push { key := .string s, val := .pointer (some ⟨B, 0, none⟩), born := clock }) (clock + 1)) := ⟨_, rfl⟩
    obtain ⟨hup, hIns, hk2⟩ := insert_step HFW.out HNo.out hB hW1 hW2
    have h01 := FB.c0 (HFW.out.kept (show Kept (fun _ => False) W W1 by rw [hW1]; exact (Kept.refl _ W).alloc _) (by simp)).fb
    have hbu : (Instr.build 100 #[]).run Tryd.prog W = .ok (.agg #[.slice none 0 0, .int .i64 0]) W := by kernel_rfl
    have hIn := Lib.hid hIns
    subst hB
    have hpc : W2.cell? ⟨W.heap.size, 0, none⟩ = some (.slice none 0 0) := (hIns.at_.at_ ⟨s, [], 0, W.heap.size, .slice none 0 0, clock⟩ (by simp)).c0
    have HOn := Lib.hid (World.ownsRow_nil W2 0 5 1)
    have gf := (hIns.at_.at_ ⟨s, [], 0, W.heap.size, .slice none 0 0, clock⟩ (by simp)).fz 0
    simp only at gf
    rw [hW1] at hup h01
    clear hIns hk2 hW1 hW2
  all_goals go_upto_region 12 with fail
  all_goals go_wp2_with (first | (at_builtin; refine wpList_append_own_none rfl _ _ 31 rfl 0 5 i0 1 Tryd.underlying31 hi _ 0 [] rfl HOn.out HVx.out ?_; have HE := Lib.hid (append_end_new_none hIn.out.at_)) | (go_at_call 50; refine (HH.out _ _ _ HE.out.at_).mono ?_; rintro e w5 ⟨rfl, hfb, hk⟩; have HE5 := Lib.hid ((hIn.out.trans (HE.out.trans (HE.out.at_.hitW hfb hk))).pre HKW.out); clear hfb hk))
  all_goals (go_ret; exact ⟨_, _, ret_int (by rw [HE0.out]; rfl), HE5.out⟩)
end Go.Proofs.YtefpigakhhfcaaaDoor
end
