import Derived.Test.YtibalgfejfjndaaGreatDoorMab
import Derived.Deep.Cut
import Derived.Deep.QuietTactic
import Derived.BigQuiet
import Derived.Laws.AppendOwnNone
/-! Package files: Append to a new file. -/
section
set_option linter.unusedVariables false
set_option linter.unusedSimpArgs false
namespace Go.Proofs.YtibalgfejfjndaaGreatDoor
open Go.RowKit


/-- A new file is put in. -/
theorem insert_step {W W1 W2 : World} {F M B : Nat} {ps : List PF} {s : ByteArray} {clock : Nat} {lim arm : Int} {dn : Bool} (h : FilesAt W F M ps clock lim arm dn) (hno : ∀ q ∈ ps, q.name ≠ s)
    (hB : B = W.heap.size) (hW1 : W1 = W.alloc (.cells #[.slice none 0 0, .int .i64 0] 89)) (hW2 : W2 = W1.putObj M (.map ((entriesOf ps).push { key := .string s, val := .pointer (some ⟨B, 0, none⟩), born := clock }) (clock + 1))) :
    (Instr.mapUpdate 42 (.map (some M)) (.string s) (.pointer (some ⟨B, 0, none⟩))).run Tryz.prog W1 = .ok () W2 ∧
    Went W F M ps (ps ++ [⟨s, [], 0, B, .slice none 0 0, clock⟩]) (clock + 1) lim arm dn W2 ∧ Kept (fun k => k = M) W W2 := by
  have hk1 : Kept (fun _ => False) W W1 := by rw [hW1]; exact (Kept.refl _ W).alloc _
  have h1 := h.kept hk1 (by simp)
  have hk2 : Kept (fun k => k = M) W1 W2 := by rw [hW2]; exact putObj_kept _ _ _
  have hM : M < W1.heap.size := h1.lt M (by simp [foot])
  have hm2 : W2.heap[M]? = some (.map ((entriesOf ps).push (PF.entry ⟨s, [], 0, B, .slice none 0 0, clock⟩)) (clock + 1)) := by rw [hW2]; exact World.putObj_heap_same hM
  have hBM : B ≠ M := by have := h.lt M (by simp [foot]); omega
  have hB1 : W1.heap[B]? = some (.cells #[.slice none 0 0, .int .i64 0] 89 (0, 0)) := by rw [hW1, hB]; exact heap_alloc_new W _
  have hB2 : W2.heap[B]? = some (.cells #[.slice none 0 0, .int .i64 0] 89 (0, 0)) := hk2.heap hB1 hBM
  have hp : (PF.mk s [] 0 B (.slice none 0 0) clock).At W2 := ⟨hB2, World.ownsRow_nil _ _ _ _, Nat.le_refl _, Nat.zero_le _⟩
  have hbl : ∀ k ∈ (PF.mk s [] 0 B (.slice none 0 0) clock).blocks, k = B := by intro k hk; simpa [PF.blocks, Value.ownBlock] using hk
  have hins := h1.insert hk2 hm2 rfl hp hno (fun k hk hf => by have := hbl k hk; have := h.lt k hf; omega) (by simp [PF.blocks, Value.ownBlock])
  refine ⟨by rw [hW2]; exact upd_none h1.map s _ hno, ⟨hins, ?_, ?_⟩, (hk1.mono fun _ _ h => h.elim).trans' hk2⟩
  · exact (hk1.mono fun _ _ h => h.elim).trans' (hk2.mono fun k _ e => by subst e; simp [foot])
  · intro k hk
    simp only [foot, List.flatMap_append, List.mem_cons, List.mem_append] at hk
    rcases hk with hk | hk | hk | hk
    · exact .inl (by simp [foot, hk])
    · exact .inl (by simp [foot, hk])
    · exact .inl (by simp only [foot, List.mem_cons]; exact .inr (.inr hk))
    · have : k = B := hbl k (by simpa using hk)
      exact .inr (by omega)
theorem append_step_new {W w3 : World} {F M B : Nat} {ps : List PF} {s : ByteArray} {clock clk n : Nat} {lim arm : Int} {dn : Bool} {v' : Value} {xs : List UInt8}
    (h : FilesAt W F M (ps ++ [⟨s, [], 0, B, .slice none 0 0, clk⟩]) clock lim arm dn) (hg : W.grownBy w3 (Value.slice none 0 0).ownBlock) (hown : w3.ownsRow 0 5 1 v' (0 + n) ([] ++ xs.map bv)) (hn : n = xs.length)
    (hat : v'.ownBlock = (Value.slice none 0 0).ownBlock ∨ v'.ownBlock = some W.heap.size) (hl : xs.length ≤ 4194304) :
    (∃ A c, v' = .slice A n c) ∧ w3.frozen? ⟨B, 0, none⟩ = false ∧ w3.cell? ⟨B, 0, none⟩ = some (.slice none 0 0) ∧
    Went W F M (ps ++ [⟨s, [], 0, B, .slice none 0 0, clk⟩]) (ps ++ [⟨s, xs, 0, B, v', clk⟩]) clock lim arm dn (w3.setCell ⟨B, 0, none⟩ v') := by
  obtain ⟨⟨A, c, h1⟩, h2, h3, h4⟩ := append_step (l1 := ps) (l2 := []) (p := ⟨s, [], 0, B, .slice none 0 0, clk⟩) h rfl hg hown hn hat (by simpa using hl)
  refine ⟨⟨A, c, ?_⟩, h2, h3, h4⟩
  rw [h1]; simp
set_option maxRecDepth 100000 in
set_option maxHeartbeats 4000000 in
theorem append_new_some (s : ByteArray) (ad : Addr) (n c : Nat) (w : World) (F M : Nat) (lim arm : Int) (ps : List PF) (clock : Nat) (xs : List UInt8) (hno : ∀ q ∈ ps, q.name ≠ s) (hs : s.size ≤ 140737488355328) (hf : fullB s = true) (h : FilesAt w F M (ps) clock lim arm false)
    (hu : usedL (ps) ≤ 4194304) (hx : Bs w (some ad) xs) (hn : n = xs.length) (hfit : Fits lim (ps) n) (hadM : xs = [] ∨ ad.block ≠ M) :
    Calls Tryz.prog 46 #[.pointer (some ⟨F, 0, none⟩), .string s, .slice (some ad) n c] w fun e w' => ∃ B v, Gone (hitE arm) w F M (ps) (ps ++ [⟨s, xs, 0, B, v, clock⟩]) (clock + 1) lim (decA arm) (decide (arm = 1)) e w' := by
  have HF := Lib.hid h
  have H := Lib.hid (ready_ok w F M lim arm _ clock h)
  have HN := Lib.hid (full_any s w hs)
  rw [hf] at HN
  have hl0 := h.lim0
  have HU : Hid (∀ W, Kept (fun _ => False) w W → Calls Tryz.prog 69 #[.pointer (some ⟨F, 0, none⟩)] W fun e w' => e = .returned (.int .i64 (usedL (ps))) ∧ Kept (fun _ => False) W w') :=
    Lib.hid fun W hk => used_any W F M lim arm false _ clock (h.kept hk (by simp)) (by omega)
  obtain ⟨b, hb⟩ : ∃ b, b = decide (arm = 1) := ⟨_, rfl⟩
  have HH : Hid (∀ W ps' clk, FilesAt W F M ps' clk lim arm false → Calls Tryz.prog 41 #[.pointer (some ⟨F, 0, none⟩)] W fun e w' => e = .returned (.bool b) ∧ FB w' F M lim (decA arm) b ∧ Kept (fun k => k = F) W w') := Lib.hid fun W ps' clk h' => by
    rw [hb]; exact hit_any W F M lim arm h'.fb h'.arm0
  have HE0 : Hid (hitE arm = if b then 13 else 0) := Lib.hid (by rw [hb]; simp [hitE])
  have HC1 : Hid (∀ W, Kept (fun _ => False) w W → W.cell? ⟨F, 1, none⟩ = some (.int .i64 lim)) := Lib.hid fun W hk => FB.c1 (h.kept hk (by simp)).fb
  have HX := Lib.hid hx
  have HNx := Lib.hid hn
  have Hlen : Hid (xs.length ≤ 4194304) := Lib.hid (by rcases hfit with e | e; omega; omega)
  have hln : n ≤ 4194304 := by have := Hlen.out; omega
  obtain ⟨i0, hi, hz0, hz1, hz2⟩ := info_parts infoU8
  obtain ⟨u, hud⟩ : ∃ u, u = usedL (ps) := ⟨_, rfl⟩
  unfold Fits at hfit
  rw [← hud] at HU hu hfit
  have hw1 : IntKind.i64.wrap (lim - (u : Int)) = lim - (u : Int) := IntWalk.i64_in _ (by omega)
  have HL : Hid (∀ W, Kept (fun _ => False) w W → (Instr.lookup 42 (.map (some M)) (.string s) true).run Tryz.prog W = .ok (.tuple #[.pointer none, .bool false]) W) := Lib.hid fun W hk => look_none (h.kept hk (by simp)).map s hno
  rw [← hb]
  have HNo := Lib.hid hno
  clear h hf hs hud hx hn hb hno
  have Hpart : Hid (n = 0 ∨ (n : Int) + (u : Int) ≤ lim) := Lib.hid hfit
  clear hfit
  cases b
  all_goals (rcases Nat.eq_zero_or_pos n with hz | hz)
  all_goals first
    | subst hz
    | (have hn' : (0 : Int) < (n : Int) := by omega
       have hcmp : ¬ lim - (u : Int) < (n : Int) := by have := Hpart.out; omega)
  all_goals go_enter Tryz.func46, Tryz.ntmps46
  all_goals go_wp2_with (first | (go_at_call 64; refine H.out.mono ?_; rintro e w' ⟨rfl, rfl⟩) | (go_at_call 9; refine HN.out.mono ?_; rintro e w' ⟨rfl, hk⟩; have HK := Lib.hid hk; have hc1 := HC1.out _ hk; clear hk))
  all_goals first
    | (fail_if_success (have := hcmp)
       go_quiet (fail)
       have HKW := Lib.hid (HK.out.drewN nq)
       generalize w'.drewN nq = W at HKW ⊢
       obtain ⟨V, hV⟩ : ∃ V, V = Value.slice (some ad) 0 c := ⟨_, rfl⟩
       rw [← hV]
       have HVx := Lib.hid hV
       clear hV)
    | (go_region_held3 (fun W => W.cell? ⟨F, 1, none⟩ = some (.int .i64 lim)) (first | assumption | simp [*]) (first | (go_at_call 69; refine (HU.out _ HK.out.drew).mono ?_; rintro e W ⟨rfl, hk2⟩; have HKW := Lib.hid (HK.out.drew.trans' hk2); have hc2 := HC1.out _ HKW.out; clear hk2))
       obtain ⟨V, hV⟩ : ∃ V, V = Value.slice (some ad) n c := ⟨_, rfl⟩
       rw [← hV]
       have HVx := Lib.hid hV
       clear hV)
  all_goals
    have HFW := Lib.hid (HF.out.kept HKW.out (by simp))
    have hl := HL.out _ HKW.out
    have h0 := FB.c0 HFW.out.fb
    have HXW := Lib.hid (HX.out.kept HKW.out (by simp))
    obtain ⟨B, hB⟩ : ∃ B, B = W.heap.size := ⟨_, rfl⟩
    obtain ⟨W1, hW1⟩ : ∃ W1, W1 = W.alloc (.cells #[.slice none 0 0, .int .i64 0] 89) := ⟨_, rfl⟩
    obtain ⟨W2, hW2⟩ : ∃ W2, W2 = W1.putObj M (.map ((entriesOf ps).push { key := .string s, val := .pointer (some ⟨B, 0, none⟩), born := clock }) (clock + 1)) := ⟨_, rfl⟩
    obtain ⟨hup, hIns, hk2⟩ := insert_step HFW.out HNo.out hB hW1 hW2
    have h01 := FB.c0 (HFW.out.kept (show Kept (fun _ => False) W W1 by rw [hW1]; exact (Kept.refl _ W).alloc _) (by simp)).fb
    have hbu : (Instr.build 89 #[]).run Tryz.prog W = .ok (.agg #[.slice none 0 0, .int .i64 0]) W := by kernel_rfl
    have hIn := Lib.hid hIns
    subst hB
    have hpc : W2.cell? ⟨W.heap.size, 0, none⟩ = some (.slice none 0 0) := (hIns.at_.at_ ⟨s, [], 0, W.heap.size, .slice none 0 0, clock⟩ (by simp)).c0
    have HOn := Lib.hid (World.ownsRow_nil W2 0 5 1)
    have HX2 : Hid (Bs W2 (some ad) xs) := Lib.hid (hadM.elim (fun e => (by rw [e]; exact Bs.nil _ _)) fun hne => HXW.out.kept hk2 (fun _ e => by injection e with e; subst e; exact hne))
    rw [hW1] at hup h01
    clear hIns hk2 hW1 hW2
  all_goals go_upto_region 12 with fail
  all_goals go_wp2_with (first | (at_builtin; go_loud (refine wpList_append_own_at _ rfl _ _ 30 rfl 0 5 i0 (.int .u8 0) 1 1 Tryz.underlying30 hi hz0 hz1 hz2 rfl (by decide) _ 0 [] rfl HOn.out ad _ c (xs.map bv) HVx.out (by have := HNx.out; rw [List.length_map]; omega) (HX2.out.2 ad rfl) (bv_one xs) (by have := Hlen.out; have := HNx.out; unfold maxLen; omega) (by have := Hlen.out; have := HNx.out; omega) (Nat.zero_le _) ?_); intro v' w3 hown hgrow hnil hat; go_loud (obtain ⟨⟨A', c', rfl⟩, gf, gc, hE⟩ := append_step_new hIn.out.at_ hgrow hown HNx.out hat Hlen.out); have HE := Lib.hid hE; clear hown hgrow hnil hat hE) | (go_at_call 41; refine (HH.out _ _ _ HE.out.at_).mono ?_; rintro e w5 ⟨rfl, hfb, hk⟩; have HE5 := Lib.hid ((hIn.out.trans (HE.out.trans (HE.out.at_.hitW hfb hk))).pre HKW.out); clear hfb hk))
  all_goals (go_ret; exact ⟨_, _, ret_int (by rw [HE0.out]; rfl), HE5.out⟩)
end Go.Proofs.YtibalgfejfjndaaGreatDoor
end

/-! Package files: Append of nil to a new file. -/
section
set_option linter.unusedVariables false
set_option linter.unusedSimpArgs false
namespace Go.Proofs.YtibalgfejfjndaaGreatDoor
open Go.RowKit


theorem append_end_new_none {W : World} {F M B : Nat} {ps : List PF} {s : ByteArray} {clock clk : Nat} {lim arm : Int} {dn : Bool} (h : FilesAt W F M (ps ++ [⟨s, [], 0, B, .slice none 0 0, clk⟩]) clock lim arm dn) :
    Went W F M (ps ++ [⟨s, [], 0, B, .slice none 0 0, clk⟩]) (ps ++ [⟨s, [], 0, B, .slice none 0 0, clk⟩]) clock lim arm dn (W.setCell ⟨B, 0, none⟩ (.slice none 0 0)) :=
  append_end_none (l1 := ps) (l2 := []) (p := ⟨s, [], 0, B, .slice none 0 0, clk⟩) (c0 := 0) (A0 := none) h rfl
set_option maxRecDepth 100000 in
set_option maxHeartbeats 4000000 in
theorem append_new_none (s : ByteArray) (w : World) (F M : Nat) (lim arm : Int) (ps : List PF) (clock : Nat) (hno : ∀ q ∈ ps, q.name ≠ s) (hs : s.size ≤ 140737488355328) (hf : fullB s = true) (h : FilesAt w F M (ps) clock lim arm false)
    (hu : usedL (ps) ≤ 4194304) :
    Calls Tryz.prog 46 #[.pointer (some ⟨F, 0, none⟩), .string s, .slice none 0 0] w fun e w' => ∃ B v, Gone (hitE arm) w F M (ps) (ps ++ [⟨s, [], 0, B, v, clock⟩]) (clock + 1) lim (decA arm) (decide (arm = 1)) e w' := by
  have HF := Lib.hid h
  have H := Lib.hid (ready_ok w F M lim arm _ clock h)
  have HN := Lib.hid (full_any s w hs)
  rw [hf] at HN
  have hl0 := h.lim0
  have HU : Hid (∀ W, Kept (fun _ => False) w W → Calls Tryz.prog 69 #[.pointer (some ⟨F, 0, none⟩)] W fun e w' => e = .returned (.int .i64 (usedL (ps))) ∧ Kept (fun _ => False) W w') :=
    Lib.hid fun W hk => used_any W F M lim arm false _ clock (h.kept hk (by simp)) (by omega)
  obtain ⟨b, hb⟩ : ∃ b, b = decide (arm = 1) := ⟨_, rfl⟩
  have HH : Hid (∀ W ps' clk, FilesAt W F M ps' clk lim arm false → Calls Tryz.prog 41 #[.pointer (some ⟨F, 0, none⟩)] W fun e w' => e = .returned (.bool b) ∧ FB w' F M lim (decA arm) b ∧ Kept (fun k => k = F) W w') := Lib.hid fun W ps' clk h' => by
    rw [hb]; exact hit_any W F M lim arm h'.fb h'.arm0
  have HE0 : Hid (hitE arm = if b then 13 else 0) := Lib.hid (by rw [hb]; simp [hitE])
  have HC1 : Hid (∀ W, Kept (fun _ => False) w W → W.cell? ⟨F, 1, none⟩ = some (.int .i64 lim)) := Lib.hid fun W hk => FB.c1 (h.kept hk (by simp)).fb
  obtain ⟨i0, hi, hz0, hz1, hz2⟩ := info_parts infoU8
  obtain ⟨u, hud⟩ : ∃ u, u = usedL (ps) := ⟨_, rfl⟩
  rw [← hud] at HU hu
  have hw1 : IntKind.i64.wrap (lim - (u : Int)) = lim - (u : Int) := IntWalk.i64_in _ (by omega)
  have HL : Hid (∀ W, Kept (fun _ => False) w W → (Instr.lookup 42 (.map (some M)) (.string s) true).run Tryz.prog W = .ok (.tuple #[.pointer none, .bool false]) W) := Lib.hid fun W hk => look_none (h.kept hk (by simp)).map s hno
  rw [← hb]
  have HNo := Lib.hid hno
  clear h hf hs hud hb hno
  cases b
  all_goals go_enter Tryz.func46, Tryz.ntmps46
  all_goals go_wp2_with (first | (go_at_call 64; refine H.out.mono ?_; rintro e w' ⟨rfl, rfl⟩) | (go_at_call 9; refine HN.out.mono ?_; rintro e w' ⟨rfl, hk⟩; have HK := Lib.hid hk; have hc1 := HC1.out _ hk; clear hk))
  all_goals
    go_quiet (fail)
    have HKW := Lib.hid (HK.out.drewN nq)
    generalize w'.drewN nq = W at HKW ⊢
    obtain ⟨V, hV⟩ : ∃ V, V = Value.slice none 0 0 := ⟨_, rfl⟩
    rw [← hV]
    have HVx := Lib.hid hV
    clear hV
  all_goals
    have HFW := Lib.hid (HF.out.kept HKW.out (by simp))
    have hl := HL.out _ HKW.out
    have h0 := FB.c0 HFW.out.fb
    obtain ⟨B, hB⟩ : ∃ B, B = W.heap.size := ⟨_, rfl⟩
    obtain ⟨W1, hW1⟩ : ∃ W1, W1 = W.alloc (.cells #[.slice none 0 0, .int .i64 0] 89) := ⟨_, rfl⟩
    obtain ⟨W2, hW2⟩ : ∃ W2, W2 = W1.putObj M (.map ((entriesOf ps).push { key := .string s, val := .pointer (some ⟨B, 0, none⟩), born := clock }) (clock + 1)) := ⟨_, rfl⟩
    obtain ⟨hup, hIns, hk2⟩ := insert_step HFW.out HNo.out hB hW1 hW2
    have h01 := FB.c0 (HFW.out.kept (show Kept (fun _ => False) W W1 by rw [hW1]; exact (Kept.refl _ W).alloc _) (by simp)).fb
    have hbu : (Instr.build 89 #[]).run Tryz.prog W = .ok (.agg #[.slice none 0 0, .int .i64 0]) W := by kernel_rfl
    have hIn := Lib.hid hIns
    subst hB
    have hpc : W2.cell? ⟨W.heap.size, 0, none⟩ = some (.slice none 0 0) := (hIns.at_.at_ ⟨s, [], 0, W.heap.size, .slice none 0 0, clock⟩ (by simp)).c0
    have HOn := Lib.hid (World.ownsRow_nil W2 0 5 1)
    have gf := (hIns.at_.at_ ⟨s, [], 0, W.heap.size, .slice none 0 0, clock⟩ (by simp)).fz 0
    simp only at gf
    rw [hW1] at hup h01
    clear hIns hk2 hW1 hW2
  all_goals go_upto_region 12 with fail
  all_goals go_wp2_with (first | (at_builtin; refine wpList_append_own_none rfl _ _ 30 rfl 0 5 i0 1 Tryz.underlying30 hi _ 0 [] rfl HOn.out HVx.out ?_; have HE := Lib.hid (append_end_new_none hIn.out.at_)) | (go_at_call 41; refine (HH.out _ _ _ HE.out.at_).mono ?_; rintro e w5 ⟨rfl, hfb, hk⟩; have HE5 := Lib.hid ((hIn.out.trans (HE.out.trans (HE.out.at_.hitW hfb hk))).pre HKW.out); clear hfb hk))
  all_goals (go_ret; exact ⟨_, _, ret_int (by rw [HE0.out]; rfl), HE5.out⟩)
end Go.Proofs.YtibalgfejfjndaaGreatDoor
end

/-! Append of whatever slice, nil or not. -/
section
set_option linter.unusedVariables false
set_option linter.unusedSimpArgs false
namespace Go.Proofs.YtibalgfejfjndaaGreatDoor
open Go.RowKit

theorem append_old (A : Option Addr) (n c : Nat) (w : World) (F M : Nat) (lim arm : Int) (l1 l2 : List PF) (p : PF) (clock : Nat) (xs : List UInt8) (hs : p.name.size ≤ 140737488355328) (hf : fullB p.name = true) (h : FilesAt w F M (l1 ++ p :: l2) clock lim arm false)
    (hu : usedL (l1 ++ p :: l2) ≤ 4194304) (hx : Bs w A xs) (hn : n = xs.length) (hA : A = none → c = 0) (hfit : Fits lim (l1 ++ p :: l2) n) :
    Calls Tryz.prog 46 #[.pointer (some ⟨F, 0, none⟩), .string p.name, .slice A n c] w fun e w' => ∃ v, Gone (hitE arm) w F M (l1 ++ p :: l2) (l1 ++ { p with b := p.b ++ xs, val := v } :: l2) clock lim (decA arm) (decide (arm = 1)) e w' := by
  cases A with
  | some ad => exact append_old_some ad n c w F M lim arm l1 l2 p clock xs hs hf h hu hx hn hfit
  | none =>
    have h1 := hx.1 rfl
    have h2 := hA rfl
    subst h1; subst h2
    simp only [List.length_nil] at hn
    subst hn
    exact append_old_none w F M lim arm l1 l2 p clock hs hf h hu
theorem append_new (s : ByteArray) (A : Option Addr) (n c : Nat) (w : World) (F M : Nat) (lim arm : Int) (ps : List PF) (clock : Nat) (xs : List UInt8) (hno : ∀ q ∈ ps, q.name ≠ s) (hs : s.size ≤ 140737488355328) (hf : fullB s = true) (h : FilesAt w F M ps clock lim arm false)
    (hu : usedL ps ≤ 4194304) (hx : Bs w A xs) (hn : n = xs.length) (hA : A = none → c = 0) (hfit : Fits lim ps n) (hM : ∀ ad, A = some ad → xs = [] ∨ ad.block ≠ M) :
    Calls Tryz.prog 46 #[.pointer (some ⟨F, 0, none⟩), .string s, .slice A n c] w fun e w' => ∃ B v, Gone (hitE arm) w F M ps (ps ++ [⟨s, xs, 0, B, v, clock⟩]) (clock + 1) lim (decA arm) (decide (arm = 1)) e w' := by
  cases A with
  | some ad => exact append_new_some s ad n c w F M lim arm ps clock xs hno hs hf h hu hx hn hfit (hM ad rfl)
  | none =>
    have h1 := hx.1 rfl
    have h2 := hA rfl
    subst h1; subst h2
    simp only [List.length_nil] at hn
    subst hn
    exact append_new_none s w F M lim arm ps clock hno hs hf h hu
end Go.Proofs.YtibalgfejfjndaaGreatDoor
end

/-! Package files: Rename, Remove. -/
section
set_option linter.unusedVariables false
set_option linter.unusedSimpArgs false
namespace Go.Proofs.YtibalgfejfjndaaGreatDoor
open Go.RowKit

theorem FilesAt.out {w : World} {F M : Nat} {l1 l2 : List PF} {p : PF} {clock : Nat} {lim arm : Int} {dn : Bool} (h : FilesAt w F M (l1 ++ p :: l2) clock lim arm dn) :
    (∀ k ∈ p.blocks, k ∉ foot F M (l1 ++ l2)) ∧ p.blocks.Nodup := by
  have hs := h.sep
  have hne := h.ne.2 p (by simp)
  simp only [foot, List.flatMap_append, List.flatMap_cons] at hs
  rw [List.nodup_cons, List.nodup_cons] at hs
  have h3 := hs.2.2
  rw [List.nodup_append] at h3
  obtain ⟨_, h4, h5⟩ := h3
  rw [List.nodup_append] at h4
  refine ⟨fun k hk hf => ?_, h4.1⟩
  simp only [foot, List.flatMap_append, List.mem_cons, List.mem_append] at hf
  rcases hf with hf | hf | hf | hf
  · subst hf; exact hne.1 hk
  · subst hf; exact hne.2 hk
  · exact h5 k hf k (List.mem_append.2 (.inl hk)) rfl
  · exact h4.2.2 k hk k hf rfl
theorem PF.At.as {w : World} {p : PF} (h : p.At w) (s : ByteArray) (b : Nat) : ({ p with name := s, born := b } : PF).At w := ⟨h.cell, h.own, h.safe, h.len⟩
/-- One file goes. -/
theorem gone_step {w w' : World} {F M : Nat} {l1 l2 : List PF} {p : PF} {clock : Nat} {lim arm : Int} {dn : Bool} (h : FilesAt w F M (l1 ++ p :: l2) clock lim arm dn) (hw : w' = w.putObj M (.map (entriesOf (l1 ++ l2)) clock)) :
    Went w F M (l1 ++ p :: l2) (l1 ++ l2) clock lim arm dn w' := by
  have hk : Kept (fun k => k = M) w w' := by rw [hw]; exact putObj_kept _ _ _
  have hM : M < w.heap.size := h.lt M (by simp [foot])
  refine ⟨h.erase hk (by rw [hw]; exact World.putObj_heap_same hM), hk.mono fun k _ e => by subst e; simp [foot], fun k hk => .inl ?_⟩
  simp only [foot, List.flatMap_append, List.flatMap_cons, List.mem_cons, List.mem_append] at hk ⊢
  rcases hk with hk | hk | hk | hk <;> simp [hk]
set_option maxRecDepth 100000 in
set_option maxHeartbeats 1000000 in
theorem remove_any (w : World) (F M : Nat) (lim arm : Int) (l1 l2 : List PF) (p : PF) (clock : Nat) (h : FilesAt w F M (l1 ++ p :: l2) clock lim arm false) :
    Calls Tryz.prog 15 #[.pointer (some ⟨F, 0, none⟩), .string p.name] w (if arm = 1 then Gone 13 w F M (l1 ++ p :: l2) (l1 ++ p :: l2) clock lim (decA arm) true else Gone 0 w F M (l1 ++ p :: l2) (l1 ++ l2) clock lim (decA arm) false) := by
  have HF := Lib.hid h
  have H := Lib.hid (there_some w F M lim arm l1 l2 p clock h)
  have HN := Lib.hid (names_ne h.names).1
  obtain ⟨b, hb⟩ : ∃ b, b = decide (arm = 1) := ⟨_, rfl⟩
  have HH : Hid (Calls Tryz.prog 41 #[.pointer (some ⟨F, 0, none⟩)] w fun e w' => e = .returned (.bool b) ∧ FB w' F M lim (decA arm) b ∧ Kept (fun k => k = F) w w') := Lib.hid (by rw [hb]; exact hit_any w F M lim arm h.fb h.arm0)
  clear h
  cases b with
  | true =>
    rw [if_pos (by simpa using hb.symm)]
    clear hb
    go_enter Tryz.func15, Tryz.ntmps15
    go_wp2_with (first | (go_at_call 38; refine H.out.mono ?_; rintro e w' ⟨rfl, rfl⟩) | (go_at_call 41; refine HH.out.mono ?_; rintro e w1 ⟨rfl, hfb, hk⟩; have HW := Lib.hid (HF.out.hitW hfb hk); clear hfb hk))
    go_ret
    exact ⟨rfl, HW.out⟩
  | false =>
    rw [if_neg (by intro e; simp [e] at hb)]
    clear hb
    go_enter Tryz.func15, Tryz.ntmps15
    go_wp2_with (first
      | (go_at_call 38; refine H.out.mono ?_; rintro e w' ⟨rfl, rfl⟩)
      | (go_at_call 41; refine HH.out.mono ?_; rintro e w1 ⟨rfl, hfb, hk⟩; have HW := Lib.hid (HF.out.hitW hfb hk); have h0 := FB.c0 hfb; obtain ⟨W2, hW2⟩ : ∃ W2, W2 = w1.putObj M (.map (entriesOf (l1 ++ l2)) clock) := ⟨_, rfl⟩; have hdel : (Builtin.delete_ #[42, 9] 0 #[.map (some M), .string p.name]).run Tryz.prog w1 = .ok (.tuple #[]) W2 := (by rw [hW2]; exact del_some HW.out.at_.map HN.out 0); have HG := Lib.hid (gone_step HW.out.at_ hW2); clear hfb hk hW2))
    go_ret
    exact ⟨rfl, HW.out.trans HG.out⟩
/-! ### Rename -/
def setN (p : PF) (s : ByteArray) (b : Nat) : PF := { p with name := s, born := b }
/-- A file that was taken out comes in under a new name. -/
theorem come_step {w w' : World} {F M : Nat} {ps : List PF} {p : PF} {s : ByteArray} {clock : Nat} {lim arm : Int} {dn : Bool} (h : FilesAt w F M ps clock lim arm dn) (hp : p.At w) (hno : ∀ q ∈ ps, q.name ≠ s)
    (hd : ∀ k ∈ p.blocks, k ∉ foot F M ps) (hnd : p.blocks.Nodup) (hw : w' = w.putObj M (.map ((entriesOf ps).push { key := .string s, val := .pointer (some ⟨p.blk, 0, none⟩), born := clock }) (clock + 1))) :
    FilesAt w' F M (ps ++ [setN p s clock]) (clock + 1) lim arm dn ∧ Kept (fun k => k = M) w w' := by
  have hk : Kept (fun k => k = M) w w' := by rw [hw]; exact putObj_kept _ _ _
  have hM : M < w.heap.size := h.lt M (by simp [foot])
  have hp' : (setN p s clock).At w' := (hp.as s clock).kept hk (fun k hkk e => hd k hkk (by rw [e]; simp [foot]))
  exact ⟨h.insert hk (by rw [hw]; exact World.putObj_heap_same hM) rfl hp' hno hd hnd, hk⟩
theorem over_step {w w' : World} {F M : Nat} {m1 m2 : List PF} {p q : PF} {clock : Nat} {lim arm : Int} {dn : Bool} (h : FilesAt w F M (m1 ++ q :: m2) clock lim arm dn) (hp : p.At w)
    (hd : ∀ k ∈ p.blocks, k ∉ foot F M (m1 ++ q :: m2)) (hnd : p.blocks.Nodup) (hw : w' = w.putObj M (.map (entriesOf (m1 ++ { q with blk := p.blk } :: m2)) clock)) :
    FilesAt w' F M (m1 ++ setN p q.name q.born :: m2) clock lim arm dn ∧ Kept (fun k => k = M) w w' := by
  have hk : Kept (fun k => k = M) w w' := by rw [hw]; exact putObj_kept _ _ _
  have hM : M < w.heap.size := h.lt M (by simp [foot])
  have hp' : (setN p q.name q.born).At w' := (hp.as q.name q.born).kept hk (fun k hkk e => hd k hkk (by rw [e]; simp [foot]))
  refine ⟨h.point (p := setN p q.name q.born) hk rfl rfl ?_ hp' hd hnd, hk⟩
  rw [hw, World.putObj_heap_same hM]
  rw [entriesOf_mid, entriesOf_mid]
  rfl
theorem kept_none {w W w' : World} {F M : Nat} {ps ps' : List PF} {c : Nat} {lim arm : Int} {dn : Bool} (hk : Kept (fun _ => False) w W) (h : Went W F M ps ps' c lim arm dn w') : Went w F M ps ps' c lim arm dn w' :=
  ⟨h.at_, (hk.mono fun _ _ h => h.elim).trans' h.kept, fun k hm => (h.feet k hm).imp id fun hm => Nat.le_trans hk.size hm⟩
end Go.Proofs.YtibalgfejfjndaaGreatDoor
end

/-! Package files: Rename over another file. -/
section
set_option linter.unusedVariables false
set_option linter.unusedSimpArgs false
namespace Go.Proofs.YtibalgfejfjndaaGreatDoor
open Go.RowKit

end Go.Proofs.YtibalgfejfjndaaGreatDoor
end
