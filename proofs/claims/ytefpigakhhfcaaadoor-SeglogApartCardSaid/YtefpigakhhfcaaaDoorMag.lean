import Derived.Test.YtefpigakhhfcaaaDoorMaf
import Derived.Deep.QuietTactic
import Derived.BigQuiet
import Derived.IntWalk
import Derived.Laws.AppendOwnNone
/-! Package files: Append, where it refuses. -/
section
set_option linter.unusedVariables false
set_option linter.unusedSimpArgs false
namespace Go.Proofs.YtefpigakhhfcaaaDoor
open Go.RowKit

def NoR (pv : Value) (er : Int) (w : World) : Prop := Calls Tryd.prog 54 #[pv] w fun e w' => e = .returned (.int .i64 er) ∧ w = w'
set_option maxHeartbeats 1000000 in
theorem append_no (pv : Value) (s : ByteArray) (bs : Value) (er : Int) (her : (er == 0) = false) (w : World) (h : Hid (NoR pv er w)) : Calls Tryd.prog 34 #[pv, .string s, bs] w (Ret er w) := by
  go_enter Tryd.func34, Tryd.ntmps34
  go_wp2_with (go_at_call 54; refine h.out.mono ?_; rintro e w' ⟨rfl, rfl⟩)
  go_ret
  exact ⟨rfl, rfl⟩
def Kin (er : Int) (w : World) (e : Ending) (w' : World) : Prop := e = .returned (.int .i64 er) ∧ Kept (fun _ => False) w w'
theorem ready_ok (w : World) (F M : Nat) (lim arm : Int) (ps : List PF) (clock : Nat) (h : FilesAt w F M ps clock lim arm false) : NoR (.pointer (some ⟨F, 0, none⟩)) 0 w := ready_any w F M lim arm false h.fb
set_option maxHeartbeats 1000000 in
theorem append_bad (s : ByteArray) (bs : Value) (w : World) (F M : Nat) (lim arm : Int) (ps : List PF) (clock : Nat) (hs : s.size ≤ 140737488355328) (hf : fullB s = false) (h : FilesAt w F M ps clock lim arm false) :
    Calls Tryd.prog 34 #[.pointer (some ⟨F, 0, none⟩), .string s, bs] w (Kin 6 w) := by
  have H := Lib.hid (ready_ok w F M lim arm ps clock h)
  have HN := Lib.hid (full_any s w hs)
  rw [hf] at HN
  clear h hf hs
  go_enter Tryd.func34, Tryd.ntmps34
  go_wp2_with (first | (go_at_call 54; refine H.out.mono ?_; rintro e w' ⟨rfl, rfl⟩) | (go_at_call 21; refine HN.out.mono ?_; rintro e w' ⟨rfl, hk⟩))
  go_ret
  exact ⟨rfl, hk⟩
set_option maxHeartbeats 2000000 in
theorem append_full (s : ByteArray) (A : Option Addr) (n c : Nat) (w : World) (F M : Nat) (lim arm : Int) (ps : List PF) (clock : Nat) (hs : s.size ≤ 140737488355328) (hf : fullB s = true) (h : FilesAt w F M ps clock lim arm false)
    (hu : usedL ps ≤ 4194304) (hn0 : 0 < n) (hn : n ≤ 1000000000) (hlim : lim < (n : Int) + (usedL ps : Int)) :
    Calls Tryd.prog 34 #[.pointer (some ⟨F, 0, none⟩), .string s, .slice A n c] w (Kin 14 w) := by
  have HF := Lib.hid h
  have H := Lib.hid (ready_ok w F M lim arm ps clock h)
  have HN := Lib.hid (full_any s w hs)
  rw [hf] at HN
  have hl0 := h.lim0
  have HU : Hid (∀ W, Kept (fun _ => False) w W → Calls Tryd.prog 55 #[.pointer (some ⟨F, 0, none⟩)] W fun e w' => e = .returned (.int .i64 (usedL ps)) ∧ Kept (fun _ => False) W w') :=
    Lib.hid fun W hk => used_any W F M lim arm false ps clock (h.kept hk (by simp)) (by omega)
  have HC1 : Hid (∀ W, Kept (fun _ => False) w W → W.cell? ⟨F, 1, none⟩ = some (.int .i64 lim)) := Lib.hid fun W hk => FB.c1 (h.kept hk (by simp)).fb
  obtain ⟨u, hud⟩ : ∃ u, u = usedL ps := ⟨_, rfl⟩
  rw [← hud] at HU hu hlim
  have hn' : (0 : Int) < (n : Int) := by omega
  have hcmp : lim - (u : Int) < (n : Int) := by omega
  have hw1 : IntKind.i64.wrap (lim - (u : Int)) = lim - (u : Int) := IntWalk.i64_in _ (by omega)
  clear h hf hs hud
  go_enter Tryd.func34, Tryd.ntmps34
  go_wp2_with (first | (go_at_call 54; refine H.out.mono ?_; rintro e w' ⟨rfl, rfl⟩) | (go_at_call 21; refine HN.out.mono ?_; rintro e w' ⟨rfl, hk⟩; have HK := Lib.hid hk; have hc1 := HC1.out _ hk; clear hk))
  go_region_held3 (fun W => W.cell? ⟨F, 1, none⟩ = some (.int .i64 lim)) (first | assumption | simp [*]) (first | (go_at_call 55; refine (HU.out _ HK.out.drew).mono ?_; rintro e w2 ⟨rfl, hk2⟩; have HK2 := Lib.hid (HK.out.drew.trans' hk2); have hc2 := HC1.out _ HK2.out; clear hk2))
  go_wp2
  go_ret
  exact ⟨rfl, HK2.out⟩
end Go.Proofs.YtefpigakhhfcaaaDoor
end

/-! Package files: Append to a file that is there. -/
section
set_option linter.unusedVariables false
set_option linter.unusedSimpArgs false
namespace Go.Proofs.YtefpigakhhfcaaaDoor
open Go.RowKit

theorem append_end {w w3 : World} {F M : Nat} {l1 l2 : List PF} {p : PF} {clock : Nat} {lim arm : Int} {dn : Bool} {v' : Value} {xs : List UInt8}
    (h : FilesAt w F M (l1 ++ p :: l2) clock lim arm dn) (hg : w.grownBy w3 p.val.ownBlock) (hown : w3.ownsRow 0 5 1 v' (p.b.length + xs.length) (p.b.map bv ++ xs.map bv)) (hat : v'.ownBlock = p.val.ownBlock ∨ v'.ownBlock = some w.heap.size)
    (hl : p.b.length + xs.length ≤ 4194304) :
    Went w F M (l1 ++ p :: l2) (l1 ++ { p with b := p.b ++ xs, val := v' } :: l2) clock lim arm dn (w3.setCell ⟨p.blk, 0, none⟩ v') := by
  have hp := h.at_ p (by simp)
  have hne := own_ne hp.own hp.cell
  have hk3 : Kept (fun k => k ∈ p.blocks) w w3 := (Kept.refl _ w).grown hg fun k e _ => List.mem_cons_of_mem _ (by simp [e])
  have hc3 : w3.heap[p.blk]? = some (.cells #[p.val, .int .i64 p.safe] 100 (0, 0)) := by
    have := ((Kept.refl (fun k => p.val.ownBlock = some k) w).grown hg fun k e _ => e).heap hp.cell (fun e => hne _ e rfl)
    exact this
  have hps := hp.safe
  refine h.one (q := { p with b := p.b ++ xs, val := v' }) ?_ (At.store0 hc3 (by simpa using hown) (by simp; omega) (by simpa using hl)) rfl rfl rfl ?_
  · exact hk3.trans' ((kF w3 p.blk 0 _).mono fun k _ e => by subst e; exact List.mem_cons_self ..)
  · intro k hk
    simp only at hk
    rcases hat with e | e
    · exact .inl (by rw [← e]; exact hk)
    · rw [e] at hk; injection hk with hk; exact .inr (Nat.le_of_eq hk)
/-- Room enough. -/
def Fits (lim : Int) (ps : List PF) (n : Nat) : Prop := n = 0 ∨ (n : Int) + (usedL ps : Int) ≤ lim
theorem used_mid (l1 l2 : List PF) (p : PF) : usedL (l1 ++ p :: l2) = usedL (l1 ++ l2) + p.b.length := by simp [usedL]; omega
theorem frozen_kept {S : Nat → Prop} {w w' : World} (h : Kept S w w') {k : Nat} {cs : Array Value} {t : TypeId} (hc : w.heap[k]? = some (.cells cs t (0, 0))) (hS : ¬ S k) (i : Nat) : w'.frozen? ⟨k, i, none⟩ = false := by
  have := h.heap hc hS
  simp [World.frozen?, this]
theorem Went.pre {w W w' : World} {F M : Nat} {ps ps' : List PF} {c : Nat} {lim arm : Int} {dn : Bool} (hk : Kept (fun _ => False) w W) (h : Went W F M ps ps' c lim arm dn w') : Went w F M ps ps' c lim arm dn w' :=
  ⟨h.at_, (hk.mono fun _ _ h => h.elim).trans' h.kept, fun k hm => (h.feet k hm).imp id fun hm => Nat.le_trans hk.size hm⟩
theorem append_step {W w3 : World} {F M : Nat} {l1 l2 : List PF} {p : PF} {clock n c0 : Nat} {A0 : Option Addr} {lim arm : Int} {dn : Bool} {v' : Value} {xs : List UInt8}
    (h : FilesAt W F M (l1 ++ p :: l2) clock lim arm dn) (hv : p.val = .slice A0 p.b.length c0) (hg : W.grownBy w3 (Value.slice A0 p.b.length c0).ownBlock) (hown : w3.ownsRow 0 5 1 v' (p.b.length + n) (p.b.map bv ++ xs.map bv)) (hn : n = xs.length)
    (hat : v'.ownBlock = (Value.slice A0 p.b.length c0).ownBlock ∨ v'.ownBlock = some W.heap.size) (hl : p.b.length + xs.length ≤ 4194304) :
    (∃ A c, v' = .slice A (p.b.length + n) c) ∧ w3.frozen? ⟨p.blk, 0, none⟩ = false ∧ w3.cell? ⟨p.blk, 0, none⟩ = some (.slice A0 p.b.length c0) ∧
    Went W F M (l1 ++ p :: l2) (l1 ++ { p with b := p.b ++ xs, val := v' } :: l2) clock lim arm dn (w3.setCell ⟨p.blk, 0, none⟩ v') := by
  have hp := h.at_ p (by simp)
  have hne := own_ne hp.own hp.cell
  have hk3 : Kept (fun k => p.val.ownBlock = some k) W w3 := (Kept.refl _ W).grown hg fun k e _ => by rw [hv]; exact e
  refine ⟨?_, frozen_kept hk3 hp.cell (fun e => hne _ e rfl) 0, ?_, append_end h (by rw [hv]; exact hg) (by rw [← hn]; exact hown) (by rw [hv]; exact hat) hl⟩
  · rcases hown.2 with ⟨hv, h0⟩ | ⟨g, cap, cur, hv, _⟩
    · exact ⟨none, 0, by rw [hv, h0]⟩
    · exact ⟨_, _, hv⟩
  · have := hk3.heap hp.cell (fun e => hne _ e rfl)
    simp [World.cell?, this, hv]
def hitE (arm : Int) : Int := if arm = 1 then 13 else 0
set_option maxRecDepth 100000 in
set_option maxHeartbeats 4000000 in
theorem append_old_some (ad : Addr) (n c : Nat) (w : World) (F M : Nat) (lim arm : Int) (l1 l2 : List PF) (p : PF) (clock : Nat) (xs : List UInt8) (hs : p.name.size ≤ 140737488355328) (hf : fullB p.name = true) (h : FilesAt w F M (l1 ++ p :: l2) clock lim arm false)
    (hu : usedL (l1 ++ p :: l2) ≤ 4194304) (hx : Bs w (some ad) xs) (hn : n = xs.length) (hfit : Fits lim (l1 ++ p :: l2) n) :
    Calls Tryd.prog 34 #[.pointer (some ⟨F, 0, none⟩), .string p.name, .slice (some ad) n c] w fun e w' => ∃ v, Gone (hitE arm) w F M (l1 ++ p :: l2) (l1 ++ { p with b := p.b ++ xs, val := v } :: l2) clock lim (decA arm) (decide (arm = 1)) e w' := by
  have HF := Lib.hid h
  have H := Lib.hid (ready_ok w F M lim arm _ clock h)
  have HN := Lib.hid (full_any p.name w hs)
  rw [hf] at HN
  have hl0 := h.lim0
  have HU : Hid (∀ W, Kept (fun _ => False) w W → Calls Tryd.prog 55 #[.pointer (some ⟨F, 0, none⟩)] W fun e w' => e = .returned (.int .i64 (usedL (l1 ++ p :: l2))) ∧ Kept (fun _ => False) W w') :=
    Lib.hid fun W hk => used_any W F M lim arm false _ clock (h.kept hk (by simp)) (by omega)
  obtain ⟨b, hb⟩ : ∃ b, b = decide (arm = 1) := ⟨_, rfl⟩
  have HH : Hid (∀ W ps', FilesAt W F M ps' clock lim arm false → Calls Tryd.prog 50 #[.pointer (some ⟨F, 0, none⟩)] W fun e w' => e = .returned (.bool b) ∧ FB w' F M lim (decA arm) b ∧ Kept (fun k => k = F) W w') := Lib.hid fun W ps' h' => by
    rw [hb]; exact hit_any W F M lim arm h'.fb h'.arm0
  have HE0 : Hid (hitE arm = if b then 13 else 0) := Lib.hid (by rw [hb]; simp [hitE])
  have HC1 : Hid (∀ W, Kept (fun _ => False) w W → W.cell? ⟨F, 1, none⟩ = some (.int .i64 lim)) := Lib.hid fun W hk => FB.c1 (h.kept hk (by simp)).fb
  have hpl : p.b.length ≤ usedL (l1 ++ p :: l2) := by rw [used_mid]; omega
  have hp0 := h.at_ p (by simp)
  obtain ⟨A0, c0, hv, _, _, _, _⟩ := Bs.of_own hp0.own
  have HV := Lib.hid hv
  have HX := Lib.hid hx
  have HNx := Lib.hid hn
  have Hlen : Hid (p.b.length + xs.length ≤ 4194304) := Lib.hid (by rcases hfit with e | e; have := hp0.len; omega; omega)
  have hln : n ≤ 4194304 := by have := Hlen.out; omega
  obtain ⟨i0, hi, hz0, hz1, hz2⟩ := info_parts infoU8
  obtain ⟨u, hud⟩ : ∃ u, u = usedL (l1 ++ p :: l2) := ⟨_, rfl⟩
  unfold Fits at hfit
  rw [← hud] at HU hu hfit
  have hw1 : IntKind.i64.wrap (lim - (u : Int)) = lim - (u : Int) := IntWalk.i64_in _ (by omega)
  have HL : Hid (∀ W, Kept (fun _ => False) w W → (Instr.lookup 74 (.map (some M)) (.string p.name) true).run Tryd.prog W = .ok (.tuple #[.pointer (some ⟨p.blk, 0, none⟩), .bool true]) W) := Lib.hid fun W hk => by
    have := look_some (h.kept hk (by simp)).map (names_ne h.names).1 true
    rwa [if_pos rfl] at this
  rw [← hb]
  clear h hf hs hud hv hx hn hp0 hpl hb
  have Hpart : Hid (n = 0 ∨ (n : Int) + (u : Int) ≤ lim) := Lib.hid hfit
  clear hfit
  cases b
  all_goals (rcases Nat.eq_zero_or_pos n with hz | hz)
  all_goals first
    | subst hz
    | (have hn' : (0 : Int) < (n : Int) := by omega
       have hcmp : ¬ lim - (u : Int) < (n : Int) := by have := Hpart.out; omega)
  all_goals go_enter Tryd.func34, Tryd.ntmps34
  all_goals go_wp2_with (first | (go_at_call 54; refine H.out.mono ?_; rintro e w' ⟨rfl, rfl⟩) | (go_at_call 21; refine HN.out.mono ?_; rintro e w' ⟨rfl, hk⟩; have HK := Lib.hid hk; have hc1 := HC1.out _ hk; clear hk))
  all_goals first
    | (fail_if_success (have := hcmp)
       go_quiet (fail)
       have HKW := Lib.hid (HK.out.drewN nq)
       generalize w'.drewN nq = W at HKW ⊢
       obtain ⟨V, hV⟩ : ∃ V, V = Value.slice (some ad) 0 c := ⟨_, rfl⟩
       rw [← hV]
       have HVx := Lib.hid hV
       clear hV)
    | (go_region_held3 (fun W => W.cell? ⟨F, 1, none⟩ = some (.int .i64 lim)) (first | assumption | simp [*]) (first | (go_at_call 55; refine (HU.out _ HK.out.drew).mono ?_; rintro e W ⟨rfl, hk2⟩; have HKW := Lib.hid (HK.out.drew.trans' hk2); have hc2 := HC1.out _ HKW.out; clear hk2))
       obtain ⟨V, hV⟩ : ∃ V, V = Value.slice (some ad) n c := ⟨_, rfl⟩
       rw [← hV]
       have HVx := Lib.hid hV
       clear hV)
  all_goals
    have HFW := Lib.hid (HF.out.kept HKW.out (by simp))
    have hl := HL.out _ HKW.out
    have h0 := FB.c0 HFW.out.fb
    have hp := HFW.out.at_ p (by simp)
    have hown := hp.own
    have hc := hp.c0
    have hc' := hp.cell
    rw [HV.out] at hown hc
    have HO := Lib.hid hown
    have HXW := Lib.hid (HX.out.kept HKW.out (by simp))
    have HCp := Lib.hid hc'
    clear hp hown hc'
  all_goals go_wp2_with (first | (at_builtin; refine wpList_append_own_at _ rfl _ _ 31 rfl 0 5 i0 (.int .u8 0) 1 1 Tryd.underlying31 hi hz0 hz1 hz2 rfl (by decide) _ p.b.length (p.b.map bv) rfl HO.out ad _ c (xs.map bv) HVx.out (by have := HNx.out; rw [List.length_map]; omega) (HXW.out.2 ad rfl) (bv_one xs) (by have := Hlen.out; have := HNx.out; unfold maxLen; omega) (by have := Hlen.out; have := HNx.out; omega) (Nat.zero_le _) ?_; intro v' w3 hown hgrow hnil hat; obtain ⟨⟨A', c', rfl⟩, gf, gc, hE⟩ := append_step HFW.out HV.out hgrow hown HNx.out hat Hlen.out; have HE := Lib.hid hE; clear hown hgrow hnil hat hE) | (go_at_call 50; refine (HH.out _ _ HE.out.at_).mono ?_; rintro e w5 ⟨rfl, hfb, hk⟩; have HE5 := Lib.hid ((HE.out.trans (HE.out.at_.hitW hfb hk)).pre HKW.out); clear hfb hk))
  all_goals (go_ret; exact ⟨_, ret_int (by rw [HE0.out]; rfl), HE5.out⟩)
end Go.Proofs.YtefpigakhhfcaaaDoor
end

/-! Package files: Append: no bytes, new files. -/
section
set_option linter.unusedVariables false
set_option linter.unusedSimpArgs false
namespace Go.Proofs.YtefpigakhhfcaaaDoor
open Go.RowKit

theorem append_end_none {W : World} {F M : Nat} {l1 l2 : List PF} {p : PF} {clock c0 : Nat} {A0 : Option Addr} {lim arm : Int} {dn : Bool}
    (h : FilesAt W F M (l1 ++ p :: l2) clock lim arm dn) (hv : p.val = .slice A0 p.b.length c0) :
    Went W F M (l1 ++ p :: l2) (l1 ++ { p with b := p.b ++ [], val := .slice A0 p.b.length c0 } :: l2) clock lim arm dn (W.setCell ⟨p.blk, 0, none⟩ (.slice A0 p.b.length c0)) := by
  have hp := h.at_ p (by simp)
  have := append_end h (w3 := W) (v' := p.val) (xs := []) ⟨rfl, rfl, rfl, Nat.le_refl _, fun _ _ _ => rfl⟩ (by simpa using hp.own) (.inl rfl) (by simpa using hp.len)
  rw [hv] at this
  exact this
set_option maxRecDepth 100000 in
set_option maxHeartbeats 4000000 in
theorem append_old_none (w : World) (F M : Nat) (lim arm : Int) (l1 l2 : List PF) (p : PF) (clock : Nat) (hs : p.name.size ≤ 140737488355328) (hf : fullB p.name = true) (h : FilesAt w F M (l1 ++ p :: l2) clock lim arm false)
    (hu : usedL (l1 ++ p :: l2) ≤ 4194304) :
    Calls Tryd.prog 34 #[.pointer (some ⟨F, 0, none⟩), .string p.name, .slice none 0 0] w fun e w' => ∃ v, Gone (hitE arm) w F M (l1 ++ p :: l2) (l1 ++ { p with b := p.b ++ [], val := v } :: l2) clock lim (decA arm) (decide (arm = 1)) e w' := by
  have HF := Lib.hid h
  have H := Lib.hid (ready_ok w F M lim arm _ clock h)
  have HN := Lib.hid (full_any p.name w hs)
  rw [hf] at HN
  have hl0 := h.lim0
  have HU : Hid (∀ W, Kept (fun _ => False) w W → Calls Tryd.prog 55 #[.pointer (some ⟨F, 0, none⟩)] W fun e w' => e = .returned (.int .i64 (usedL (l1 ++ p :: l2))) ∧ Kept (fun _ => False) W w') :=
    Lib.hid fun W hk => used_any W F M lim arm false _ clock (h.kept hk (by simp)) (by omega)
  obtain ⟨b, hb⟩ : ∃ b, b = decide (arm = 1) := ⟨_, rfl⟩
  have HH : Hid (∀ W ps', FilesAt W F M ps' clock lim arm false → Calls Tryd.prog 50 #[.pointer (some ⟨F, 0, none⟩)] W fun e w' => e = .returned (.bool b) ∧ FB w' F M lim (decA arm) b ∧ Kept (fun k => k = F) W w') := Lib.hid fun W ps' h' => by
    rw [hb]; exact hit_any W F M lim arm h'.fb h'.arm0
  have HE0 : Hid (hitE arm = if b then 13 else 0) := Lib.hid (by rw [hb]; simp [hitE])
  have HC1 : Hid (∀ W, Kept (fun _ => False) w W → W.cell? ⟨F, 1, none⟩ = some (.int .i64 lim)) := Lib.hid fun W hk => FB.c1 (h.kept hk (by simp)).fb
  have hpl : p.b.length ≤ usedL (l1 ++ p :: l2) := by rw [used_mid]; omega
  have hp0 := h.at_ p (by simp)
  obtain ⟨A0, c0, hv, _, _, _, _⟩ := Bs.of_own hp0.own
  have HV := Lib.hid hv
  have Hlen : Hid (p.b.length + ([] : List UInt8).length ≤ 4194304) := Lib.hid (by have := hp0.len; simpa using this)
  obtain ⟨i0, hi, hz0, hz1, hz2⟩ := info_parts infoU8
  obtain ⟨u, hud⟩ : ∃ u, u = usedL (l1 ++ p :: l2) := ⟨_, rfl⟩
  rw [← hud] at HU hu
  have hw1 : IntKind.i64.wrap (lim - (u : Int)) = lim - (u : Int) := IntWalk.i64_in _ (by omega)
  have HL : Hid (∀ W, Kept (fun _ => False) w W → (Instr.lookup 74 (.map (some M)) (.string p.name) true).run Tryd.prog W = .ok (.tuple #[.pointer (some ⟨p.blk, 0, none⟩), .bool true]) W) := Lib.hid fun W hk => by
    have := look_some (h.kept hk (by simp)).map (names_ne h.names).1 true
    rwa [if_pos rfl] at this
  rw [← hb]
  clear h hf hs hud hv hp0 hpl hb
  cases b
  all_goals go_enter Tryd.func34, Tryd.ntmps34
  all_goals go_wp2_with (first | (go_at_call 54; refine H.out.mono ?_; rintro e w' ⟨rfl, rfl⟩) | (go_at_call 21; refine HN.out.mono ?_; rintro e w' ⟨rfl, hk⟩; have HK := Lib.hid hk; have hc1 := HC1.out _ hk; clear hk))
  all_goals
    go_quiet (fail)
    have HKW := Lib.hid (HK.out.drewN nq)
    generalize w'.drewN nq = W at HKW ⊢
    obtain ⟨V, hV⟩ : ∃ V, V = Value.slice none 0 0 := ⟨_, rfl⟩
    rw [← hV]
    have HVx := Lib.hid hV
    clear hV
  all_goals
    have HFW := Lib.hid (HF.out.kept HKW.out (by simp))
    have hl := HL.out _ HKW.out
    have h0 := FB.c0 HFW.out.fb
    have hp := HFW.out.at_ p (by simp)
    have hown := hp.own
    have hc := hp.c0
    have hc' := hp.cell
    rw [HV.out] at hown hc
    have HO := Lib.hid hown
    have gf := (HFW.out.at_ p (by simp)).fz 0
    have HCp := Lib.hid hc'
    clear hp hown hc'
  all_goals go_wp2_with (first | (at_builtin; refine wpList_append_own_none rfl _ _ 31 rfl 0 5 i0 1 Tryd.underlying31 hi _ p.b.length (p.b.map bv) rfl HO.out HVx.out ?_; have HE := Lib.hid (append_end_none HFW.out HV.out)) | (go_at_call 50; refine (HH.out _ _ HE.out.at_).mono ?_; rintro e w5 ⟨rfl, hfb, hk⟩; have HE5 := Lib.hid ((HE.out.trans (HE.out.at_.hitW hfb hk)).pre HKW.out); clear hfb hk))
  all_goals (go_ret; exact ⟨_, ret_int (by rw [HE0.out]; rfl), HE5.out⟩)
end Go.Proofs.YtefpigakhhfcaaaDoor
end
